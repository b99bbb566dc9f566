/- Plain law: conditions and premises of what fits are true in each solution. No code is walked here. -/
import Derived.Test.YtimkijmjbnmcbaaGreatYmOq
import Derived.Test.YtimkijmjbnmcbaaGreatYm16
namespace Go.Proofs.YtimkijmjbnmcbaaGreat
open Go.RowKit
/-- The symbol of a cell. -/
def gat (grid : List Int) (x : Int) : Int := num grid x.toNat
/-- How many cells have one of some symbols. -/
def cntL (grid cells symbols : List Int) : Nat := (cells.filter fun c => memB symbols (gat grid c)).length
/-- How many cells have a symbol of a set. -/
def cntS (grid cells : List Int) (set : Int) : Nat := (cells.filter fun c => hasS set (gat grid c).toNat).length
def valOf (q : Problem) (grid : List Int) (x : Int) : Int := num q.values (gat grid x).toNat
def isDiff (grid own : List Int) : Bool := (List.range own.length).all fun i => decide (cntL grid (own.take i) [gat grid (num own i)] = 0)
def isRise (q : Problem) (grid own : List Int) : Bool := (List.range own.length).all fun i => i == 0 || decide (valOf q grid (num own (i - 1)) < valOf q grid (num own i))
/-- A condition is true in a finished grid. -/
def isK (q : Problem) (grid : List Int) (kind n : Int) (own letters : List Int) : Bool :=
  if kind = 1 then isDiff grid own
  else if kind = 2 then decide (0 < cntL grid own letters)
  else if kind = 3 then decide (n ≤ max (valOf q grid (num own 0) - valOf q grid (num own 1)) (valOf q grid (num own 1) - valOf q grid (num own 0)))
  else if kind = 4 then isRise q grid own
  else if kind = 5 then memB (row q.neighbors (num own 0).toNat) (num own 1)
  else if kind = 6 then decide ((cntL grid own letters : Int) = n)
  else true
def isB (q : Problem) (grid : List Int) (c : Cond) (cells symbols : List Int) : Bool := isK q grid c.kind c.n (chosen cells c.cells) (chosen symbols c.letters)
/-- What is known of a constraint that a grid meets. -/
structure GoodC (q : Problem) (grid : List Int) (c : Cons) : Prop where
  d : c.kind = 1 → (c.cells.map (gat grid)).Nodup
  n : c.kind = 2 → c.lo ≤ cntS grid c.cells c.set ∧ (cntS grid c.cells c.set : Int) ≤ c.hi
  r : c.kind = 4 → (c.cells.map (valOf q grid)).Pairwise (· < ·)
  a : c.kind = 6 → ∀ x y, c.cells = [x, y] → c.lo ≤ valOf q grid x - valOf q grid y ∨ c.lo ≤ valOf q grid y - valOf q grid x
/-- A finished grid agrees with a position. -/
structure InPos (q : Problem) (pos grid : List Int) : Prop where
  fin : ∀ x : Int, 0 ≤ x → x < q.cells → 0 ≤ gat grid x ∧ gat grid x < q.symbols
  has : ∀ x : Int, 0 ≤ x → x < q.cells → hasS (num pos x.toNat) (gat grid x).toNat = true
theorem diffB_nodup {l : List Int} {n : Int} (h : diffB l n = true) : l.Nodup := by
  rw [List.nodup_iff_pairwise_ne, List.pairwise_iff_getElem]
  intro i j hi hj hij
  unfold diffB at h
  have h1 := List.all_eq_true.1 h j (List.mem_range.2 hj)
  unfold diffAt at h1
  simp only [Bool.and_eq_true, Bool.not_eq_true'] at h1
  have h2 := (met_iff l j).1 h1.2 i hij
  rw [num_eq hj, num_eq hi] at h2
  exact fun e => h2 e.symm
theorem nodup_at {l : List Int} (h : l.Nodup) {i j : Nat} (hi : i < l.length) (hj : j < l.length) (e : l[i] = l[j]) : i = j := by
  rw [List.nodup_iff_pairwise_ne, List.pairwise_iff_getElem] at h
  rcases Nat.lt_trichotomy i j with hl | hl | hl
  · exact absurd e (h i j hi hj hl)
  · exact hl
  · exact absurd e.symm (h j i hj hi hl)
theorem chosen_nodup {l s : List Int} (hl : l.Nodup) (hs : s.Nodup) (hi : Idx s l.length) : (chosen l s).Nodup := by
  rw [List.nodup_iff_pairwise_ne]
  unfold chosen
  rw [List.pairwise_map]
  rw [List.nodup_iff_pairwise_ne] at hs
  refine List.Pairwise.imp_of_mem ?_ hs
  intro a b ha hb hab e
  have h1 := hi a ha
  have h2 := hi b hb
  rw [num_eq (by omega), num_eq (by omega)] at e
  have := nodup_at hl _ _ e
  omega
theorem memB_iff {l : List Int} {x : Int} : memB l x = true ↔ x ∈ l := by
  unfold memB
  rw [List.any_eq_true]
  constructor
  · rintro ⟨y, hy, e⟩; rw [beq_iff_eq] at e; subst e; exact hy
  · intro h; exact ⟨x, h, by simp⟩
theorem map_nodup_at {f : Int → Int} {l : List Int} (h : (l.map f).Nodup) {a b : Int} (ha : a ∈ l) (hb : b ∈ l) (e : f a = f b) : a = b := by
  obtain ⟨i, hi, rfl⟩ := List.getElem_of_mem ha
  obtain ⟨j, hj, rfl⟩ := List.getElem_of_mem hb
  have := nodup_at h (i := i) (j := j) (by simpa using hi) (by simpa using hj) (by simpa using e)
  subst this; rfl
theorem hasS_or (a b : Int) (k : Nat) : hasS (bits .or .i64 a b) k = (hasS a k || hasS b k) := by
  unfold hasS; rw [bits_or, bv_toInt, BitVec.getLsbD_or]
theorem hasS_pow (n k : Nat) (hn : n < 64) : hasS (2 ^ n) k = decide (n = k) := by
  unfold hasS; rw [bv_pow, BitVec.getLsbD_twoPow]; simp [hn]
theorem hasS_fold (k : Nat) : ∀ (l : List Int) (s : Int), (∀ x ∈ l, 0 ≤ x ∧ x < 64) → hasS (l.foldl (fun s x => bits .or .i64 s (2 ^ x.toNat)) s) k = (hasS s k || memB l k)
  | [], s, _ => by simp [memB]
  | x :: l, s, h => by
    have hx := h x (by simp)
    rw [List.foldl_cons, hasS_fold k l _ (fun y hy => h y (by simp [hy])), hasS_or, hasS_pow _ _ (by omega)]
    have e : memB (x :: l) (k : Int) = (decide (x.toNat = k) || memB l k) := by
      unfold memB
      rw [List.any_cons]
      congr 1
      rw [Bool.eq_iff_iff, beq_iff_eq, decide_eq_true_eq]
      omega
    rw [e, Bool.or_assoc]
theorem hasS_setOf {l : List Int} (h : ∀ x ∈ l, 0 ≤ x ∧ x < 64) {x : Int} (hx : 0 ≤ x) : hasS (setOf l) x.toNat = memB l x := by
  unfold setOf
  rw [hasS_fold x.toNat l 0 h]
  have e : hasS 0 x.toNat = false := by unfold hasS; rw [bv_zero]; simp
  rw [e, Bool.false_or, show ((x.toNat : Nat) : Int) = x by omega]
theorem hasS_andI (a b : Int) (k : Nat) : hasS (andI a b) k = (hasS a k && hasS b k) := by
  unfold hasS; rw [bv_andI, BitVec.getLsbD_and]
theorem hasS_z (k : Nat) : hasS 0 k = false := by unfold hasS; rw [bv_zero]; simp

section
variable {q : Problem} {pos grid : List Int} {own letters : List Int} {n : Int}
theorem diff_true (hg : ∀ c ∈ q.cons, GoodC q grid c) (ho : own.Nodup) (h : diffAll q own = true) : isDiff grid own = true := by
  unfold diffAll at h
  unfold isDiff
  rw [List.all_eq_true] at *
  intro i hi
  have hi2 := List.mem_range.1 hi
  have h1 := h i hi
  rw [List.all_eq_true] at h1
  rw [decide_eq_true_eq]
  unfold cntL
  rw [List.length_eq_zero_iff, List.filter_eq_nil_iff]
  intro a ha hm
  rw [memB_iff, List.mem_singleton] at hm
  obtain ⟨k, hk, rfl⟩ := List.mem_take_iff_getElem.1 ha
  have h2 := h1 k (List.mem_range.2 (by omega))
  unfold pairB at h2
  rw [List.any_eq_true] at h2
  obtain ⟨c, hc, hp⟩ := h2
  simp only [Bool.and_eq_true, beq_iff_eq] at hp
  obtain ⟨⟨hk1, hm1⟩, hm2⟩ := hp
  rw [memB_iff] at hm1 hm2
  rw [num_eq hi2] at hm hm1
  rw [num_eq (by omega)] at hm2
  have e := map_nodup_at ((hg c hc).d hk1) hm2 hm1 hm
  have := nodup_at ho _ _ e
  omega
theorem home_true (hv : validB q = true) (hg : ∀ c ∈ q.cons, GoodC q grid c) (hp : InPos q pos grid) (hs : 0 ≤ num letters 0 ∧ num letters 0 < q.symbols) (hl : 0 < letters.length) (h : q.cons.any (fun c => homeB q pos c own (num letters 0)) = true) : 0 < cntL grid own letters := by
  rw [List.any_eq_true] at h
  obtain ⟨c, hc, h⟩ := h
  unfold homeB at h
  simp only [Bool.and_eq_true, beq_iff_eq] at h
  obtain ⟨⟨⟨hk, hn⟩, hsub⟩, hall⟩ := h
  have hci := fun i hi => (fine_cells hv hc).1 i hi
  have hin : ∀ x ∈ c.cells, 0 ≤ x ∧ x < q.cells := by
    intro x hx
    obtain ⟨i, hi, rfl⟩ := List.getElem_of_mem hx
    have := hci i hi
    rwa [num_eq hi] at this
  have hex : ∃ x ∈ c.cells, gat grid x = num letters 0 := by
    false_or_by_contra
    rename_i hno
    have hd := (hg c hc).d hk
    have hd2 : ((num letters 0).toNat :: (c.cells.map (gat grid)).map Int.toNat).Nodup := by
      rw [List.nodup_cons]
      constructor
      · intro hm
        obtain ⟨y, hy, e⟩ := List.mem_map.1 hm
        obtain ⟨x, hx, rfl⟩ := List.mem_map.1 hy
        have := hin x hx
        have := hp.fin x this.1 this.2
        exact hno ⟨x, hx, by omega⟩
      · rw [List.nodup_iff_pairwise_ne] at *
        rw [List.pairwise_map]
        refine List.Pairwise.imp_of_mem ?_ hd
        intro a b ha hb hab e
        obtain ⟨x, hx, rfl⟩ := List.mem_map.1 ha
        obtain ⟨y, hy, rfl⟩ := List.mem_map.1 hb
        have h1 := hin x hx
        have h2 := hin y hy
        have h3 := hp.fin x h1.1 h1.2
        have h4 := hp.fin y h2.1 h2.2
        exact hab (by omega)
    have := pigeon q.symbols.toNat _ hd2 (by
      intro y hy
      rcases List.mem_cons.1 hy with rfl | hy
      · omega
      · obtain ⟨z, hz, rfl⟩ := List.mem_map.1 hy
        obtain ⟨x, hx, rfl⟩ := List.mem_map.1 hz
        have h1 := hin x hx
        have h3 := hp.fin x h1.1 h1.2
        omega)
    simp only [List.length_cons, List.length_map] at this
    omega
  obtain ⟨x, hx, e⟩ := hex
  have hx2 := hin x hx
  have h1 := List.all_eq_true.1 hall x hx
  unfold homeAt at h1
  rw [Bool.or_eq_true] at h1
  have hhas := hp.has x hx2.1 hx2.2
  rw [e] at hhas
  have hm : memB own x = true := by
    rcases h1 with h1 | h1
    · exact h1
    · rw [hhas] at h1; cases h1
  rw [memB_iff] at hm
  unfold cntL
  refine List.length_pos_of_mem (a := x) (List.mem_filter.2 ⟨hm, ?_⟩)
  rw [memB_iff, e, num_eq hl]
  exact List.getElem_mem _
theorem apart_true (hv : validB q = true) (hg : ∀ c ∈ q.cons, GoodC q grid c) (ho : own.Nodup) (h2 : own.length = 2) (h : q.cons.any (fun c => apartB c own n) = true) :
    n ≤ max (valOf q grid (num own 0) - valOf q grid (num own 1)) (valOf q grid (num own 1) - valOf q grid (num own 0)) := by
  rw [List.any_eq_true] at h
  obtain ⟨c, hc, h⟩ := h
  unfold apartB at h
  simp only [Bool.and_eq_true, beq_iff_eq, decide_eq_true_eq] at h
  obtain ⟨⟨hk, hsub⟩, hn⟩ := h
  have hfi := fine_of hv hc
  unfold fineB kindOk at hfi
  simp only [Bool.and_eq_true, decide_eq_true_eq] at hfi
  have hcl := hfi.1.2.2.2.1 (.inl hk)
  obtain ⟨x, y, hxy⟩ : ∃ x y, c.cells = [x, y] := by
    match hcc : c.cells with
    | [x, y] => exact ⟨x, y, rfl⟩
    | [] => rw [hcc] at hcl; simp at hcl
    | [_] => rw [hcc] at hcl; simp at hcl
    | _ :: _ :: _ :: t => rw [hcc] at hcl; simp only [List.length_cons] at hcl; omega
  obtain ⟨a, b, hab⟩ : ∃ a b, own = [a, b] := by
    match hcc : own with
    | [x, y] => exact ⟨x, y, rfl⟩
    | [] => simp at h2
    | [_] => simp at h2
    | _ :: _ :: _ :: t => simp only [List.length_cons] at h2; omega
  have hgo := (hg c hc).a hk x y hxy
  unfold subB at hsub
  rw [List.all_eq_true, hab] at hsub
  have m1 := memB_iff.1 (hsub a (by simp))
  have m2 := memB_iff.1 (hsub b (by simp))
  rw [hab] at ho ⊢
  rw [hxy] at m1 m2
  have hne : a ≠ b := by simpa using ho
  have e0 : num [a, b] 0 = a := rfl
  have e1 : num [a, b] 1 = b := rfl
  rw [e0, e1]
  simp only [List.mem_cons, List.not_mem_nil, or_false] at m1 m2
  rcases m1 with rfl | rfl <;> rcases m2 with rfl | rfl
  · exact absurd rfl hne
  · omega
  · omega
  · exact absurd rfl hne
theorem rise_true (hg : ∀ c ∈ q.cons, GoodC q grid c) (h : q.cons.any (fun c => riseB c own) = true) : isRise q grid own = true := by
  rw [List.any_eq_true] at h
  obtain ⟨c, hc, h⟩ := h
  unfold riseB at h
  simp only [Bool.and_eq_true, beq_iff_eq, List.isSublist_iff_sublist] at h
  have hp := ((hg c hc).r h.1).sublist (h.2.map (valOf q grid))
  unfold isRise
  rw [List.all_eq_true]
  intro i hi
  have hi2 := List.mem_range.1 hi
  rw [Bool.or_eq_true, beq_iff_eq, decide_eq_true_eq]
  by_cases e : i = 0
  · exact .inl e
  · right
    have := List.pairwise_iff_getElem.1 hp (i - 1) i (by simp; omega) (by simpa using hi2) (by omega)
    rw [num_eq (by omega), num_eq hi2]
    simpa using this
theorem filter_len_split (p r : Int → Bool) (l : List Int) : (l.filter p).length = (l.filter fun x => r x && p x).length + (l.filter fun x => !(r x) && p x).length := by
  induction l with
  | nil => rfl
  | cons x l ih =>
    simp only [List.filter_cons]
    cases p x <;> cases r x <;> simp <;> omega
theorem nodup_le : ∀ {A B : List Int}, A.Nodup → (∀ x ∈ A, x ∈ B) → A.length ≤ B.length
  | [], _, _, _ => by simp
  | a :: A, B, hn, h => by
    rw [List.nodup_cons] at hn
    have ha := h a (by simp)
    have := nodup_le (A := A) (B := B.erase a) hn.2 fun x hx => (List.mem_erase_of_ne (fun e : x = a => hn.1 (by rw [← e]; exact hx))).2 (h x (by simp [hx]))
    rw [List.length_erase_of_mem ha] at this
    have := List.length_pos_of_mem ha
    simp only [List.length_cons]
    omega
theorem filter_own {own cells : List Int} (p : Int → Bool) (h1 : own.Nodup) (h2 : cells.Nodup) (h : ∀ x ∈ own, x ∈ cells) : (cells.filter fun x => memB own x && p x).length = (own.filter p).length := by
  apply Nat.le_antisymm
  · refine nodup_le (h2.filter _) fun x hx => ?_
    obtain ⟨-, hx⟩ := List.mem_filter.1 hx
    rw [Bool.and_eq_true, memB_iff] at hx
    exact List.mem_filter.2 hx
  · refine nodup_le (h1.filter _) fun x hx => ?_
    obtain ⟨hx, hp⟩ := List.mem_filter.1 hx
    exact List.mem_filter.2 ⟨h x hx, by rw [Bool.and_eq_true, memB_iff]; exact ⟨hx, hp⟩⟩
theorem quota_true (hv : validB q = true) (hg : ∀ c ∈ q.cons, GoodC q grid c) (hp : InPos q pos grid) (ho : own.Nodup) (hl : ∀ x ∈ letters, 0 ≤ x ∧ x < 64) (hd : deadB pos = false) (hlen : (pos.length : Int) = q.cells) (h : q.cons.any (fun c => quotaB pos c own (setOf letters) n) = true) : (cntL grid own letters : Int) = n := by
  rw [List.any_eq_true] at h
  obtain ⟨c, hc, h⟩ := h
  unfold quotaB at h
  simp only [Bool.and_eq_true, beq_iff_eq] at h
  obtain ⟨⟨⟨⟨⟨hk, hlh⟩, hset⟩, hsub⟩, hall⟩, hleft⟩ := h
  have hin : ∀ x ∈ c.cells, 0 ≤ x ∧ x < q.cells := by
    intro x hx
    obtain ⟨i, hi, rfl⟩ := List.getElem_of_mem hx
    have := (fine_cells hv hc).1 i hi
    rwa [num_eq hi] at this
  have hcnt := (hg c hc).n hk
  have hc2 : (cntS grid c.cells c.set : Int) = c.lo := by omega
  unfold cntS at hc2
  rw [filter_len_split _ (memB own)] at hc2
  have e1 : (c.cells.filter fun x => memB own x && hasS c.set (gat grid x).toNat).length = cntL grid own letters := by
    rw [filter_own _ ho (cons_nodup hv hc) (fun x hx => by unfold subB at hsub; exact memB_iff.1 (List.all_eq_true.1 hsub x hx))]
    unfold cntL
    congr 1
    refine filter_congr' fun x hx => ?_
    have hx2 := hin x (by unfold subB at hsub; exact memB_iff.1 (List.all_eq_true.1 hsub x hx))
    rw [hset, hasS_setOf hl (hp.fin x hx2.1 hx2.2).1]
  have e2 : (c.cells.filter fun x => !(memB own x) && hasS c.set (gat grid x).toNat).length = (c.cells.filter (quotaIn pos own (setOf letters))).length := by
    congr 1
    refine filter_congr' fun x hx => ?_
    have hx2 := hin x hx
    have ha := List.all_eq_true.1 hall x hx
    have hh := hp.has x hx2.1 hx2.2
    unfold quotaAt at ha
    unfold quotaIn
    cases hm : memB own x
    · rw [hm] at ha
      simp only [Bool.false_or, Bool.or_eq_true, beq_iff_eq] at ha
      simp only [Bool.not_false, Bool.true_and]
      rw [hset]
      have hnz : num pos x.toNat ≠ 0 := (dead_num.1 hd) _ (by omega)
      rcases ha with ha | ha
      · have h3 := congrArg (fun z => hasS z (gat grid x).toNat) ha
        simp only [hasS_andI, hasS_z, hh, Bool.true_and] at h3
        rw [h3, ha]
        symm
        rw [beq_eq_false_iff_ne]
        exact fun e => hnz e.symm
      · have h3 := congrArg (fun z => hasS z (gat grid x).toNat) ha
        simp only [hasS_andI, hh, Bool.true_and] at h3
        rw [h3, ha]
        simp
    · simp
  rw [e1, e2] at hc2
  unfold leftN at hleft
  omega
theorem prem_true (hp : InPos q pos grid) {cells symbols : List Int} {y : Premise} (hc : ∀ x ∈ cells, 0 ≤ x ∧ x < q.cells) (hs : ∀ x ∈ symbols, 0 ≤ x ∧ x < 64) (hy : 0 ≤ y.cell ∧ y.cell < (cells.length : Int)) (hi : Idx y.letters symbols.length) (h : premB1 pos cells symbols y = true) : cntL grid [num cells y.cell.toNat] (chosen symbols y.letters) = 1 := by
  unfold premB1 at h
  rw [beq_iff_eq] at h
  have hx := hc (num cells y.cell.toNat) (by rw [num_eq (by omega)]; exact List.getElem_mem _)
  have h3 := congrArg (fun z => hasS z (gat grid (num cells y.cell.toNat)).toNat) h
  simp only [hasS_andI, hp.has _ hx.1 hx.2, Bool.true_and] at h3
  rw [hasS_setOf (fun z hz => hs z (chosen_mem hi hz)) (hp.fin _ hx.1 hx.2).1] at h3
  unfold cntL
  rw [List.filter_cons, h3]
  rfl
end
/-- The conditions are true. -/
theorem cond_true {q : Problem} {pos grid cells symbols : List Int} {c : Cond} (hck : checkB q pos = true) (hg : ∀ c ∈ q.cons, GoodC q grid c) (hp : InPos q pos grid) (d1 : diffB cells q.cells = true) (d2 : diffB symbols q.symbols = true) (hc : condB c cells.length symbols.length = true) (hm : metB q pos c cells symbols = true) : isB q grid c cells symbols = true := by
  have hv : validB q = true := by unfold checkB at hck; rw [Bool.and_eq_true] at hck; exact hck.1
  have hlen : (pos.length : Int) = q.cells := by unfold checkB okPos at hck; simp only [Bool.and_eq_true, decide_eq_true_eq] at hck; exact hck.2.1
  have hbd := valid_bd hv
  have hco : CondOK q c cells symbols := condOK_of d1 d2 hc
  have hn1 := diffB_nodup d1
  unfold metB at hm
  rw [Bool.and_eq_true, Bool.not_eq_true'] at hm
  obtain ⟨hd, hm⟩ := hm
  have hcn : c.cells.Nodup := by
    unfold condB at hc; simp only [Bool.and_eq_true] at hc; exact diffB_nodup hc.1.1.1
  have ho := chosen_nodup hn1 hcn hco.ci
  have hk := hco.kind
  have hlo : ∀ x ∈ chosen symbols c.letters, 0 ≤ x ∧ x < 64 := fun x hx => by have := hco.symbols x (chosen_mem hco.li hx); omega
  have ls1 : (chosen cells c.cells).length = c.cells.length := chosen_len _ _
  have ls2 : (chosen symbols c.letters).length = c.letters.length := chosen_len _ _
  unfold isB isK
  unfold metC at hm
  by_cases k1 : c.kind = 1
  · rw [if_pos k1] at hm ⊢
    exact diff_true hg ho hm
  rw [if_neg k1] at hm ⊢
  by_cases k5 : c.kind = 5
  · rw [if_pos k5] at hm
    rw [if_neg (by omega), if_neg (by omega), if_neg (by omega), if_pos k5]
    exact hm
  rw [if_neg k5] at hm
  by_cases k2 : c.kind = 2
  · rw [if_pos k2]
    have e : metOne q pos c.kind c.n (chosen cells c.cells) (chosen symbols c.letters) = fun x => homeB q pos x (chosen cells c.cells) (num (chosen symbols c.letters) 0) := by funext x; unfold metOne; rw [if_pos k2]
    rw [e] at hm
    unfold kindC at hk
    rw [if_neg (by omega), if_pos k2, decide_eq_true_eq] at hk
    have hs0 : 0 < (chosen symbols c.letters).length := by omega
    rw [decide_eq_true_eq]
    refine home_true hv hg hp ?_ hs0 hm
    rw [num_eq hs0]
    exact hco.symbols _ (chosen_mem hco.li (List.getElem_mem _))
  rw [if_neg k2]
  by_cases k3 : c.kind = 3
  · rw [if_pos k3]
    have e : metOne q pos c.kind c.n (chosen cells c.cells) (chosen symbols c.letters) = fun x => apartB x (chosen cells c.cells) c.n := by funext x; unfold metOne; rw [if_neg k2, if_pos k3]
    rw [e] at hm
    unfold kindC at hk
    rw [if_neg (by omega), if_neg k2, if_pos k3, decide_eq_true_eq] at hk
    rw [decide_eq_true_eq]
    exact apart_true hv hg ho (by omega) hm
  rw [if_neg k3]
  by_cases k4 : c.kind = 4
  · rw [if_pos k4]
    have e : metOne q pos c.kind c.n (chosen cells c.cells) (chosen symbols c.letters) = fun x => riseB x (chosen cells c.cells) := by funext x; unfold metOne; rw [if_neg k2, if_neg k3, if_pos k4]
    rw [e] at hm
    exact rise_true hg hm
  rw [if_neg k4, if_neg k5]
  by_cases k6 : c.kind = 6
  · rw [if_pos k6]
    have e : metOne q pos c.kind c.n (chosen cells c.cells) (chosen symbols c.letters) = fun x => quotaB pos x (chosen cells c.cells) (setOf (chosen symbols c.letters)) c.n := by funext x; unfold metOne; rw [if_neg k2, if_neg k3, if_neg k4, if_pos k6]
    rw [e] at hm
    rw [decide_eq_true_eq]
    exact quota_true hv hg hp ho hlo hd hlen hm
  · rw [if_neg k6]
/-- What fits is true. -/
theorem fit_true {q : Problem} {pos grid : List Int} {x : Rule} {i : Inst} (hck : checkB q pos = true) (hvr : validR x = true) (hc : i.cells.length = x.cells.length) (hs : i.symbols.length = x.letters.length) (hf : fitB q pos x i = true) (hg : ∀ c ∈ q.cons, GoodC q grid c) (hp : InPos q pos grid) :
    (∀ c ∈ x.conds, isB q grid c i.cells i.symbols = true) ∧ ∀ y ∈ x.premises, cntL grid [num i.cells y.cell.toNat] (chosen i.symbols y.letters) = 1 := by
  unfold fitB at hf
  simp only [Bool.and_eq_true, List.all_eq_true] at hf
  obtain ⟨⟨⟨⟨-, d1⟩, d2⟩, h1⟩, h2⟩ := hf
  have hv : validB q = true := by unfold checkB at hck; rw [Bool.and_eq_true] at hck; exact hck.1
  have hbd := valid_bd hv
  refine ⟨fun c hcm => cond_true hck hg hp d1 d2 (by rw [hc, hs]; exact valid_cond hvr hcm) (h1 c hcm), fun y hy => ?_⟩
  obtain ⟨e1, e2⟩ := valid_prem hvr hy
  exact prem_true hp (diff_iff d1) (fun z hz => by have := diff_iff d2 z hz; omega) (by rw [hc]; exact e1) (by rw [hs]; exact e2) (h2 y hy)
end Go.Proofs.YtimkijmjbnmcbaaGreat
