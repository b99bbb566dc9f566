/- Plain law: when a condition is met, as the two texts decide it. No code is walked here. Contracts: small functions of the reference of chapter 33 on lists of numbers. Contracts: what a constraint says of cells, in the reference. Contracts: rising cells and quotas, in the reference. Contract: quotas, in the reference. -/
import Derived.Test.YtimkijmjbnmcbaaGreatYm8
import Derived.Test.YtimkijmjbnmcbaaGreatYm11
import Derived.Test.YtimkijmjbnmcbaaGreatYm6
import Derived.Test.YtimkijmjbnmcbaaGreatYm5
namespace Go.Proofs.YtimkijmjbnmcbaaGreat
open Go.RowKit

def memB (l : List Int) (x : Int) : Bool := l.any (· == x)
/-- All of some numbers stand in a list. -/
def subB (l some : List Int) : Bool := some.all (memB l)
/-- The elements with some indices. -/
def chosen (l at_ : List Int) : List Int := at_.map fun i => num l i.toNat
/-- The set of symbols. -/
def setOf (l : List Int) : Int := l.foldl (fun s x => bits .or .i64 s (2 ^ x.toNat)) 0
def pairB (q : Problem) (a b : Int) : Bool := q.cons.any fun c => c.kind == 1 && memB c.cells a && memB c.cells b
/-- The k-th cell of a home stands among the cells, or lacks the symbol. -/
def homeAt (pos cells : List Int) (s : Int) (x : Int) : Bool := memB cells x || !(hasS (num pos x.toNat) s.toNat)
def homeB (q : Problem) (pos : List Int) (c : Cons) (cells : List Int) (s : Int) : Bool :=
  c.kind == 1 && ((c.cells.length : Int) == q.symbols) && subB c.cells cells && c.cells.all (homeAt pos cells s)
def riseB (c : Cons) (cells : List Int) : Bool := c.kind == 4 && cells.isSublist c.cells
def andI (x y : Int) : Int := bits .and .i64 x y
/-- A cell of a quota is among the cells, or has all or none of its symbols in the set. -/
def quotaAt (pos cells : List Int) (set : Int) (x : Int) : Bool := memB cells x || (andI (num pos x.toNat) set == 0 || andI (num pos x.toNat) set == num pos x.toNat)
def quotaIn (pos cells : List Int) (set : Int) (x : Int) : Bool := !(memB cells x) && andI (num pos x.toNat) set == num pos x.toNat
def leftN (pos cells : List Int) (set lo : Int) (l : List Int) : Int := lo - (l.filter (quotaIn pos cells set)).length
def quotaB (pos : List Int) (c : Cons) (cells : List Int) (set n : Int) : Bool :=
  c.kind == 2 && (c.lo == c.hi) && (c.set == set) && subB c.cells cells && c.cells.all (quotaAt pos cells set) && (leftN pos cells set c.lo c.cells == n)
def apartB (c : Cons) (cells : List Int) (n : Int) : Bool := c.kind == 6 && subB c.cells cells && decide (n ≤ c.lo)
def diffAll (q : Problem) (own : List Int) : Bool := (List.range own.length).all fun i => (List.range i).all fun k => pairB q (num own i) (num own k)
/-- A constraint meets a condition. -/
def metOne (q : Problem) (pos : List Int) (kind n : Int) (own letters : List Int) (x : Cons) : Bool :=
  if kind = 2 then homeB q pos x own (num letters 0)
  else if kind = 3 then apartB x own n
  else if kind = 4 then riseB x own
  else if kind = 6 then quotaB pos x own (setOf letters) n
  else false
def metC (q : Problem) (pos : List Int) (kind n : Int) (own letters : List Int) : Bool :=
  if kind = 1 then diffAll q own
  else if kind = 5 then memB (row q.neighbors (num own 0).toNat) (num own 1)
  else q.cons.any (metOne q pos kind n own letters)
/-- A condition is met. -/
def metB (q : Problem) (pos : List Int) (c : Cond) (cells symbols : List Int) : Bool :=
  !(deadB pos) && metC q pos c.kind c.n (chosen cells c.cells) (chosen symbols c.letters)

/-! ### The program's own way. -/
/-- A constraint of a kind contains all of some cells and satisfies a condition. -/
def someB (q : Problem) (kind : Int) (cells : List Int) (ok : Cons → Bool) : Bool :=
  q.cons.any fun c => memB c.cells (num cells 0) && c.kind == kind && (cells.drop 1).all (memB c.cells) && ok c
theorem someB_eq {q : Problem} {kind : Int} {cells : List Int} {ok : Cons → Bool} (h : 0 < cells.length) : someB q kind cells ok = q.cons.any fun c => c.kind == kind && subB c.cells cells && ok c := by
  unfold someB
  congr 1
  funext c
  obtain ⟨a, t, rfl⟩ : ∃ a t, cells = a :: t := by cases cells; simp at h; exact ⟨_, _, rfl⟩
  simp only [subB, List.all_cons, List.drop_succ_cons, List.drop_zero, num, List.getD_cons_zero]
  cases memB c.cells a <;> cases (c.kind == kind) <;> simp
def homeP (q : Problem) (pos cells : List Int) (s : Int) (c : Cons) : Bool := ((c.cells.length : Int) == q.symbols) && c.cells.all (homeAt pos cells s)
theorem home_eq {q : Problem} {pos cells : List Int} {s : Int} (h : 0 < cells.length) : someB q 1 cells (homeP q pos cells s) = q.cons.any fun c => homeB q pos c cells s := by
  rw [someB_eq h]
  congr 1
  funext c
  unfold homeB homeP
  cases (c.kind == 1) <;> cases subB c.cells cells <;> cases ((c.cells.length : Int) == q.symbols) <;> simp
theorem pair_eq {q : Problem} {a b : Int} : someB q 1 [a, b] (fun _ => true) = pairB q a b := by
  rw [someB_eq (by simp)]
  unfold pairB
  congr 1
  funext c
  simp [subB, Bool.and_assoc]
theorem apart_eq {q : Problem} {cells : List Int} {n : Int} (h : 0 < cells.length) : someB q 6 cells (fun c => decide (n ≤ c.lo)) = q.cons.any fun c => apartB c cells n := by rw [someB_eq h]; rfl
/-- The places rise. -/
def riseS (cs : List Int) : List Int → Int → Bool
  | [], _ => true
  | a :: r, last => decide (last < idx (a == ·) cs) && riseS cs r (idx (a == ·) cs)
theorem idx_at {cs : List Int} (hn : cs.Nodup) {i : Nat} (h : i < cs.length) : idx (cs[i] == ·) cs = i := by
  refine idx_found h ?_ (by simp)
  rw [List.any_eq_false]
  intro x hx
  obtain ⟨j, hj, rfl⟩ := List.mem_take_iff_getElem.1 hx
  have h2 := List.pairwise_iff_getElem.1 hn j i (by omega) h (by omega)
  intro he
  exact h2 (by simpa using he : cs[i] = cs[j]'(by omega)).symm
theorem rise_sub {cs : List Int} (hn : cs.Nodup) : ∀ (cells : List Int) (m : Nat), m ≤ cs.length → (riseS cs cells ((m : Int) - 1) = true ↔ List.Sublist cells (cs.drop m))
  | [], m, _ => by simp [riseS]
  | a :: r, m, hm => by
    unfold riseS
    rw [Bool.and_eq_true, decide_eq_true_eq]
    constructor
    · rintro ⟨h1, h2⟩
      obtain ⟨hb1, hb2⟩ := idx_bd (a == ·) cs
      obtain ⟨i, hi⟩ := Int.eq_ofNat_of_zero_le (show 0 ≤ idx (a == ·) cs by omega)
      have hil : i < cs.length := by omega
      have hia : cs[i] = a := by
        unfold idx at hi
        cases hf : cs.findIdx? (a == ·) with
        | none => rw [hf] at hi; simp only at hi; omega
        | some j =>
          rw [hf] at hi
          simp only at hi
          obtain rfl : j = i := by omega
          have := (List.findIdx?_eq_some_iff_getElem.1 hf).2.1
          simpa using (by simpa using this : a = cs[j]).symm
      rw [hi] at h2
      have h3 := (rise_sub hn r (i + 1) (by omega)).1 (by simpa using h2)
      have hmi : m ≤ i := by omega
      have e : cs.drop m = (cs.drop m).take (i - m) ++ (a :: cs.drop (i + 1)) := by
        rw [← hia, ← List.drop_eq_getElem_cons hil]
        have : cs.drop i = (cs.drop m).drop (i - m) := by rw [List.drop_drop]; congr 1; omega
        rw [this, List.take_append_drop]
      rw [e]
      exact List.Sublist.trans (List.Sublist.cons_cons a h3) (List.sublist_append_right _ _)
    · intro h
      obtain ⟨r1, r2, e, ha, h2⟩ := List.cons_sublist_iff.1 h
      obtain ⟨j, hj, hja⟩ := List.getElem_of_mem ha
      have hl : (cs.drop m).length = r1.length + r2.length := by rw [e]; simp
      rw [List.length_drop] at hl
      have hil : m + j < cs.length := by omega
      have hia : cs[m + j] = a := by
        have : (cs.drop m)[j]'(by rw [List.length_drop]; omega) = a := by
          rw [List.getElem_of_eq e, List.getElem_append_left hj, hja]
        simpa using this
      have hx : idx (a == ·) cs = ((m + j : Nat) : Int) := by rw [← hia]; exact idx_at hn hil
      rw [hx]
      refine ⟨by omega, ?_⟩
      have := (rise_sub hn r (m + j + 1) (by omega)).2 ?_
      · have e2 : (((m + j + 1 : Nat) : Int) - 1) = ((m + j : Nat) : Int) := by omega
        rwa [e2] at this
      · have e3 : cs.drop (m + j + 1) = r1.drop (j + 1) ++ r2 := by
          have : cs.drop (m + j + 1) = (cs.drop m).drop (j + 1) := by rw [List.drop_drop]; congr 1
          rw [this, e, List.drop_append_of_le_length (by omega)]
        rw [e3]
        exact h2.trans (List.sublist_append_right _ _)
theorem rise_eq {q : Problem} {cells : List Int} (h : 0 < cells.length) (hn : ∀ c ∈ q.cons, c.cells.Nodup) : someB q 4 cells (fun c => riseS c.cells cells (-1)) = q.cons.any fun c => riseB c cells := by
  rw [someB_eq h, Bool.eq_iff_iff, List.any_eq_true, List.any_eq_true]
  have key : ∀ c ∈ q.cons, ((c.kind == 4 && subB c.cells cells && riseS c.cells cells (-1)) = true ↔ riseB c cells = true) := by
    intro c hc
    have h1 := rise_sub (hn c hc) cells 0 (Nat.zero_le _)
    simp only [List.drop_zero] at h1
    have h2 : riseS c.cells cells (-1) = true ↔ List.Sublist cells c.cells := h1
    unfold riseB
    rw [Bool.and_eq_true, Bool.and_eq_true, Bool.and_eq_true, h2, List.isSublist_iff_sublist]
    constructor
    · rintro ⟨⟨a, -⟩, b⟩; exact ⟨a, b⟩
    · rintro ⟨a, b⟩
      refine ⟨⟨a, ?_⟩, b⟩
      unfold subB memB
      rw [List.all_eq_true]
      intro x hx
      rw [List.any_eq_true]
      exact ⟨x, b.subset hx, by simp⟩
  constructor
  · rintro ⟨c, hc, h⟩; exact ⟨c, hc, (key c hc).1 h⟩
  · rintro ⟨c, hc, h⟩; exact ⟨c, hc, (key c hc).2 h⟩
def andNotI (x y : Int) : Int := bits .andNot .i64 x y
theorem and_all {x y : Int} (hx : I64 x) : andI x y = x ↔ andNotI x y = 0 := by
  unfold andI andNotI
  constructor
  · intro h
    rw [bits_and] at h
    rw [bits_andNot]
    have : bv x &&& bv y = bv x := by have := congrArg bv h; rwa [bv_toInt] at this
    have h2 : bv x &&& ~~~ bv y = 0#64 := by
      rw [← this, BitVec.and_assoc]
      apply BitVec.eq_of_getLsbD_eq
      intro i hi
      simp only [BitVec.getLsbD_and, BitVec.getLsbD_not, hi, decide_true, Bool.true_and, BitVec.getLsbD_zero]
      cases (bv x).getLsbD i <;> cases (bv y).getLsbD i <;> rfl
    rw [h2]; rfl
  · exact iand_within hx
/-- A cell of a quota, as the program asks. -/
def quotaAtP (pos cells : List Int) (set : Int) (x : Int) : Bool := (memB cells x || andI (num pos x.toNat) set == 0) || andNotI (num pos x.toNat) set == 0
def quotaInP (pos cells : List Int) (set : Int) (x : Int) : Bool := !(memB cells x || andI (num pos x.toNat) set == 0) && andNotI (num pos x.toNat) set == 0
def leftP (pos cells : List Int) (set lo : Int) (l : List Int) : Int := lo - (l.filter (quotaInP pos cells set)).length
def quotaP (pos cells : List Int) (set n : Int) (c : Cons) : Bool :=
  (c.lo == c.hi) && (c.set == set) && c.cells.all (quotaAtP pos cells set) && (leftP pos cells set c.lo c.cells == n)
theorem quota_at {pos cells : List Int} {set x : Int} (h0 : num pos x.toNat ≠ 0) (hi : I64 (num pos x.toNat)) : quotaAtP pos cells set x = quotaAt pos cells set x ∧ quotaInP pos cells set x = quotaIn pos cells set x := by
  have h1 : (andI (num pos x.toNat) set == num pos x.toNat) = (andNotI (num pos x.toNat) set == 0) := by
    rw [Bool.eq_iff_iff, beq_iff_eq, beq_iff_eq]; exact and_all hi
  have h2 : (andNotI (num pos x.toNat) set == 0) = true → (andI (num pos x.toNat) set == 0) = false := by
    intro h
    rw [← h1, beq_iff_eq] at h
    rw [h, beq_eq_false_iff_ne]; exact h0
  unfold quotaAtP quotaInP quotaAt quotaIn
  rw [h1]
  revert h2
  cases memB cells x <;> cases (andI (num pos x.toNat) set == 0) <;> cases (andNotI (num pos x.toNat) set == 0) <;> simp
theorem filter_congr' {α : Type} {p r : α → Bool} : ∀ {l : List α}, (∀ x ∈ l, p x = r x) → l.filter p = l.filter r
  | [], _ => rfl
  | x :: l, h => by
    rw [List.filter_cons, List.filter_cons, h x (by simp), filter_congr' fun y hy => h y (List.mem_cons_of_mem _ hy)]
theorem all_congr' {α : Type} {p r : α → Bool} {l : List α} (h : ∀ x ∈ l, p x = r x) : l.all p = l.all r := by
  rw [Bool.eq_iff_iff, List.all_eq_true, List.all_eq_true]
  exact ⟨fun a x hx => by rw [← h x hx]; exact a x hx, fun a x hx => by rw [h x hx]; exact a x hx⟩
theorem any_congr' {α : Type} {p r : α → Bool} {l : List α} (h : ∀ x ∈ l, p x = r x) : l.any p = l.any r := by
  rw [Bool.eq_iff_iff, List.any_eq_true, List.any_eq_true]
  exact ⟨fun ⟨x, hx, a⟩ => ⟨x, hx, by rw [← h x hx]; exact a⟩, fun ⟨x, hx, a⟩ => ⟨x, hx, by rw [h x hx]; exact a⟩⟩
theorem quota_eq {q : Problem} {pos cells : List Int} {set n : Int} (h : 0 < cells.length) (hp : ∀ c ∈ q.cons, ∀ x ∈ c.cells, num pos x.toNat ≠ 0 ∧ I64 (num pos x.toNat)) : someB q 2 cells (quotaP pos cells set n) = q.cons.any fun c => quotaB pos c cells set n := by
  rw [someB_eq h]
  refine any_congr' fun c hc => ?_
  have h1 := all_congr' fun x hx => (quota_at (pos := pos) (cells := cells) (set := set) (hp c hc x hx).1 (hp c hc x hx).2).1
  have h2 := filter_congr' fun x hx => (quota_at (pos := pos) (cells := cells) (set := set) (hp c hc x hx).1 (hp c hc x hx).2).2
  unfold quotaB quotaP leftP leftN
  rw [h1, h2]
  cases (c.kind == 2) <;> cases subB c.cells cells <;> cases (c.lo == c.hi) <;> cases (c.set == set) <;> simp
end Go.Proofs.YtimkijmjbnmcbaaGreat
namespace Go.Proofs.YtimkijmjbnmcbaaGreat
open Go.RowKit
theorem ext_eq {a b : World} (h : a = b) : Ext a b := by subst h; exact Ext.rfl' _
theorem RInts.take {w : World} {A : Option Addr} {l : List Int} (h : RInts w A l) (k : Nat) : RInts w A (l.take k) := by
  refine ⟨by have := h.1; rw [List.length_take]; omega, fun hp => ?_⟩
  rw [List.length_take] at hp
  obtain ⟨ad, e, hb, hc⟩ := h.2 (by omega)
  refine ⟨ad, e, hb, fun i hi => ?_⟩
  rw [List.length_take] at hi
  obtain ⟨vs, h1, h2, h3⟩ := hc i (by omega)
  exact ⟨vs, h1, by simpa using h2, h3⟩
theorem in13_m (w : World) (A : Option Addr) (c : Nat) (l : List Int) (h : RInts w A l) (x : Int) :
    Calls Tryz.prog 28 #[.slice A l.length c, .int .i64 x] w fun e w' => e = .returned (.bool (memB l x)) ∧ w = w' := in13_ok w A c l h x
theorem in13_n (w : World) (A : Option Addr) (c n : Nat) (l : List Int) (hn : l.length = n) (h : RInts w A l) (x : Int) :
    Calls Tryz.prog 28 #[.slice A n c, .int .i64 x] w fun e w' => e = .returned (.bool (memB l x)) ∧ Ext w w' := by subst hn; exact (in13_ok w A c l h x).mono fun _ _ ⟨he, hw⟩ => ⟨he, ext_eq hw⟩
theorem met_memB {l : List Int} {k : Nat} (h : k ≤ l.length) : met l k = memB (l.take k) (num l k) := by
  rw [met_take h, any_flip]; rfl
set_option maxHeartbeats 1000000 in
set_option maxRecDepth 100000 in
theorem diff33_ok (w : World) (A : Option Addr) (c : Nat) (l : List Int) (h : RInts w A l) (hcap : l.length ≤ c) (n : Int) :
    Calls Tryz.prog 10 #[.slice A l.length c, .int .i64 n] w fun e w' => e = .returned (.bool (diffB l n)) ∧ Ext w w' := by
  have hl := h.len
  go_enter Tryz.func10, Tryz.ntmps10
  go_wp2_with fail
  go_loopw [5] (fun i wr => ∃ k : Nat, k ≤ l.length ∧ i = .int .i64 k ∧ Hid ((List.range k).all (diffAt l n) = true) ∧ Ext w wr) (fun i _ => l.length - (intOf i).toNat)
  case atStart => exact ⟨0, Nat.zero_le _, rfl, rfl, Ext.rfl' _⟩
  case round =>
    obtain ⟨k, hk, rfl, hno, hx⟩ := hrel
    by_cases hlt : k < l.length
    · have ht := (h.to hx).take k
      have Ht := hid ht; clear ht
      have hmm := met_memB (Nat.le_of_lt hlt)
      have htk : (l.take k).length = k := by rw [List.length_take]; omega
      have Htk := hid htk; clear htk
      obtain ⟨ad, rfl, hab, hc0, _⟩ := h.num (by omega)
      have hc := hc0 k hlt
      have F : ∀ W, Ext wr W → W.cell? (ad.add k) = some (.int .i64 (num l k)) := fun W hW => cellE (hx.tr hW) hc (by rw [block_of_add]; exact hab)
      have HF := hid F; clear F hc0 hc
      by_cases h1 : num l k < 0
      · have h1' : decide (num l k < 0) = true := decide_eq_true h1
        have Hm := hid hmm; clear hmm
        go_wp2_with fail
        (refine wp_region_sf (fun _ => none) (by kernel_rfl) (by kernel_rfl) ?_); (repeat (first | (refine wpE_skipK ?_ ?_; (focus ((first | refine wanted_notF rfl rfl ?_ | refine wanted_notT rfl rfl ?_); (focus (simp only [List.getElem?_toArray, List.getElem?_cons_succ, List.getElem?_cons_zero]; done)))); intro K hK; go_simp; apply hK; clear hK K; (have hq9 : True := trivial); clear hq9) | (refine wpE_detN rfl rfl (fun K hK => ?_); apply Exists.intro; apply And.intro; (focus (rintro W ⟨hx, -⟩; obtain f0 := HF.out W hx; go_simp; all_goals rfl)); go_simp; apply hK; clear hK K; (have hq9 : True := trivial); clear hq9) | (refine wpE_detK rfl ?_ ?_; (focus (refine wanted_so rfl rfl ?_; (focus (simp only [List.getElem?_toArray, List.getElem?_cons_succ, List.getElem?_cons_zero]; done)))); intro K hK; apply Exists.intro; apply And.intro; (focus (rintro W ⟨hx, -⟩; obtain f0 := HF.out W hx; go_simp; all_goals rfl)); go_simp; apply hK; clear hK K; (have hq9 : True := trivial); clear hq9))); (apply wpE_nil); (rintro W ⟨hW, hG⟩); clear hG
        go_wp2_with fail
        go_ret
        exact ⟨ret_bool (diffB_bad hlt (diffAt_out (.inl h1))).symm, hx.tr hW⟩
      have h1' : decide (num l k < 0) = false := decide_eq_false h1
      by_cases h2 : n ≤ num l k
      · have h2' : decide (n ≤ num l k) = true := decide_eq_true h2
        have Hm := hid hmm; clear hmm
        go_wp2_with fail
        (refine wp_region_sf (fun _ => none) (by kernel_rfl) (by kernel_rfl) ?_); (repeat (first | (refine wpE_skipK ?_ ?_; (focus ((first | refine wanted_notF rfl rfl ?_ | refine wanted_notT rfl rfl ?_); (focus (simp only [List.getElem?_toArray, List.getElem?_cons_succ, List.getElem?_cons_zero]; done)))); intro K hK; go_simp; apply hK; clear hK K; (have hq9 : True := trivial); clear hq9) | (refine wpE_detN rfl rfl (fun K hK => ?_); apply Exists.intro; apply And.intro; (focus (rintro W ⟨hx, -⟩; obtain f0 := HF.out W hx; go_simp; all_goals rfl)); go_simp; apply hK; clear hK K; (have hq9 : True := trivial); clear hq9) | (refine wpE_detK rfl ?_ ?_; (focus (refine wanted_so rfl rfl ?_; (focus (simp only [List.getElem?_toArray, List.getElem?_cons_succ, List.getElem?_cons_zero]; done)))); intro K hK; apply Exists.intro; apply And.intro; (focus (rintro W ⟨hx, -⟩; obtain f0 := HF.out W hx; go_simp; all_goals rfl)); go_simp; apply hK; clear hK K; (have hq9 : True := trivial); clear hq9))); (apply wpE_nil); (rintro W ⟨hW, hG⟩); clear hG
        go_wp2_with fail
        go_ret
        exact ⟨ret_bool (diffB_bad hlt (diffAt_out (.inr h2))).symm, hx.tr hW⟩
      have h2' : decide (n ≤ num l k) = false := decide_eq_false h2
      have hkc : (k : Int) ≤ (c : Int) := by omega
      have hk0 : (0 : Int) ≤ (k : Int) := by omega
      have hin := diffAt_in (l := l) (n := n) (k := k) (by omega) (by omega)
      rw [hmm] at hin
      have Hin := hid hin; clear hin hmm
      go_wp2_with fail
      (refine wp_region_sf (fun | 21 => some (SF.val (.bool (memB (l.take k) (num l k)))) | _ => none) (by kernel_rfl) (by kernel_rfl) ?_); (repeat (first | (refine wpE_skipK ?_ ?_; (focus ((first | refine wanted_notF rfl rfl ?_ | refine wanted_notT rfl rfl ?_); (focus (simp only [List.getElem?_toArray, List.getElem?_cons_succ, List.getElem?_cons_zero]; done)))); intro K hK; go_simp; apply hK; clear hK K; (have hq9 : True := trivial); clear hq9) | (refine wpE_detN rfl rfl (fun K hK => ?_); apply Exists.intro; apply And.intro; (focus (rintro W ⟨hx, -⟩; obtain f0 := HF.out W hx; go_simp; all_goals rfl)); go_simp; apply hK; clear hK K; (have hq9 : True := trivial); clear hq9) | (refine wpE_detK rfl ?_ ?_; (focus (refine wanted_so rfl rfl ?_; (focus (simp only [List.getElem?_toArray, List.getElem?_cons_succ, List.getElem?_cons_zero]; done)))); intro K hK; apply Exists.intro; apply And.intro; (focus (rintro W ⟨hx, -⟩; obtain f0 := HF.out W hx; go_simp; all_goals rfl)); go_simp; apply hK; clear hK K; (have hq9 : True := trivial); clear hq9))); (first | refine wpE_newN _ rfl rfl ?_ ?_ | (refine wpE_newK _ rfl ?_ ?_ ?_; (focus (refine wanted_so rfl rfl ?_; (focus (simp only [List.getElem?_toArray, List.getElem?_cons_succ, List.getElem?_cons_zero]; done)))))); (focus (rintro W ⟨hW, -⟩; go_simp; exact ⟨Ext.rfl' _, (in13_n W (some ad) c k (l.take k) Htk.out (Ht.out.to hW) (num l k)).mono fun e W' ⟨he, hb⟩ => ⟨_, he, hb, rfl⟩⟩)); (rintro _ ⟨_, rfl⟩ K hK); (go_simp; apply hK; clear hK K; (have hq9 : True := trivial); clear hq9); (repeat (first | (refine wpE_skipK ?_ ?_; (focus ((first | refine wanted_notF rfl rfl ?_ | refine wanted_notT rfl rfl ?_); (focus (simp only [List.getElem?_toArray, List.getElem?_cons_succ, List.getElem?_cons_zero]; done)))); intro K hK; go_simp; apply hK; clear hK K; (have hq9 : True := trivial); clear hq9) | (refine wpE_detN rfl rfl (fun K hK => ?_); apply Exists.intro; apply And.intro; (focus (rintro W ⟨hx, -⟩; obtain f0 := HF.out W hx; go_simp; all_goals rfl)); go_simp; apply hK; clear hK K; (have hq9 : True := trivial); clear hq9) | (refine wpE_detK rfl ?_ ?_; (focus (refine wanted_so rfl rfl ?_; (focus (simp only [List.getElem?_toArray, List.getElem?_cons_succ, List.getElem?_cons_zero]; done)))); intro K hK; apply Exists.intro; apply And.intro; (focus (rintro W ⟨hx, -⟩; obtain f0 := HF.out W hx; go_simp; all_goals rfl)); go_simp; apply hK; clear hK K; (have hq9 : True := trivial); clear hq9))); (apply wpE_nil); (rintro W ⟨hW, hG⟩); clear hG
      cases hM : memB (l.take k) (num l k)
      · go_wp2_with fail
        go_roundw
        case rel => exact ⟨k + 1, by omega, by go_num, rall_on hno (by rw [Hin.out, hM]; rfl), hx.tr hW⟩
        case measure => simp [intOf]; omega
      · go_wp2_with fail
        go_ret
        exact ⟨ret_bool (diffB_bad hlt (by rw [Hin.out, hM]; rfl)).symm, hx.tr hW⟩
    · go_wp2_with fail
      go_ret
      exact ⟨ret_bool (rall_end hno hk hlt).symm, hx⟩
/-- Numbers within bounds, one at a time. -/
def withinN (l : List Int) (n : Int) : Bool := l.all fun x => decide (0 ≤ x) && decide (x < n)
/-- One list of integers. -/
def RetIs (w : World) (l : List Int) (e : Ending) (w' : World) : Prop := ∃ A c, e = .returned (.slice A l.length c) ∧ RInts w' A l ∧ Ext w w'
/-- Some numbers are indices. -/
def Idx (at_ : List Int) (n : Nat) : Prop := ∀ x ∈ at_, 0 ≤ x ∧ x < n
set_option maxHeartbeats 1000000 in
theorem chosen33_ok (w : World) (A B : Option Addr) (c d : Nat) (l s : List Int) (h : RInts w A l) (g : RInts w B s) (hi : Idx s l.length) :
    Calls Tryz.prog 14 #[.slice A l.length c, .slice B s.length d] w (RetIs w (chosen l s)) := by
  have hl := g.len
  have hl2 := h.len
  have Hi := hid hi; clear hi
  go_enter Tryz.func14, Tryz.ntmps14
  go_wp2_with fail
  go_loopw [5, 6] (fun v i wr => ∃ (k : Nat) (C : Option Addr) (cc : Nat), k ≤ s.length ∧ i = .int .i64 k ∧ v = .slice C k cc ∧ OwnI wr w.heap.size (.slice C k cc) (chosen l (s.take k)) ∧ Ext w wr) (fun _ i _ => s.length - (intOf i).toNat)
  case atStart => exact ⟨0, none, 0, Nat.zero_le _, rfl, rfl, OwnI.nil _ _, Ext.rfl' _⟩
  case round =>
    obtain ⟨k, C, cc, hk, rfl, rfl, hown, hx⟩ := hrel
    by_cases hlt : k < s.length
    · obtain ⟨ad, rfl, _, hc, _⟩ := (g.to hx).at_ k hlt
      obtain ⟨h1, h2⟩ := Hi.out _ (List.getElem_mem hlt)
      obtain ⟨bd, rfl, _, hd, hv⟩ := (h.to hx).num (by omega)
      have hd1 := hd s[k].toNat (by omega)
      have hv1 := hv s[k].toNat (by omega)
      have Hv := hid hv1; clear hd hv hv1
      have ht : chosen l (s.take (k + 1)) = chosen l (s.take k) ++ [num l s[k].toNat] := by unfold chosen; rw [List.take_succ_eq_append_getElem hlt, List.map_append]; rfl
      have Ht := hid ht; clear ht
      go_wp2_with (at_builtin; refine app_one w hx rfl _ _ rfl C k cc _ rfl hown _ (num l s[k].toNat) rfl Hv.out (by omega) ?_; intro A' c' w2 hown2 hx2 hg2)
      go_roundw
      case rel => exact ⟨k + 1, A', c', by omega, by go_num, rfl, hown2.as rfl Ht.out.symm, hx2⟩
      case measure => simp [intOf]; omega
    · have hk3 : k = s.length := by omega
      have hall : s.take k = s := List.take_of_length_le (by omega)
      rw [hall] at hown
      subst hk3
      go_wp2_with fail
      go_ret
      exact ⟨C, cc, by simp [chosen], hown.ints, hx⟩
theorem setOf_take {l : List Int} {k : Nat} (h : k < l.length) : setOf (l.take (k + 1)) = bits .or .i64 (setOf (l.take k)) (2 ^ l[k].toNat) := by
  unfold setOf; rw [List.take_succ_eq_append_getElem h, List.foldl_append]; rfl
end Go.Proofs.YtimkijmjbnmcbaaGreat
namespace Go.Proofs.YtimkijmjbnmcbaaGreat
open Go.RowKit
abbrev consV (c : Cons) (A : Option Addr) (a : Nat) (B : Option Addr) (b : Nat) : Value := .agg #[.int .i64 c.kind, .slice A c.cells.length a, .int .i64 c.set, .int .i64 c.other, .int .i64 c.lo, .int .i64 c.hi, .slice B c.runs.length b, .int .i64 c.rule, .int .i64 c.at_]
theorem homeB_1 {q : Problem} {pos : List Int} {c : Cons} {cells : List Int} {s : Int} (h : (c.kind == 1) = false) : homeB q pos c cells s = false := by unfold homeB; rw [h]; rfl
theorem homeB_2 {q : Problem} {pos : List Int} {c : Cons} {cells : List Int} {s : Int} (h : ((c.cells.length : Int) == q.symbols) = false) : homeB q pos c cells s = false := by unfold homeB; rw [h]; simp
theorem homeB_3 {q : Problem} {pos : List Int} {c : Cons} {cells : List Int} {s : Int} (h : subB c.cells cells = false) : homeB q pos c cells s = false := by unfold homeB; rw [h]; simp
theorem homeB_4 {q : Problem} {pos : List Int} {c : Cons} {cells : List Int} {s : Int} (h1 : (c.kind == 1) = true) (h2 : ((c.cells.length : Int) == q.symbols) = true) (h3 : subB c.cells cells = true) : homeB q pos c cells s = c.cells.all (homeAt pos cells s) := by unfold homeB; rw [h1, h2, h3]; rfl
theorem shr_bit {x s : Int} (hs : 0 ≤ s) (hs2 : s < 64) : (bits .and .i64 (x / 2 ^ s.toNat) 1 == 1) = hasS x s.toNat := by
  rw [bits_shift_one _ _ (by omega)]
  cases hasS x s.toNat <;> rfl
end Go.Proofs.YtimkijmjbnmcbaaGreat
namespace Go.Proofs.YtimkijmjbnmcbaaGreat
open Go.RowKit
theorem sub_len {a l : List Int} {n : Nat} (h : n ≤ a.length) : (a.drop n).isSublist l = true → n = a.length ∨ n < a.length := fun _ => by omega
theorem rise_done {a l : List Int} {n : Nat} (h : a.length ≤ n) : (a.drop n).isSublist l = true := by
  rw [List.drop_eq_nil_of_le h]; exact List.isSublist_iff_sublist.2 (List.nil_sublist _)
theorem rise_none {a : List Int} {n : Nat} (h : n < a.length) : (a.drop n).isSublist ([] : List Int) = false := by
  rw [Bool.eq_false_iff]; intro hs
  have := (List.isSublist_iff_sublist.1 hs).length_le
  rw [List.length_drop] at this; simp at this; omega
theorem rise_hit {a l : List Int} {n k : Nat} (hn : n < a.length) (hk : k < l.length) (h : l[k] = a[n]) : (a.drop n).isSublist (l.drop k) = (a.drop (n + 1)).isSublist (l.drop (k + 1)) := by
  rw [Bool.eq_iff_iff, List.isSublist_iff_sublist, List.isSublist_iff_sublist, List.drop_eq_getElem_cons hn, List.drop_eq_getElem_cons hk, h]
  exact List.cons_sublist_cons
theorem rise_miss {a l : List Int} {n k : Nat} (hn : n < a.length) (hk : k < l.length) (h : l[k] ≠ a[n]) : (a.drop n).isSublist (l.drop k) = (a.drop n).isSublist (l.drop (k + 1)) := by
  rw [Bool.eq_iff_iff, List.isSublist_iff_sublist, List.isSublist_iff_sublist, List.drop_eq_getElem_cons hn, List.drop_eq_getElem_cons hk]
  rw [List.sublist_cons_iff]
  refine ⟨fun hs => hs.elim id fun ⟨r, hr, _⟩ => ?_, .inl⟩
  injection hr with hr
  exact absurd hr.symm h
theorem riseB_1 {c : Cons} {cells : List Int} (h : (c.kind == 4) = false) : riseB c cells = false := by unfold riseB; rw [h]; rfl
theorem riseB_2 {c : Cons} {cells : List Int} (h : (c.kind == 4) = true) : riseB c cells = cells.isSublist c.cells := by unfold riseB; rw [h]; rfl
end Go.Proofs.YtimkijmjbnmcbaaGreat
namespace Go.Proofs.YtimkijmjbnmcbaaGreat
open Go.RowKit
theorem quotaB_1 {pos : List Int} {c : Cons} {cells : List Int} {set n : Int} (h : (c.kind == 2) = false) : quotaB pos c cells set n = false := by unfold quotaB; rw [h]; rfl
theorem quotaB_2 {pos : List Int} {c : Cons} {cells : List Int} {set n : Int} (h : (c.lo == c.hi) = false) : quotaB pos c cells set n = false := by unfold quotaB; rw [h]; simp
theorem quotaB_3 {pos : List Int} {c : Cons} {cells : List Int} {set n : Int} (h : (c.set == set) = false) : quotaB pos c cells set n = false := by unfold quotaB; rw [h]; simp
theorem quotaB_4 {pos : List Int} {c : Cons} {cells : List Int} {set n : Int} (h : subB c.cells cells = false) : quotaB pos c cells set n = false := by unfold quotaB; rw [h]; simp
theorem quotaB_5 {pos : List Int} {c : Cons} {cells : List Int} {set n : Int} (h1 : (c.kind == 2) = true) (h2 : (c.lo == c.hi) = true) (h3 : (c.set == set) = true) (h4 : subB c.cells cells = true) :
    quotaB pos c cells set n = (c.cells.all (quotaAt pos cells set) && (leftN pos cells set c.lo c.cells == n)) := by unfold quotaB; rw [h1, h2, h3, h4]; rfl
theorem left_in {pos cells : List Int} {set lo : Int} {l : List Int} {k : Nat} (h : k < l.length) (hq : quotaIn pos cells set l[k] = true) : leftN pos cells set lo (l.take (k + 1)) = leftN pos cells set lo (l.take k) - 1 := by
  unfold leftN; rw [List.take_succ_eq_append_getElem h, List.filter_append, List.length_append]; simp [hq]; omega
theorem left_out {pos cells : List Int} {set lo : Int} {l : List Int} {k : Nat} (h : k < l.length) (hq : quotaIn pos cells set l[k] = false) : leftN pos cells set lo (l.take (k + 1)) = leftN pos cells set lo (l.take k) := by
  unfold leftN; rw [List.take_succ_eq_append_getElem h, List.filter_append, List.length_append]; simp [hq]
theorem left_bd (pos cells : List Int) (set lo : Int) (l : List Int) (k : Nat) : lo - k ≤ leftN pos cells set lo (l.take k) ∧ leftN pos cells set lo (l.take k) ≤ lo := by
  unfold leftN
  have h1 := List.length_filter_le (quotaIn pos cells set) (l.take k)
  have h2 : (l.take k).length ≤ k := List.length_take_le _ _
  omega
end Go.Proofs.YtimkijmjbnmcbaaGreat
