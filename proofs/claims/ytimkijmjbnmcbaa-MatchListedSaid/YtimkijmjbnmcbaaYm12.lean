/- Plain law: when a condition is met, as the two texts decide it. No code is walked here. Contracts: small functions of the reference of chapter 33 on lists of numbers. Contracts: what a constraint says of cells, in the reference. Contracts: rising cells and quotas, in the reference. Contract: quotas, in the reference. -/
import Derived.Test.YtimkijmjbnmcbaaYm8
import Derived.Test.YtimkijmjbnmcbaaYm11
import Derived.Test.YtimkijmjbnmcbaaYm6
import Derived.Test.YtimkijmjbnmcbaaYm5
namespace Go.Proofs.Ytimkijmjbnmcbaa
open Go.RowKit

def memB (l : List Int) (x : Int) : Bool := l.any (· == x)
/-- All of some numbers stand in a list. -/
def subB (l some : List Int) : Bool := some.all (memB l)
/-- The elements with some indices. -/
def chosen (l at_ : List Int) : List Int := at_.map fun i => num l i.toNat
/-- The set of symbols. -/
def setOf (l : List Int) : Int := l.foldl (fun s x => bits .or .i64 s (2 ^ x.toNat)) 0
def pairB (q : Problem) (a b : Int) : Bool := q.cons.any fun c => c.kind == 1 && memB c.cells a && memB c.cells b
/-- The k-th cell of a home stands among the cells, or lacks the symbol. -/
def homeAt (pos cells : List Int) (s : Int) (x : Int) : Bool := memB cells x || !(hasS (num pos x.toNat) s.toNat)
def homeB (q : Problem) (pos : List Int) (c : Cons) (cells : List Int) (s : Int) : Bool :=
  c.kind == 1 && ((c.cells.length : Int) == q.symbols) && subB c.cells cells && c.cells.all (homeAt pos cells s)
def riseB (c : Cons) (cells : List Int) : Bool := c.kind == 4 && cells.isSublist c.cells
def andI (x y : Int) : Int := bits .and .i64 x y
/-- A cell of a quota is among the cells, or has all or none of its symbols in the set. -/
def quotaAt (pos cells : List Int) (set : Int) (x : Int) : Bool := memB cells x || (andI (num pos x.toNat) set == 0 || andI (num pos x.toNat) set == num pos x.toNat)
def quotaIn (pos cells : List Int) (set : Int) (x : Int) : Bool := !(memB cells x) && andI (num pos x.toNat) set == num pos x.toNat
def leftN (pos cells : List Int) (set lo : Int) (l : List Int) : Int := lo - (l.filter (quotaIn pos cells set)).length
def quotaB (pos : List Int) (c : Cons) (cells : List Int) (set n : Int) : Bool :=
  c.kind == 2 && (c.lo == c.hi) && (c.set == set) && subB c.cells cells && c.cells.all (quotaAt pos cells set) && (leftN pos cells set c.lo c.cells == n)
def apartB (c : Cons) (cells : List Int) (n : Int) : Bool := c.kind == 6 && subB c.cells cells && decide (n ≤ c.lo)
def diffAll (q : Problem) (own : List Int) : Bool := (List.range own.length).all fun i => (List.range i).all fun k => pairB q (num own i) (num own k)
/-- A constraint meets a condition. -/
def metOne (q : Problem) (pos : List Int) (kind n : Int) (own letters : List Int) (x : Cons) : Bool :=
  if kind = 2 then homeB q pos x own (num letters 0)
  else if kind = 3 then apartB x own n
  else if kind = 4 then riseB x own
  else if kind = 6 then quotaB pos x own (setOf letters) n
  else false
def metC (q : Problem) (pos : List Int) (kind n : Int) (own letters : List Int) : Bool :=
  if kind = 1 then diffAll q own
  else if kind = 5 then memB (row q.neighbors (num own 0).toNat) (num own 1)
  else q.cons.any (metOne q pos kind n own letters)
/-- A condition is met. -/
def metB (q : Problem) (pos : List Int) (c : Cond) (cells symbols : List Int) : Bool :=
  !(deadB pos) && metC q pos c.kind c.n (chosen cells c.cells) (chosen symbols c.letters)

/-! ### The program's own way. -/
/-- A constraint of a kind contains all of some cells and satisfies a condition. -/
def someB (q : Problem) (kind : Int) (cells : List Int) (ok : Cons → Bool) : Bool :=
  q.cons.any fun c => memB c.cells (num cells 0) && c.kind == kind && (cells.drop 1).all (memB c.cells) && ok c
theorem someB_eq {q : Problem} {kind : Int} {cells : List Int} {ok : Cons → Bool} (h : 0 < cells.length) : someB q kind cells ok = q.cons.any fun c => c.kind == kind && subB c.cells cells && ok c := by
  unfold someB
  congr 1
  funext c
  obtain ⟨a, t, rfl⟩ : ∃ a t, cells = a :: t := by cases cells; simp at h; exact ⟨_, _, rfl⟩
  simp only [subB, List.all_cons, List.drop_succ_cons, List.drop_zero, num, List.getD_cons_zero]
  cases memB c.cells a <;> cases (c.kind == kind) <;> simp
def homeP (q : Problem) (pos cells : List Int) (s : Int) (c : Cons) : Bool := ((c.cells.length : Int) == q.symbols) && c.cells.all (homeAt pos cells s)
theorem home_eq {q : Problem} {pos cells : List Int} {s : Int} (h : 0 < cells.length) : someB q 1 cells (homeP q pos cells s) = q.cons.any fun c => homeB q pos c cells s := by
  rw [someB_eq h]
  congr 1
  funext c
  unfold homeB homeP
  cases (c.kind == 1) <;> cases subB c.cells cells <;> cases ((c.cells.length : Int) == q.symbols) <;> simp
theorem pair_eq {q : Problem} {a b : Int} : someB q 1 [a, b] (fun _ => true) = pairB q a b := by
  rw [someB_eq (by simp)]
  unfold pairB
  congr 1
  funext c
  simp [subB, Bool.and_assoc]
theorem apart_eq {q : Problem} {cells : List Int} {n : Int} (h : 0 < cells.length) : someB q 6 cells (fun c => decide (n ≤ c.lo)) = q.cons.any fun c => apartB c cells n := by rw [someB_eq h]; rfl
/-- The places rise. -/
def riseS (cs : List Int) : List Int → Int → Bool
  | [], _ => true
  | a :: r, last => decide (last < idx (a == ·) cs) && riseS cs r (idx (a == ·) cs)
theorem idx_at {cs : List Int} (hn : cs.Nodup) {i : Nat} (h : i < cs.length) : idx (cs[i] == ·) cs = i := by
  refine idx_found h ?_ (by simp)
  rw [List.any_eq_false]
  intro x hx
  obtain ⟨j, hj, rfl⟩ := List.mem_take_iff_getElem.1 hx
  have h2 := List.pairwise_iff_getElem.1 hn j i (by omega) h (by omega)
  intro he
  exact h2 (by simpa using he : cs[i] = cs[j]'(by omega)).symm
theorem rise_sub {cs : List Int} (hn : cs.Nodup) : ∀ (cells : List Int) (m : Nat), m ≤ cs.length → (riseS cs cells ((m : Int) - 1) = true ↔ List.Sublist cells (cs.drop m))
  | [], m, _ => by simp [riseS]
  | a :: r, m, hm => by
    unfold riseS
    rw [Bool.and_eq_true, decide_eq_true_eq]
    constructor
    · rintro ⟨h1, h2⟩
      obtain ⟨hb1, hb2⟩ := idx_bd (a == ·) cs
      obtain ⟨i, hi⟩ := Int.eq_ofNat_of_zero_le (show 0 ≤ idx (a == ·) cs by omega)
      have hil : i < cs.length := by omega
      have hia : cs[i] = a := by
        unfold idx at hi
        cases hf : cs.findIdx? (a == ·) with
        | none => rw [hf] at hi; simp only at hi; omega
        | some j =>
          rw [hf] at hi
          simp only at hi
          obtain rfl : j = i := by omega
          have := (List.findIdx?_eq_some_iff_getElem.1 hf).2.1
          simpa using (by simpa using this : a = cs[j]).symm
      rw [hi] at h2
      have h3 := (rise_sub hn r (i + 1) (by omega)).1 (by simpa using h2)
      have hmi : m ≤ i := by omega
      have e : cs.drop m = (cs.drop m).take (i - m) ++ (a :: cs.drop (i + 1)) := by
        rw [← hia, ← List.drop_eq_getElem_cons hil]
        have : cs.drop i = (cs.drop m).drop (i - m) := by rw [List.drop_drop]; congr 1; omega
        rw [this, List.take_append_drop]
      rw [e]
      exact List.Sublist.trans (List.Sublist.cons_cons a h3) (List.sublist_append_right _ _)
    · intro h
      obtain ⟨r1, r2, e, ha, h2⟩ := List.cons_sublist_iff.1 h
      obtain ⟨j, hj, hja⟩ := List.getElem_of_mem ha
      have hl : (cs.drop m).length = r1.length + r2.length := by rw [e]; simp
      rw [List.length_drop] at hl
      have hil : m + j < cs.length := by omega
      have hia : cs[m + j] = a := by
        have : (cs.drop m)[j]'(by rw [List.length_drop]; omega) = a := by
          rw [List.getElem_of_eq e, List.getElem_append_left hj, hja]
        simpa using this
      have hx : idx (a == ·) cs = ((m + j : Nat) : Int) := by rw [← hia]; exact idx_at hn hil
      rw [hx]
      refine ⟨by omega, ?_⟩
      have := (rise_sub hn r (m + j + 1) (by omega)).2 ?_
      · have e2 : (((m + j + 1 : Nat) : Int) - 1) = ((m + j : Nat) : Int) := by omega
        rwa [e2] at this
      · have e3 : cs.drop (m + j + 1) = r1.drop (j + 1) ++ r2 := by
          have : cs.drop (m + j + 1) = (cs.drop m).drop (j + 1) := by rw [List.drop_drop]; congr 1
          rw [this, e, List.drop_append_of_le_length (by omega)]
        rw [e3]
        exact h2.trans (List.sublist_append_right _ _)
theorem rise_eq {q : Problem} {cells : List Int} (h : 0 < cells.length) (hn : ∀ c ∈ q.cons, c.cells.Nodup) : someB q 4 cells (fun c => riseS c.cells cells (-1)) = q.cons.any fun c => riseB c cells := by
  rw [someB_eq h, Bool.eq_iff_iff, List.any_eq_true, List.any_eq_true]
  have key : ∀ c ∈ q.cons, ((c.kind == 4 && subB c.cells cells && riseS c.cells cells (-1)) = true ↔ riseB c cells = true) := by
    intro c hc
    have h1 := rise_sub (hn c hc) cells 0 (Nat.zero_le _)
    simp only [List.drop_zero] at h1
    have h2 : riseS c.cells cells (-1) = true ↔ List.Sublist cells c.cells := h1
    unfold riseB
    rw [Bool.and_eq_true, Bool.and_eq_true, Bool.and_eq_true, h2, List.isSublist_iff_sublist]
    constructor
    · rintro ⟨⟨a, -⟩, b⟩; exact ⟨a, b⟩
    · rintro ⟨a, b⟩
      refine ⟨⟨a, ?_⟩, b⟩
      unfold subB memB
      rw [List.all_eq_true]
      intro x hx
      rw [List.any_eq_true]
      exact ⟨x, b.subset hx, by simp⟩
  constructor
  · rintro ⟨c, hc, h⟩; exact ⟨c, hc, (key c hc).1 h⟩
  · rintro ⟨c, hc, h⟩; exact ⟨c, hc, (key c hc).2 h⟩
def andNotI (x y : Int) : Int := bits .andNot .i64 x y
theorem and_all {x y : Int} (hx : I64 x) : andI x y = x ↔ andNotI x y = 0 := by
  unfold andI andNotI
  constructor
  · intro h
    rw [bits_and] at h
    rw [bits_andNot]
    have : bv x &&& bv y = bv x := by have := congrArg bv h; rwa [bv_toInt] at this
    have h2 : bv x &&& ~~~ bv y = 0#64 := by
      rw [← this, BitVec.and_assoc]
      apply BitVec.eq_of_getLsbD_eq
      intro i hi
      simp only [BitVec.getLsbD_and, BitVec.getLsbD_not, hi, decide_true, Bool.true_and, BitVec.getLsbD_zero]
      cases (bv x).getLsbD i <;> cases (bv y).getLsbD i <;> rfl
    rw [h2]; rfl
  · exact iand_within hx
/-- A cell of a quota, as the program asks. -/
def quotaAtP (pos cells : List Int) (set : Int) (x : Int) : Bool := (memB cells x || andI (num pos x.toNat) set == 0) || andNotI (num pos x.toNat) set == 0
def quotaInP (pos cells : List Int) (set : Int) (x : Int) : Bool := !(memB cells x || andI (num pos x.toNat) set == 0) && andNotI (num pos x.toNat) set == 0
def leftP (pos cells : List Int) (set lo : Int) (l : List Int) : Int := lo - (l.filter (quotaInP pos cells set)).length
def quotaP (pos cells : List Int) (set n : Int) (c : Cons) : Bool :=
  (c.lo == c.hi) && (c.set == set) && c.cells.all (quotaAtP pos cells set) && (leftP pos cells set c.lo c.cells == n)
theorem quota_at {pos cells : List Int} {set x : Int} (h0 : num pos x.toNat ≠ 0) (hi : I64 (num pos x.toNat)) : quotaAtP pos cells set x = quotaAt pos cells set x ∧ quotaInP pos cells set x = quotaIn pos cells set x := by
  have h1 : (andI (num pos x.toNat) set == num pos x.toNat) = (andNotI (num pos x.toNat) set == 0) := by
    rw [Bool.eq_iff_iff, beq_iff_eq, beq_iff_eq]; exact and_all hi
  have h2 : (andNotI (num pos x.toNat) set == 0) = true → (andI (num pos x.toNat) set == 0) = false := by
    intro h
    rw [← h1, beq_iff_eq] at h
    rw [h, beq_eq_false_iff_ne]; exact h0
  unfold quotaAtP quotaInP quotaAt quotaIn
  rw [h1]
  revert h2
  cases memB cells x <;> cases (andI (num pos x.toNat) set == 0) <;> cases (andNotI (num pos x.toNat) set == 0) <;> simp
theorem filter_congr' {α : Type} {p r : α → Bool} : ∀ {l : List α}, (∀ x ∈ l, p x = r x) → l.filter p = l.filter r
  | [], _ => rfl
  | x :: l, h => by
    rw [List.filter_cons, List.filter_cons, h x (by simp), filter_congr' fun y hy => h y (List.mem_cons_of_mem _ hy)]
theorem all_congr' {α : Type} {p r : α → Bool} {l : List α} (h : ∀ x ∈ l, p x = r x) : l.all p = l.all r := by
  rw [Bool.eq_iff_iff, List.all_eq_true, List.all_eq_true]
  exact ⟨fun a x hx => by rw [← h x hx]; exact a x hx, fun a x hx => by rw [h x hx]; exact a x hx⟩
theorem any_congr' {α : Type} {p r : α → Bool} {l : List α} (h : ∀ x ∈ l, p x = r x) : l.any p = l.any r := by
  rw [Bool.eq_iff_iff, List.any_eq_true, List.any_eq_true]
  exact ⟨fun ⟨x, hx, a⟩ => ⟨x, hx, by rw [← h x hx]; exact a⟩, fun ⟨x, hx, a⟩ => ⟨x, hx, by rw [h x hx]; exact a⟩⟩
theorem quota_eq {q : Problem} {pos cells : List Int} {set n : Int} (h : 0 < cells.length) (hp : ∀ c ∈ q.cons, ∀ x ∈ c.cells, num pos x.toNat ≠ 0 ∧ I64 (num pos x.toNat)) : someB q 2 cells (quotaP pos cells set n) = q.cons.any fun c => quotaB pos c cells set n := by
  rw [someB_eq h]
  refine any_congr' fun c hc => ?_
  have h1 := all_congr' fun x hx => (quota_at (pos := pos) (cells := cells) (set := set) (hp c hc x hx).1 (hp c hc x hx).2).1
  have h2 := filter_congr' fun x hx => (quota_at (pos := pos) (cells := cells) (set := set) (hp c hc x hx).1 (hp c hc x hx).2).2
  unfold quotaB quotaP leftP leftN
  rw [h1, h2]
  cases (c.kind == 2) <;> cases subB c.cells cells <;> cases (c.lo == c.hi) <;> cases (c.set == set) <;> simp
end Go.Proofs.Ytimkijmjbnmcbaa
namespace Go.Proofs.Ytimkijmjbnmcbaa
open Go.RowKit
theorem ext_eq {a b : World} (h : a = b) : Ext a b := by subst h; exact Ext.rfl' _
theorem RInts.take {w : World} {A : Option Addr} {l : List Int} (h : RInts w A l) (k : Nat) : RInts w A (l.take k) := by
  refine ⟨by have := h.1; rw [List.length_take]; omega, fun hp => ?_⟩
  rw [List.length_take] at hp
  obtain ⟨ad, e, hb, hc⟩ := h.2 (by omega)
  refine ⟨ad, e, hb, fun i hi => ?_⟩
  rw [List.length_take] at hi
  obtain ⟨vs, h1, h2, h3⟩ := hc i (by omega)
  exact ⟨vs, h1, by simpa using h2, h3⟩
theorem in13_m (w : World) (A : Option Addr) (c : Nat) (l : List Int) (h : RInts w A l) (x : Int) :
    Calls Try.prog 62 #[.slice A l.length c, .int .i64 x] w fun e w' => e = .returned (.bool (memB l x)) ∧ w = w' := in13_ok w A c l h x
theorem in13_n (w : World) (A : Option Addr) (c n : Nat) (l : List Int) (hn : l.length = n) (h : RInts w A l) (x : Int) :
    Calls Try.prog 62 #[.slice A n c, .int .i64 x] w fun e w' => e = .returned (.bool (memB l x)) ∧ Ext w w' := by subst hn; exact (in13_ok w A c l h x).mono fun _ _ ⟨he, hw⟩ => ⟨he, ext_eq hw⟩
theorem met_memB {l : List Int} {k : Nat} (h : k ≤ l.length) : met l k = memB (l.take k) (num l k) := by
  rw [met_take h, any_flip]; rfl
set_option maxHeartbeats 1000000 in
set_option maxRecDepth 100000 in
theorem diff33_ok (w : World) (A : Option Addr) (c : Nat) (l : List Int) (h : RInts w A l) (hcap : l.length ≤ c) (n : Int) :
    Calls Try.prog 31 #[.slice A l.length c, .int .i64 n] w fun e w' => e = .returned (.bool (diffB l n)) ∧ Ext w w' := by
  have hl := h.len
  go_enter Try.func31, Try.ntmps31
  go_wp2_with fail
  go_loopw [5] (fun i wr => ∃ k : Nat, k ≤ l.length ∧ i = .int .i64 k ∧ Hid ((List.range k).all (diffAt l n) = true) ∧ Ext w wr) (fun i _ => l.length - (intOf i).toNat)
  case atStart => exact ⟨0, Nat.zero_le _, rfl, rfl, Ext.rfl' _⟩
  case round =>
    obtain ⟨k, hk, rfl, hno, hx⟩ := hrel
    by_cases hlt : k < l.length
    · have ht := (h.to hx).take k
      have Ht := hid ht; clear ht
      have hmm := met_memB (Nat.le_of_lt hlt)
      have htk : (l.take k).length = k := by rw [List.length_take]; omega
      have Htk := hid htk; clear htk
      obtain ⟨ad, rfl, hab, hc0, _⟩ := h.num (by omega)
      have hc := hc0 k hlt
      have F : ∀ W, Ext wr W → W.cell? (ad.add k) = some (.int .i64 (num l k)) := fun W hW => cellE (hx.tr hW) hc (by rw [block_of_add]; exact hab)
      have HF := hid F; clear F hc0 hc
      by_cases h1 : num l k < 0
      · have h1' : decide (num l k < 0) = true := decide_eq_true h1
        have Hm := hid hmm; clear hmm
        go_wp2_with fail
        (refine wp_region_sf (fun _ => none) (by kernel_rfl) (by kernel_rfl) ?_); (repeat (first | (refine wpE_skipK ?_ ?_; (focus ((first | refine wanted_notF rfl rfl ?_ | refine wanted_notT rfl rfl ?_); (focus (simp only [List.getElem?_toArray, List.getElem?_cons_succ, List.getElem?_cons_zero]; done)))); intro K hK; go_simp; apply hK; clear hK K; (have hq9 : True := trivial); clear hq9) | (refine wpE_detN rfl rfl (fun K hK => ?_); apply Exists.intro; apply And.intro; (focus (rintro W ⟨hx, -⟩; obtain f0 := HF.out W hx; go_simp; all_goals rfl)); go_simp; apply hK; clear hK K; (have hq9 : True := trivial); clear hq9) | (refine wpE_detK rfl ?_ ?_; (focus (refine wanted_so rfl rfl ?_; (focus (simp only [List.getElem?_toArray, List.getElem?_cons_succ, List.getElem?_cons_zero]; done)))); intro K hK; apply Exists.intro; apply And.intro; (focus (rintro W ⟨hx, -⟩; obtain f0 := HF.out W hx; go_simp; all_goals rfl)); go_simp; apply hK; clear hK K; (have hq9 : True := trivial); clear hq9))); (apply wpE_nil); (rintro W ⟨hW, hG⟩); clear hG
        go_wp2_with fail
        go_ret
        exact ⟨ret_bool (diffB_bad hlt (diffAt_out (.inl h1))).symm, hx.tr hW⟩
      have h1' : decide (num l k < 0) = false := decide_eq_false h1
      by_cases h2 : n ≤ num l k
      · have h2' : decide (n ≤ num l k) = true := decide_eq_true h2
        have Hm := hid hmm; clear hmm
        go_wp2_with fail
        (refine wp_region_sf (fun _ => none) (by kernel_rfl) (by kernel_rfl) ?_); (repeat (first | (refine wpE_skipK ?_ ?_; (focus ((first | refine wanted_notF rfl rfl ?_ | refine wanted_notT rfl rfl ?_); (focus (simp only [List.getElem?_toArray, List.getElem?_cons_succ, List.getElem?_cons_zero]; done)))); intro K hK; go_simp; apply hK; clear hK K; (have hq9 : True := trivial); clear hq9) | (refine wpE_detN rfl rfl (fun K hK => ?_); apply Exists.intro; apply And.intro; (focus (rintro W ⟨hx, -⟩; obtain f0 := HF.out W hx; go_simp; all_goals rfl)); go_simp; apply hK; clear hK K; (have hq9 : True := trivial); clear hq9) | (refine wpE_detK rfl ?_ ?_; (focus (refine wanted_so rfl rfl ?_; (focus (simp only [List.getElem?_toArray, List.getElem?_cons_succ, List.getElem?_cons_zero]; done)))); intro K hK; apply Exists.intro; apply And.intro; (focus (rintro W ⟨hx, -⟩; obtain f0 := HF.out W hx; go_simp; all_goals rfl)); go_simp; apply hK; clear hK K; (have hq9 : True := trivial); clear hq9))); (apply wpE_nil); (rintro W ⟨hW, hG⟩); clear hG
        go_wp2_with fail
        go_ret
        exact ⟨ret_bool (diffB_bad hlt (diffAt_out (.inr h2))).symm, hx.tr hW⟩
      have h2' : decide (n ≤ num l k) = false := decide_eq_false h2
      have hkc : (k : Int) ≤ (c : Int) := by omega
      have hk0 : (0 : Int) ≤ (k : Int) := by omega
      have hin := diffAt_in (l := l) (n := n) (k := k) (by omega) (by omega)
      rw [hmm] at hin
      have Hin := hid hin; clear hin hmm
      go_wp2_with fail
      (refine wp_region_sf (fun | 21 => some (SF.val (.bool (memB (l.take k) (num l k)))) | _ => none) (by kernel_rfl) (by kernel_rfl) ?_); (repeat (first | (refine wpE_skipK ?_ ?_; (focus ((first | refine wanted_notF rfl rfl ?_ | refine wanted_notT rfl rfl ?_); (focus (simp only [List.getElem?_toArray, List.getElem?_cons_succ, List.getElem?_cons_zero]; done)))); intro K hK; go_simp; apply hK; clear hK K; (have hq9 : True := trivial); clear hq9) | (refine wpE_detN rfl rfl (fun K hK => ?_); apply Exists.intro; apply And.intro; (focus (rintro W ⟨hx, -⟩; obtain f0 := HF.out W hx; go_simp; all_goals rfl)); go_simp; apply hK; clear hK K; (have hq9 : True := trivial); clear hq9) | (refine wpE_detK rfl ?_ ?_; (focus (refine wanted_so rfl rfl ?_; (focus (simp only [List.getElem?_toArray, List.getElem?_cons_succ, List.getElem?_cons_zero]; done)))); intro K hK; apply Exists.intro; apply And.intro; (focus (rintro W ⟨hx, -⟩; obtain f0 := HF.out W hx; go_simp; all_goals rfl)); go_simp; apply hK; clear hK K; (have hq9 : True := trivial); clear hq9))); (first | refine wpE_newN _ rfl rfl ?_ ?_ | (refine wpE_newK _ rfl ?_ ?_ ?_; (focus (refine wanted_so rfl rfl ?_; (focus (simp only [List.getElem?_toArray, List.getElem?_cons_succ, List.getElem?_cons_zero]; done)))))); (focus (rintro W ⟨hW, -⟩; go_simp; exact ⟨Ext.rfl' _, (in13_n W (some ad) c k (l.take k) Htk.out (Ht.out.to hW) (num l k)).mono fun e W' ⟨he, hb⟩ => ⟨_, he, hb, rfl⟩⟩)); (rintro _ ⟨_, rfl⟩ K hK); (go_simp; apply hK; clear hK K; (have hq9 : True := trivial); clear hq9); (repeat (first | (refine wpE_skipK ?_ ?_; (focus ((first | refine wanted_notF rfl rfl ?_ | refine wanted_notT rfl rfl ?_); (focus (simp only [List.getElem?_toArray, List.getElem?_cons_succ, List.getElem?_cons_zero]; done)))); intro K hK; go_simp; apply hK; clear hK K; (have hq9 : True := trivial); clear hq9) | (refine wpE_detN rfl rfl (fun K hK => ?_); apply Exists.intro; apply And.intro; (focus (rintro W ⟨hx, -⟩; obtain f0 := HF.out W hx; go_simp; all_goals rfl)); go_simp; apply hK; clear hK K; (have hq9 : True := trivial); clear hq9) | (refine wpE_detK rfl ?_ ?_; (focus (refine wanted_so rfl rfl ?_; (focus (simp only [List.getElem?_toArray, List.getElem?_cons_succ, List.getElem?_cons_zero]; done)))); intro K hK; apply Exists.intro; apply And.intro; (focus (rintro W ⟨hx, -⟩; obtain f0 := HF.out W hx; go_simp; all_goals rfl)); go_simp; apply hK; clear hK K; (have hq9 : True := trivial); clear hq9))); (apply wpE_nil); (rintro W ⟨hW, hG⟩); clear hG
      cases hM : memB (l.take k) (num l k)
      · go_wp2_with fail
        go_roundw
        case rel => exact ⟨k + 1, by omega, by go_num, rall_on hno (by rw [Hin.out, hM]; rfl), hx.tr hW⟩
        case measure => simp [intOf]; omega
      · go_wp2_with fail
        go_ret
        exact ⟨ret_bool (diffB_bad hlt (by rw [Hin.out, hM]; rfl)).symm, hx.tr hW⟩
    · go_wp2_with fail
      go_ret
      exact ⟨ret_bool (rall_end hno hk hlt).symm, hx⟩
set_option maxHeartbeats 1000000 in
theorem all33_ok (w : World) (A B : Option Addr) (c d : Nat) (l s : List Int) (h : RInts w A l) (g : RInts w B s) :
    Calls Try.prog 67 #[.slice A l.length c, .slice B s.length d] w fun e w' => e = .returned (.bool (subB l s)) ∧ w = w' := by
  have hl := g.len
  go_enter Try.func67, Try.ntmps67
  go_wp2_with fail
  go_loop [5] (fun i => ∃ k : Nat, k ≤ s.length ∧ i = .int .i64 k ∧ Hid ((s.take k).all (memB l) = true)) (fun i => s.length - (intOf i).toNat)
  case atStart => exact ⟨0, Nat.zero_le _, rfl, rfl⟩
  case round =>
    obtain ⟨k, hk, rfl, hno⟩ := hrel
    by_cases hlt : k < s.length
    · obtain ⟨ad, rfl, _, hc, _⟩ := g.at_ k hlt
      cases hM : memB l s[k]
      · go_wp2_with (go_at_call 62; refine (in13_m _ A c l h _).mono ?_; rintro e w1 ⟨rfl, rfl⟩)
        go_ret
        exact ⟨ret_bool (all_of_at k hlt hM).symm, rfl⟩
      · go_wp2_with (go_at_call 62; refine (in13_m _ A c l h _).mono ?_; rintro e w1 ⟨rfl, rfl⟩)
        go_round
        case rel => exact ⟨k + 1, by omega, by go_num, all_on hlt hno hM⟩
        case measure => simp [intOf]; omega
    · go_wp2_with fail
      go_ret
      exact ⟨ret_bool (all_end hno hlt).symm, rfl⟩
/-- Numbers within bounds, one at a time. -/
def withinN (l : List Int) (n : Int) : Bool := l.all fun x => decide (0 ≤ x) && decide (x < n)
set_option maxHeartbeats 1000000 in
theorem within33_ok (w : World) (A : Option Addr) (c : Nat) (l : List Int) (h : RInts w A l) (n : Int) :
    Calls Try.prog 38 #[.slice A l.length c, .int .i64 n] w fun e w' => e = .returned (.bool (withinN l n)) ∧ w = w' := by
  have hl := h.len
  go_enter Try.func38, Try.ntmps38
  go_wp2_with fail
  go_loop [5] (fun i => ∃ k : Nat, k ≤ l.length ∧ i = .int .i64 k ∧ Hid ((l.take k).all (fun x => decide (0 ≤ x) && decide (x < n)) = true)) (fun i => l.length - (intOf i).toNat)
  case atStart => exact ⟨0, Nat.zero_le _, rfl, rfl⟩
  case round =>
    obtain ⟨k, hk, rfl, hno⟩ := hrel
    by_cases hlt : k < l.length
    · obtain ⟨ad, rfl, _, hc, _⟩ := h.at_ k hlt
      by_cases h1 : l[k] < 0
      · go_wp2_with fail
        go_ret
        exact ⟨ret_bool (all_of_at k hlt (by simp; omega)).symm, rfl⟩
      have h1' : decide (l[k] < 0) = false := decide_eq_false h1
      by_cases h2 : n ≤ l[k]
      · go_wp2_with fail
        go_ret
        exact ⟨ret_bool (all_of_at k hlt (by simp; omega)).symm, rfl⟩
      have h2' : decide (n ≤ l[k]) = false := decide_eq_false h2
      go_wp2_with fail
      go_round
      case rel => exact ⟨k + 1, by omega, by go_num, all_on hlt hno (by simp; omega)⟩
      case measure => simp [intOf]; omega
    · go_wp2_with fail
      go_ret
      exact ⟨ret_bool (all_end hno hlt).symm, rfl⟩
/-- One list of integers. -/
def RetIs (w : World) (l : List Int) (e : Ending) (w' : World) : Prop := ∃ A c, e = .returned (.slice A l.length c) ∧ RInts w' A l ∧ Ext w w'
/-- Some numbers are indices. -/
def Idx (at_ : List Int) (n : Nat) : Prop := ∀ x ∈ at_, 0 ≤ x ∧ x < n
set_option maxHeartbeats 1000000 in
theorem chosen33_ok (w : World) (A B : Option Addr) (c d : Nat) (l s : List Int) (h : RInts w A l) (g : RInts w B s) (hi : Idx s l.length) :
    Calls Try.prog 64 #[.slice A l.length c, .slice B s.length d] w (RetIs w (chosen l s)) := by
  have hl := g.len
  have hl2 := h.len
  have Hi := hid hi; clear hi
  go_enter Try.func64, Try.ntmps64
  go_wp2_with fail
  go_loopw [5, 6] (fun v i wr => ∃ (k : Nat) (C : Option Addr) (cc : Nat), k ≤ s.length ∧ i = .int .i64 k ∧ v = .slice C k cc ∧ OwnI wr w.heap.size (.slice C k cc) (chosen l (s.take k)) ∧ Ext w wr) (fun _ i _ => s.length - (intOf i).toNat)
  case atStart => exact ⟨0, none, 0, Nat.zero_le _, rfl, rfl, OwnI.nil _ _, Ext.rfl' _⟩
  case round =>
    obtain ⟨k, C, cc, hk, rfl, rfl, hown, hx⟩ := hrel
    by_cases hlt : k < s.length
    · obtain ⟨ad, rfl, _, hc, _⟩ := (g.to hx).at_ k hlt
      obtain ⟨h1, h2⟩ := Hi.out _ (List.getElem_mem hlt)
      obtain ⟨bd, rfl, _, hd, hv⟩ := (h.to hx).num (by omega)
      have hd1 := hd s[k].toNat (by omega)
      have hv1 := hv s[k].toNat (by omega)
      have Hv := hid hv1; clear hd hv hv1
      have ht : chosen l (s.take (k + 1)) = chosen l (s.take k) ++ [num l s[k].toNat] := by unfold chosen; rw [List.take_succ_eq_append_getElem hlt, List.map_append]; rfl
      have Ht := hid ht; clear ht
      go_wp2_with (at_builtin; refine app_one w hx rfl _ _ rfl C k cc _ rfl hown _ (num l s[k].toNat) rfl Hv.out (by omega) ?_; intro A' c' w2 hown2 hx2 hg2)
      go_roundw
      case rel => exact ⟨k + 1, A', c', by omega, by go_num, rfl, hown2.as rfl Ht.out.symm, hx2⟩
      case measure => simp [intOf]; omega
    · have hk3 : k = s.length := by omega
      have hall : s.take k = s := List.take_of_length_le (by omega)
      rw [hall] at hown
      subst hk3
      go_wp2_with fail
      go_ret
      exact ⟨C, cc, by simp [chosen], hown.ints, hx⟩
theorem setOf_take {l : List Int} {k : Nat} (h : k < l.length) : setOf (l.take (k + 1)) = bits .or .i64 (setOf (l.take k)) (2 ^ l[k].toNat) := by
  unfold setOf; rw [List.take_succ_eq_append_getElem h, List.foldl_append]; rfl
set_option maxHeartbeats 1000000 in
theorem set33_ok (w : World) (A : Option Addr) (c : Nat) (l : List Int) (h : RInts w A l) (hi : Idx l 16) :
    Calls Try.prog 70 #[.slice A l.length c] w fun e w' => e = .returned (.int .i64 (setOf l)) ∧ w = w' := by
  have hl := h.len
  have Hi := hid hi; clear hi
  go_enter Try.func70, Try.ntmps70
  go_wp2_with fail
  go_loop [3, 4] (fun s i => ∃ k : Nat, k ≤ l.length ∧ i = .int .i64 k ∧ s = .int .i64 (setOf (l.take k))) (fun _ i => l.length - (intOf i).toNat)
  case atStart => exact ⟨0, Nat.zero_le _, rfl, rfl⟩
  case round =>
    obtain ⟨k, hk, rfl, rfl⟩ := hrel
    by_cases hlt : k < l.length
    · obtain ⟨ad, rfl, _, hc, _⟩ := h.at_ k hlt
      obtain ⟨h1, h2⟩ := Hi.out _ (List.getElem_mem hlt)
      have hp := pow_bd l[k] h1 (by omega)
      have Ht := hid (setOf_take hlt)
      go_wp2_with fail
      go_round
      case rel => exact ⟨k + 1, by omega, by go_num, by rw [Ht.out]⟩
      case measure => simp [intOf]; omega
    · have hall : l.take k = l := List.take_of_length_le (by omega)
      rw [hall]
      go_wp2_with fail
      go_ret
      exact ⟨rfl, rfl⟩
end Go.Proofs.Ytimkijmjbnmcbaa
namespace Go.Proofs.Ytimkijmjbnmcbaa
open Go.RowKit
abbrev consV (c : Cons) (A : Option Addr) (a : Nat) (B : Option Addr) (b : Nat) : Value := .agg #[.int .i64 c.kind, .slice A c.cells.length a, .int .i64 c.set, .int .i64 c.other, .int .i64 c.lo, .int .i64 c.hi, .slice B c.runs.length b, .int .i64 c.rule, .int .i64 c.at_]
set_option maxHeartbeats 2000000 in
theorem pair33_ok (w : World) (q : Problem) (p : PPtr) (a b : Int) (h : RProb w q p) :
    Calls Try.prog 65 #[probV q p, .int .i64 a, .int .i64 b] w fun e w' => e = .returned (.bool (pairB q a b)) ∧ Ext w w' := by
  have x0 := (Ext.rfl' w).al (probO q p)
  obtain ⟨pa, pac, pb, pbc, pc, pcc⟩ := p
  have hl := h.cons.len
  have F : ∀ W, Ext (w.alloc (probO q ⟨pa, pac, pb, pbc, pc, pcc⟩)) W → ProbBox W w.heap.size q ⟨pa, pac, pb, pbc, pc, pcc⟩ := fun W hW => probBox hW rfl
  have HF := hid F; clear F
  go_enter Try.func65, Try.ntmps65
  go_wp2_with fail
  go_loopw [7] (fun i wr => ∃ k : Nat, k ≤ q.cons.length ∧ i = .int .i64 k ∧ Hid ((q.cons.take k).any (fun c => c.kind == 1 && memB c.cells a && memB c.cells b) = false) ∧ Ext (w.alloc (probO q ⟨pa, pac, pb, pbc, pc, pcc⟩)) wr) (fun i _ => q.cons.length - (intOf i).toNat)
  case atStart => exact ⟨0, Nat.zero_le _, rfl, rfl, Ext.rfl' _⟩
  case round =>
    obtain ⟨k, hk, rfl, hno, hx⟩ := hrel
    obtain ⟨f0, f1, f2, f3, f4⟩ := HF.out _ hx
    dsimp only at f2 f3 f4
    clear f0 f1 f2 f3
    by_cases hlt : k < q.cons.length
    · obtain ⟨ad, B, c1, C, c2, hA, hab, r1, r2, -, g0, g1, -, -, -, -, -, -, -⟩ := (h.cons.to (x0.tr hx)).consLoad k hlt
      dsimp only at hA
      subst hA
      cases e1 : (q.cons[k].kind == 1)
      · go_wp2_with fail
        go_roundw
        case rel => exact ⟨k + 1, by omega, by go_num, any_on hlt hno (by rw [e1]; rfl), hx⟩
        case measure => simp [intOf]; omega
      cases e2 : memB q.cons[k].cells a
      · go_wp2_with (go_at_call 62; refine (in13_m _ B c1 _ r1 _).mono ?_; rintro e w1 ⟨rfl, rfl⟩)
        go_roundw
        case rel => exact ⟨k + 1, by omega, by go_num, any_on hlt hno (by rw [e1, e2]; rfl), hx⟩
        case measure => simp [intOf]; omega
      cases e3 : memB q.cons[k].cells b
      · go_wp2_with (go_at_call 62; refine (in13_m _ B c1 _ r1 _).mono ?_; rintro e w1 ⟨rfl, rfl⟩)
        go_roundw
        case rel => exact ⟨k + 1, by omega, by go_num, any_on hlt hno (by rw [e1, e2, e3]; rfl), hx⟩
        case measure => simp [intOf]; omega
      · go_wp2_with (go_at_call 62; refine (in13_m _ B c1 _ r1 _).mono ?_; rintro e w1 ⟨rfl, rfl⟩)
        go_ret
        exact ⟨ret_bool (any_of_at k hlt (by rw [e1, e2, e3]; rfl)).symm, x0.tr hx⟩
    · go_wp2_with fail
      go_ret
      exact ⟨ret_bool (any_end hno hlt).symm, x0.tr hx⟩
theorem homeB_1 {q : Problem} {pos : List Int} {c : Cons} {cells : List Int} {s : Int} (h : (c.kind == 1) = false) : homeB q pos c cells s = false := by unfold homeB; rw [h]; rfl
theorem homeB_2 {q : Problem} {pos : List Int} {c : Cons} {cells : List Int} {s : Int} (h : ((c.cells.length : Int) == q.symbols) = false) : homeB q pos c cells s = false := by unfold homeB; rw [h]; simp
theorem homeB_3 {q : Problem} {pos : List Int} {c : Cons} {cells : List Int} {s : Int} (h : subB c.cells cells = false) : homeB q pos c cells s = false := by unfold homeB; rw [h]; simp
theorem homeB_4 {q : Problem} {pos : List Int} {c : Cons} {cells : List Int} {s : Int} (h1 : (c.kind == 1) = true) (h2 : ((c.cells.length : Int) == q.symbols) = true) (h3 : subB c.cells cells = true) : homeB q pos c cells s = c.cells.all (homeAt pos cells s) := by unfold homeB; rw [h1, h2, h3]; rfl
theorem shr_bit {x s : Int} (hs : 0 ≤ s) (hs2 : s < 64) : (bits .and .i64 (x / 2 ^ s.toNat) 1 == 1) = hasS x s.toNat := by
  rw [bits_shift_one _ _ (by omega)]
  cases hasS x s.toNat <;> rfl
set_option maxHeartbeats 2000000 in
theorem home33_ok (w : World) (q : Problem) (p : PPtr) (P : Option Addr) (pn : Nat) (pos : List Int) (c : Cons) (A : Option Addr) (a : Nat) (B : Option Addr) (b : Nat) (C : Option Addr) (cn : Nat) (cells : List Int) (s : Int)
    (hP : RInts w P pos) (hA : RInts w A c.cells) (hC : RInts w C cells) (hi : Idx c.cells pos.length) (hs : 0 ≤ s) (hs2 : s < 16) :
    Calls Try.prog 66 #[probV q p, .slice P pos.length pn, consV c A a B b, .slice C cells.length cn, .int .i64 s] w fun e w' => e = .returned (.bool (homeB q pos c cells s)) ∧ Ext w w' := by
  have x0 := ((Ext.rfl' w).al (probO q p)).al (consO c A a B b)
  have RA := hA.to x0; have RC := hC.to x0; have RP := hP.to x0
  have hl := hA.len
  have Hi := hid hi; clear hi
  cases e1 : (c.kind == 1)
  · have e1' : (c.kind != 1) = true := by rw [bne, e1]; rfl
    have E1 := hid e1; clear e1
    go_enter Try.func66, Try.ntmps66
    go_wp2_with fail
    go_ret
    exact ⟨ret_bool (homeB_1 E1.out).symm, x0⟩
  have e1' : (c.kind != 1) = false := by rw [bne, e1]; rfl
  have E1 := hid e1; clear e1
  cases e2 : ((c.cells.length : Int) == q.symbols)
  · have e2' : ((c.cells.length : Int) != q.symbols) = true := by rw [bne, e2]; rfl
    have E2 := hid e2; clear e2
    go_enter Try.func66, Try.ntmps66
    go_wp2_with fail
    go_ret
    exact ⟨ret_bool (homeB_2 E2.out).symm, x0⟩
  have e2' : ((c.cells.length : Int) != q.symbols) = false := by rw [bne, e2]; rfl
  have E2 := hid e2; clear e2
  cases e3 : subB c.cells cells
  · go_enter Try.func66, Try.ntmps66
    go_wp2_with (go_at_call 67; refine (all33_ok _ A C _ _ c.cells cells RA RC).mono ?_; rintro e w1 ⟨rfl, rfl⟩)
    go_ret
    exact ⟨ret_bool (homeB_3 e3).symm, x0⟩
  have he := homeB_4 (pos := pos) (s := s) E1.out E2.out e3
  have He := hid he; clear he
  go_enter Try.func66, Try.ntmps66
  go_wp2_with (go_at_call 67; refine (all33_ok _ A C _ _ c.cells cells RA RC).mono ?_; rintro e w1 ⟨rfl, rfl⟩)
  go_loop [11] (fun i => ∃ k : Nat, k ≤ c.cells.length ∧ i = .int .i64 k ∧ Hid ((c.cells.take k).all (homeAt pos cells s) = true)) (fun i => c.cells.length - (intOf i).toNat)
  case atStart => exact ⟨0, Nat.zero_le _, rfl, rfl⟩
  case round =>
    obtain ⟨k, hk, rfl, hno⟩ := hrel
    by_cases hlt : k < c.cells.length
    · obtain ⟨ad, rfl, _, hc, _⟩ := RA.at_ k hlt
      obtain ⟨i1, i2⟩ := Hi.out _ (List.getElem_mem hlt)
      obtain ⟨bd, rfl, _, hd, hv⟩ := RP.num (by omega)
      have hd1 := hd c.cells[k].toNat (by omega)
      have hb := shr_bit (x := num pos c.cells[k].toNat) hs (by omega)
      clear hd hv
      cases e4 : memB cells c.cells[k]
      · cases e5 : hasS (num pos c.cells[k].toNat) s.toNat
        · rw [e5] at hb
          have E5 := hid e5; clear e5
          go_wp2_with (go_at_call 62; refine (in13_m _ C cn _ RC _).mono ?_; rintro e w1 ⟨rfl, rfl⟩)
          go_round
          case rel => exact ⟨k + 1, by omega, by go_num, all_on hlt hno (by unfold homeAt; rw [e4, E5.out]; rfl)⟩
          case measure => simp [intOf]; omega
        · rw [e5] at hb
          have E5 := hid e5; clear e5
          go_wp2_with (go_at_call 62; refine (in13_m _ C cn _ RC _).mono ?_; rintro e w1 ⟨rfl, rfl⟩)
          go_ret
          exact ⟨ret_bool (by rw [He.out]; exact (all_of_at k hlt (by unfold homeAt; rw [e4, E5.out]; rfl)).symm), x0⟩
      · have Hb := hid hb; clear hb
        go_wp2_with (go_at_call 62; refine (in13_m _ C cn _ RC _).mono ?_; rintro e w1 ⟨rfl, rfl⟩)
        go_round
        case rel => exact ⟨k + 1, by omega, by go_num, all_on hlt hno (by unfold homeAt; rw [e4]; rfl)⟩
        case measure => simp [intOf]; omega
    · go_wp2_with fail
      go_ret
      exact ⟨ret_bool (by rw [He.out]; exact (all_end hno hlt).symm), x0⟩
end Go.Proofs.Ytimkijmjbnmcbaa
namespace Go.Proofs.Ytimkijmjbnmcbaa
open Go.RowKit
theorem sub_len {a l : List Int} {n : Nat} (h : n ≤ a.length) : (a.drop n).isSublist l = true → n = a.length ∨ n < a.length := fun _ => by omega
theorem rise_done {a l : List Int} {n : Nat} (h : a.length ≤ n) : (a.drop n).isSublist l = true := by
  rw [List.drop_eq_nil_of_le h]; exact List.isSublist_iff_sublist.2 (List.nil_sublist _)
theorem rise_none {a : List Int} {n : Nat} (h : n < a.length) : (a.drop n).isSublist ([] : List Int) = false := by
  rw [Bool.eq_false_iff]; intro hs
  have := (List.isSublist_iff_sublist.1 hs).length_le
  rw [List.length_drop] at this; simp at this; omega
theorem rise_hit {a l : List Int} {n k : Nat} (hn : n < a.length) (hk : k < l.length) (h : l[k] = a[n]) : (a.drop n).isSublist (l.drop k) = (a.drop (n + 1)).isSublist (l.drop (k + 1)) := by
  rw [Bool.eq_iff_iff, List.isSublist_iff_sublist, List.isSublist_iff_sublist, List.drop_eq_getElem_cons hn, List.drop_eq_getElem_cons hk, h]
  exact List.cons_sublist_cons
theorem rise_miss {a l : List Int} {n k : Nat} (hn : n < a.length) (hk : k < l.length) (h : l[k] ≠ a[n]) : (a.drop n).isSublist (l.drop k) = (a.drop n).isSublist (l.drop (k + 1)) := by
  rw [Bool.eq_iff_iff, List.isSublist_iff_sublist, List.isSublist_iff_sublist, List.drop_eq_getElem_cons hn, List.drop_eq_getElem_cons hk]
  rw [List.sublist_cons_iff]
  refine ⟨fun hs => hs.elim id fun ⟨r, hr, _⟩ => ?_, .inl⟩
  injection hr with hr
  exact absurd hr.symm h
theorem riseB_1 {c : Cons} {cells : List Int} (h : (c.kind == 4) = false) : riseB c cells = false := by unfold riseB; rw [h]; rfl
theorem riseB_2 {c : Cons} {cells : List Int} (h : (c.kind == 4) = true) : riseB c cells = cells.isSublist c.cells := by unfold riseB; rw [h]; rfl
set_option maxHeartbeats 2000000 in
theorem rising33_ok (w : World) (c : Cons) (A : Option Addr) (a : Nat) (B : Option Addr) (b : Nat) (C : Option Addr) (cn : Nat) (cells : List Int) (hA : RInts w A c.cells) (hC : RInts w C cells) :
    Calls Try.prog 68 #[consV c A a B b, .slice C cells.length cn] w fun e w' => e = .returned (.bool (riseB c cells)) ∧ Ext w w' := by
  have x0 := (Ext.rfl' w).al (consO c A a B b)
  have RA := hA.to x0; have RC := hC.to x0
  have hl := hA.len
  have hl2 := hC.len
  cases e1 : (c.kind == 4)
  · have e1' : (c.kind != 4) = true := by rw [bne, e1]; rfl
    have E1 := hid e1; clear e1
    go_enter Try.func68, Try.ntmps68
    go_wp2_with fail
    go_ret
    exact ⟨ret_bool (riseB_1 E1.out).symm, x0⟩
  have e1' : (c.kind != 4) = false := by rw [bne, e1]; rfl
  have E1 := hid (riseB_2 (cells := cells) e1); clear e1
  have F : ∀ W, Ext (w.alloc (consO c A a B b)) W → ConsBox W w.heap.size c A a B b := fun W hW => consBox hW rfl
  have HF := hid F; clear F
  go_enter Try.func68, Try.ntmps68
  go_wp2_with fail
  go_loopw [5, 6] (fun n i wr => ∃ k m : Nat, k ≤ c.cells.length ∧ m ≤ cells.length ∧ i = .int .i64 k ∧ n = .int .i64 m ∧ Hid ((cells.drop m).isSublist (c.cells.drop k) = cells.isSublist c.cells) ∧ Ext (w.alloc (consO c A a B b)) wr) (fun _ i _ => c.cells.length - (intOf i).toNat)
  case atStart => exact ⟨0, 0, Nat.zero_le _, Nat.zero_le _, rfl, rfl, rfl, Ext.rfl' _⟩
  case round =>
    obtain ⟨k, m, hk, hm, rfl, rfl, hno, hx⟩ := hrel
    obtain ⟨-, f1, -, -, -, -, -, -, -⟩ := HF.out _ hx
    by_cases hlt : k < c.cells.length
    · by_cases hlt2 : m < cells.length
      · obtain ⟨ad, rfl, hab, hc, _⟩ := RA.at_ k hlt
        obtain ⟨bd, rfl, hbb, hd, _⟩ := RC.at_ m hlt2
        have F2 : ∀ W, Ext wr W → W.cell? (ad.add k) = some (.int .i64 c.cells[k]) ∧ W.cell? (bd.add m) = some (.int .i64 cells[m]) ∧ W.cell? ⟨w.heap.size, 1, none⟩ = some (.slice (some ad) c.cells.length a) := fun W hW =>
          ⟨cellE (hx.tr hW) hc (by rw [block_of_add]; exact hab), cellE (hx.tr hW) hd (by rw [block_of_add]; exact hbb), (HF.out W (hx.tr hW)).2.1⟩
        have HF2 := hid F2; clear F2
        cases e2 : (c.cells[k] == cells[m])
        · have E2 := hid (rise_miss hlt2 hlt (beq_eq_false_iff_ne.1 e2))
          go_wp2_with fail
          (refine wp_region_sf (fun _ => none) (by kernel_rfl) (by kernel_rfl) ?_); (repeat (first | (refine wpE_skipK ?_ ?_; (focus ((first | refine wanted_notF rfl rfl ?_ | refine wanted_notT rfl rfl ?_); (focus (simp only [List.getElem?_toArray, List.getElem?_cons_succ, List.getElem?_cons_zero]; done)))); intro K hK; go_simp; apply hK; clear hK K; (have hq9 : True := trivial); clear hq9) | (refine wpE_detN rfl rfl (fun K hK => ?_); apply Exists.intro; apply And.intro; (focus (rintro W ⟨hx, -⟩; obtain ⟨g0, g1, g2⟩ := HF2.out W hx; go_simp; all_goals rfl)); go_simp; apply hK; clear hK K; (have hq9 : True := trivial); clear hq9) | (refine wpE_detK rfl ?_ ?_; (focus (refine wanted_so rfl rfl ?_; (focus (simp only [List.getElem?_toArray, List.getElem?_cons_succ, List.getElem?_cons_zero]; done)))); intro K hK; apply Exists.intro; apply And.intro; (focus (rintro W ⟨hx, -⟩; obtain ⟨g0, g1, g2⟩ := HF2.out W hx; go_simp; all_goals rfl)); go_simp; apply hK; clear hK K; (have hq9 : True := trivial); clear hq9))); (apply wpE_nil); (rintro W ⟨hW, hG⟩); clear hG
          go_wp2_with fail
          go_roundw
          case rel => exact ⟨k + 1, m, by omega, by omega, by go_num, rfl, E2.out.symm.trans hno.out, hx.tr hW⟩
          case measure => simp [intOf]; omega
        · have E2 := hid (rise_hit hlt2 hlt (beq_iff_eq.1 e2))
          go_wp2_with fail
          (refine wp_region_sf (fun _ => none) (by kernel_rfl) (by kernel_rfl) ?_); (repeat (first | (refine wpE_skipK ?_ ?_; (focus ((first | refine wanted_notF rfl rfl ?_ | refine wanted_notT rfl rfl ?_); (focus (simp only [List.getElem?_toArray, List.getElem?_cons_succ, List.getElem?_cons_zero]; done)))); intro K hK; go_simp; apply hK; clear hK K; (have hq9 : True := trivial); clear hq9) | (refine wpE_detN rfl rfl (fun K hK => ?_); apply Exists.intro; apply And.intro; (focus (rintro W ⟨hx, -⟩; obtain ⟨g0, g1, g2⟩ := HF2.out W hx; go_simp; all_goals rfl)); go_simp; apply hK; clear hK K; (have hq9 : True := trivial); clear hq9) | (refine wpE_detK rfl ?_ ?_; (focus (refine wanted_so rfl rfl ?_; (focus (simp only [List.getElem?_toArray, List.getElem?_cons_succ, List.getElem?_cons_zero]; done)))); intro K hK; apply Exists.intro; apply And.intro; (focus (rintro W ⟨hx, -⟩; obtain ⟨g0, g1, g2⟩ := HF2.out W hx; go_simp; all_goals rfl)); go_simp; apply hK; clear hK K; (have hq9 : True := trivial); clear hq9))); (apply wpE_nil); (rintro W ⟨hW, hG⟩); clear hG
          go_wp2_with fail
          go_roundw
          case rel => exact ⟨k + 1, m + 1, by omega, by omega, by go_num, by go_num, E2.out.symm.trans hno.out, hx.tr hW⟩
          case measure => simp [intOf]; omega
      · have hf := hno.out
        rw [rise_done (by omega)] at hf
        have hme : ((m : Int) == cells.length) = true := by rw [beq_iff_eq]; omega
        have Hf := hid hf; clear hf
        go_wp2_with fail
        go_ret
        exact ⟨ret_bool (by rw [E1.out]; exact Hf.out), x0.tr hx⟩
    · have hf := hno.out
      have hdn : c.cells.drop k = [] := List.drop_eq_nil_of_le (by omega)
      rw [hdn] at hf
      by_cases hlt2 : m < cells.length
      · rw [rise_none hlt2] at hf
        have hme : ((m : Int) == cells.length) = false := by rw [beq_eq_false_iff_ne]; omega
        have Hf := hid hf; clear hf
        go_wp2_with fail
        go_ret
        exact ⟨ret_bool (by rw [E1.out]; exact Hf.out), x0.tr hx⟩
      · rw [rise_done (by omega)] at hf
        have hme : ((m : Int) == cells.length) = true := by rw [beq_iff_eq]; omega
        have Hf := hid hf; clear hf
        go_wp2_with fail
        go_ret
        exact ⟨ret_bool (by rw [E1.out]; exact Hf.out), x0.tr hx⟩
end Go.Proofs.Ytimkijmjbnmcbaa
namespace Go.Proofs.Ytimkijmjbnmcbaa
open Go.RowKit
theorem quotaB_1 {pos : List Int} {c : Cons} {cells : List Int} {set n : Int} (h : (c.kind == 2) = false) : quotaB pos c cells set n = false := by unfold quotaB; rw [h]; rfl
theorem quotaB_2 {pos : List Int} {c : Cons} {cells : List Int} {set n : Int} (h : (c.lo == c.hi) = false) : quotaB pos c cells set n = false := by unfold quotaB; rw [h]; simp
theorem quotaB_3 {pos : List Int} {c : Cons} {cells : List Int} {set n : Int} (h : (c.set == set) = false) : quotaB pos c cells set n = false := by unfold quotaB; rw [h]; simp
theorem quotaB_4 {pos : List Int} {c : Cons} {cells : List Int} {set n : Int} (h : subB c.cells cells = false) : quotaB pos c cells set n = false := by unfold quotaB; rw [h]; simp
theorem quotaB_5 {pos : List Int} {c : Cons} {cells : List Int} {set n : Int} (h1 : (c.kind == 2) = true) (h2 : (c.lo == c.hi) = true) (h3 : (c.set == set) = true) (h4 : subB c.cells cells = true) :
    quotaB pos c cells set n = (c.cells.all (quotaAt pos cells set) && (leftN pos cells set c.lo c.cells == n)) := by unfold quotaB; rw [h1, h2, h3, h4]; rfl
theorem left_in {pos cells : List Int} {set lo : Int} {l : List Int} {k : Nat} (h : k < l.length) (hq : quotaIn pos cells set l[k] = true) : leftN pos cells set lo (l.take (k + 1)) = leftN pos cells set lo (l.take k) - 1 := by
  unfold leftN; rw [List.take_succ_eq_append_getElem h, List.filter_append, List.length_append]; simp [hq]; omega
theorem left_out {pos cells : List Int} {set lo : Int} {l : List Int} {k : Nat} (h : k < l.length) (hq : quotaIn pos cells set l[k] = false) : leftN pos cells set lo (l.take (k + 1)) = leftN pos cells set lo (l.take k) := by
  unfold leftN; rw [List.take_succ_eq_append_getElem h, List.filter_append, List.length_append]; simp [hq]
theorem left_bd (pos cells : List Int) (set lo : Int) (l : List Int) (k : Nat) : lo - k ≤ leftN pos cells set lo (l.take k) ∧ leftN pos cells set lo (l.take k) ≤ lo := by
  unfold leftN
  have h1 := List.length_filter_le (quotaIn pos cells set) (l.take k)
  have h2 : (l.take k).length ≤ k := List.length_take_le _ _
  omega
set_option maxHeartbeats 4000000 in
theorem quota33_ok (w : World) (P : Option Addr) (pn : Nat) (pos : List Int) (c : Cons) (A : Option Addr) (a : Nat) (B : Option Addr) (b : Nat) (C : Option Addr) (cn : Nat) (cells : List Int) (set n : Int)
    (hP : RInts w P pos) (hA : RInts w A c.cells) (hC : RInts w C cells) (hi : Idx c.cells pos.length) (hlo : 0 ≤ c.lo) (hlo2 : c.lo ≤ 65536) :
    Calls Try.prog 69 #[.slice P pos.length pn, consV c A a B b, .slice C cells.length cn, .int .i64 set, .int .i64 n] w fun e w' => e = .returned (.bool (quotaB pos c cells set n)) ∧ Ext w w' := by
  have x0 := (Ext.rfl' w).al (consO c A a B b)
  have RA := hA.to x0; have RC := hC.to x0; have RP := hP.to x0
  have hl := hA.len
  have Hi := hid hi; clear hi
  cases e1 : (c.kind == 2)
  · have e1' : (c.kind != 2) = true := by rw [bne, e1]; rfl
    have E1 := hid e1; clear e1
    go_enter Try.func69, Try.ntmps69
    go_wp2_with fail
    go_ret
    exact ⟨ret_bool (quotaB_1 E1.out).symm, x0⟩
  have e1' : (c.kind != 2) = false := by rw [bne, e1]; rfl
  have E1 := hid e1; clear e1
  cases e2 : (c.lo == c.hi)
  · have e2' : (c.lo != c.hi) = true := by rw [bne, e2]; rfl
    have E2 := hid e2; clear e2
    go_enter Try.func69, Try.ntmps69
    go_wp2_with fail
    go_ret
    exact ⟨ret_bool (quotaB_2 E2.out).symm, x0⟩
  have e2' : (c.lo != c.hi) = false := by rw [bne, e2]; rfl
  have E2 := hid e2; clear e2
  cases e3 : (c.set == set)
  · have e3' : (c.set != set) = true := by rw [bne, e3]; rfl
    have E3 := hid e3; clear e3
    go_enter Try.func69, Try.ntmps69
    go_wp2_with fail
    go_ret
    exact ⟨ret_bool (quotaB_3 E3.out).symm, x0⟩
  have e3' : (c.set != set) = false := by rw [bne, e3]; rfl
  have E3 := hid e3; clear e3
  cases e4 : subB c.cells cells
  · go_enter Try.func69, Try.ntmps69
    go_wp2_with (go_at_call 67; refine (all33_ok _ A C _ _ c.cells cells RA RC).mono ?_; rintro e w1 ⟨rfl, rfl⟩)
    go_ret
    exact ⟨ret_bool (quotaB_4 e4).symm, x0⟩
  have He := hid (quotaB_5 (pos := pos) (n := n) E1.out E2.out E3.out e4)
  go_enter Try.func69, Try.ntmps69
  go_wp2_with (go_at_call 67; refine (all33_ok _ A C _ _ c.cells cells RA RC).mono ?_; rintro e w1 ⟨rfl, rfl⟩)
  have E4 := hid e4; clear e4
  go_loop [11, 12, 13] (fun r i _ => ∃ k : Nat, k ≤ c.cells.length ∧ i = .int .i64 k ∧ r = .int .i64 (leftN pos cells set c.lo (c.cells.take k)) ∧ Hid ((c.cells.take k).all (quotaAt pos cells set) = true)) (fun _ i _ => c.cells.length - (intOf i).toNat)
  case atStart => exact ⟨0, Nat.zero_le _, rfl, by simp [leftN], rfl⟩
  case round =>
    obtain ⟨k, hk, rfl, rfl, hno⟩ := hrel
    by_cases hlt : k < c.cells.length
    · obtain ⟨ad, rfl, _, hc, _⟩ := RA.at_ k hlt
      obtain ⟨i1, i2⟩ := Hi.out _ (List.getElem_mem hlt)
      obtain ⟨bd, rfl, _, hd, hv⟩ := RP.num (by omega)
      have hd1 := hd c.cells[k].toNat (by omega)
      clear hd hv
      have hbd := left_bd pos cells set c.lo c.cells k
      have hin := left_in (pos := pos) (cells := cells) (set := set) (lo := c.lo) hlt
      have hout := left_out (pos := pos) (cells := cells) (set := set) (lo := c.lo) hlt
      have Hin := hid hin; have Hout := hid hout; clear hin hout
      cases e5 : memB cells c.cells[k]
      · cases e6 : (andI (num pos c.cells[k].toNat) set == num pos c.cells[k].toNat)
        · have e6' : (bits .and .i64 (num pos c.cells[k].toNat) set != num pos c.cells[k].toNat) = true := by rw [bne]; show (!(andI _ _ == _)) = true; rw [e6]; rfl
          have e6'' : (bits .and .i64 (num pos c.cells[k].toNat) set == num pos c.cells[k].toNat) = false := e6
          have Hq := hid (Hout.out (by unfold quotaIn; rw [e5, e6]; rfl))
          cases e7 : (andI (num pos c.cells[k].toNat) set == 0)
          · have e7' : (bits .and .i64 (num pos c.cells[k].toNat) set != 0) = true := by rw [bne]; show (!(andI _ _ == _)) = true; rw [e7]; rfl
            have E6 := hid e6; have E7 := hid e7; clear e6 e7
            go_wp2_with (go_at_call 62; refine (in13_m _ C cn _ RC _).mono ?_; rintro e w1 ⟨rfl, rfl⟩)
            go_ret
            exact ⟨ret_bool (by rw [He.out, all_of_at k hlt (p := quotaAt pos cells set) (by unfold quotaAt; rw [e5, E6.out, E7.out]; rfl)]; rfl), x0⟩
          · have e7' : (bits .and .i64 (num pos c.cells[k].toNat) set != 0) = false := by rw [bne]; show (!(andI _ _ == _)) = false; rw [e7]; rfl
            have E6 := hid e6; have E7 := hid e7; clear e6 e7
            go_wp2_with (go_at_call 62; refine (in13_m _ C cn _ RC _).mono ?_; rintro e w1 ⟨rfl, rfl⟩)
            go_round
            case rel => exact ⟨k + 1, by omega, by go_num, by rw [Hq.out], all_on hlt hno (by unfold quotaAt; rw [e5, E6.out, E7.out]; rfl)⟩
            case measure => simp [intOf]; omega
        · have e6' : (bits .and .i64 (num pos c.cells[k].toNat) set != num pos c.cells[k].toNat) = false := by rw [bne]; show (!(andI _ _ == _)) = false; rw [e6]; rfl
          have e6'' : (bits .and .i64 (num pos c.cells[k].toNat) set == num pos c.cells[k].toNat) = true := e6
          have Hq := hid (Hin.out (by unfold quotaIn; rw [e5, e6]; rfl))
          have hat : quotaAt pos cells set c.cells[k] = true := by unfold quotaAt; rw [e5, e6]; simp
          have Hat := hid hat; clear hat
          have E6 := hid e6; clear e6
          cases e7 : (bits .and .i64 (num pos c.cells[k].toNat) set != 0)
          all_goals
            go_wp2_with (go_at_call 62; refine (in13_m _ C cn _ RC _).mono ?_; rintro e w1 ⟨rfl, rfl⟩)
            go_round
            case rel => exact ⟨k + 1, by omega, by go_num, by rw [Hq.out], all_on hlt hno Hat.out⟩
            case measure => simp [intOf]; omega
      · have Hq := hid (Hout.out (by unfold quotaIn; rw [e5]; rfl))
        go_wp2_with (go_at_call 62; refine (in13_m _ C cn _ RC _).mono ?_; rintro e w1 ⟨rfl, rfl⟩)
        go_round
        case rel => exact ⟨k + 1, by omega, by go_num, by rw [Hq.out], all_on hlt hno (by unfold quotaAt; rw [e5]; rfl)⟩
        case measure => simp [intOf]; omega
    · have hall : c.cells.take k = c.cells := List.take_of_length_le (by omega)
      have hh := hno.out
      rw [hall] at hh ⊢
      have Hh := hid hh; clear hh hno
      go_wp2_with fail
      go_ret
      exact ⟨ret_bool (by rw [He.out, Hh.out]; rfl), x0⟩
end Go.Proofs.Ytimkijmjbnmcbaa
