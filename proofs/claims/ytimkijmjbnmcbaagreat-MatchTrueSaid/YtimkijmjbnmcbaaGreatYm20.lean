/- The elements of a set of symbols, an iterator. Contracts: how many symbols a set has. Contracts: the finished grid of a position. -/
import Derived.Shelf.Abstract
import Derived.Shelf.RegionOpen
import Derived.WalkKit
import Derived.OwnWalkIn
import Derived.TacticsInMore
import Derived.LoopNIn
import Derived.LoopIn
import Derived.Test.YtimkijmjbnmcbaaGreatRows
import Derived.Test.YtimkijmjbnmcbaaGreatYm2
import Derived.Test.YtimkijmjbnmcbaaGreatYm1
import Derived.Test.YtimkijmjbnmcbaaGreatYm3
namespace Go.Proofs.YtimkijmjbnmcbaaGreat
open Go.RowKit Go.Shelf
attribute [local go_sem] Oper.semAt_some

/-- The iterator's blocks lie at B or behind. -/
def TB (B : Nat) (T : TSet) (W : World) : Prop := B ≤ W.heap.size ∧ ∀ k, T k → B ≤ k ∧ k < W.heap.size
theorem stays_below {β : Type} (B : Nat) (p : β → World → Prop) (hp : ∀ s W W', p s W → Below B W W' → p s W') : Stays (fun s T W => TB B T W ∧ p s W) := by
  intro s T T' W W' ⟨⟨h1, h2⟩, h3⟩ k1 k2 k3
  refine ⟨⟨Nat.le_trans h1 k1.size, fun k hk => ?_⟩, hp s W W' h3 (k1.below h1 (fun k hk ht => by have := h2 k ht; omega))⟩
  have := k1.size
  rcases k3 k hk with h | h
  · have := h2 k h; omega
  · omega

def elemsTo (x : Int) (k : Nat) : List Nat := (List.range k).filter (hasS x)
theorem elemsTo_succ (x : Int) (k : Nat) : elemsTo x (k + 1) = elemsTo x k ++ if hasS x k then [k] else [] := by
  unfold elemsTo; rw [List.range_succ, List.filter_append]
  cases h : hasS x k <;> simp [h]
theorem elemsTo_yes {x : Int} {k : Nat} (h : hasS x k = true) : elemsTo x (k + 1) = elemsTo x k ++ [k] := by rw [elemsTo_succ, h]; rfl
theorem elemsTo_no {x : Int} {k : Nat} (h : hasS x k = false) : elemsTo x (k + 1) = elemsTo x k := by rw [elemsTo_succ, h]; simp
def elems (x : Int) : List Nat := elemsTo x 64
theorem elemsTo_prefix (x : Int) {k : Nat} (h : k ≤ 64) : elemsTo x k <+: elems x := by
  obtain ⟨j, hj⟩ := Nat.exists_eq_add_of_le h
  unfold elems
  rw [hj]
  clear hj h
  induction j with
  | zero => exact List.prefix_rfl
  | succ j ih => rw [← Nat.add_assoc, elemsTo_succ]; exact ih.trans (List.prefix_append _ _)
theorem elemsTo_rest {x : Int} {k : Nat} (h : k ≤ 64) (hn : ∀ j, k ≤ j → j < 64 → hasS x j = false) : elemsTo x k = elems x := by
  obtain ⟨j, hj⟩ := Nat.exists_eq_add_of_le h
  unfold elems
  rw [hj]
  replace hn : ∀ i, i < j → hasS x (k + i) = false := fun i hi => hn _ (by omega) (by omega)
  clear hj h
  induction j with
  | zero => rfl
  | succ j ih => rw [← Nat.add_assoc, elemsTo_no (hn j (by omega))]; exact ih fun i hi => hn i (by omega)
theorem hasS_none {s : Int} {k : Nat} (h : s / 2 ^ k = 0) (j : Nat) (hj : k ≤ j) (hj2 : j < 64) : hasS s j = false := by
  obtain ⟨i, rfl⟩ := Nat.exists_eq_add_of_le hj
  rw [hasS_shift _ _ hj2, Int.pow_add, ← Int.ediv_ediv_of_nonneg (Int.le_of_lt (Int.pow_pos (by decide))), h]
  simp
theorem ubit_one {s : Int} {k : Nat} (hk : k < 64) : bits .and .u64 (s / 2 ^ k) 1 = if hasS s k then 1 else 0 := by
  rw [ubits_and, hasS_shift s k hk, ← bv_mod2]
  have : bv 1 = BitVec.twoPow 64 0 := by decide
  rw [this, BitVec.and_twoPow]
  cases h : (bv (s / 2 ^ k)).getLsbD 0
  · simp
  · simp
theorem KB.cell {K : Nat → Prop} {a b : World} (h : KB K a b) {p : Addr} {v : Value} (hp : K p.block) (hc : a.cell? p = some v) : b.cell? p = some v := by
  have hl : p.block < a.heap.size := by
    by_cases hl : p.block < a.heap.size
    · exact hl
    · have : a.heap[p.block]? = none := Array.getElem?_eq_none (by omega)
      simp [World.cell?, this] at hc
  rw [← hc]
  simp only [World.cell?, h.block _ hl hp]

end Go.Proofs.YtimkijmjbnmcbaaGreat
namespace Go.Proofs.YtimkijmjbnmcbaaGreat
open Go.RowKit Go.Shelf
attribute [local go_sem] Oper.semAt_some

/-- The marks of loops over functions among a function's deferred calls. -/
def marks (Ds : List Nat) : List Deferred := Ds.map fun D => { target := .collected D, args := #[] }
def Marked (Ds : List Nat) (W : World) : Prop := Ds.Nodup ∧ ∀ D ∈ Ds, W.heap[D]? = some (.deferred (some []))
theorem leaves_marks {P : Program} {n : Nat} {fn : Func} {tmps : Array Value} {R : Ending → World → Prop} :
    ∀ (Ds : List Nat) (W : World), Marked Ds W → (∀ W', KB (fun k => k ∉ Ds) W W' → ∃ v, (results fn tmps).run P W' = .ok v W' ∧ R (.returned v) W') → LeavesInM Fence.wide n P fn tmps R (marks Ds) .returning W
  | [], W, _, h => h W (KB.refl _ _)
  | D :: Ds, W, hm, h => by
    have hD := hm.2 D (by simp)
    refine ⟨by simp, .inl ⟨D, _, rfl, run_takeDeferred hD, leaves_marks Ds _ ⟨(List.nodup_cons.1 hm.1).2, fun E hE => ?_⟩ fun W' hk => h W' ?_⟩⟩
    · exact (World.putObj_heap_other (fun e => (List.nodup_cons.1 hm.1).1 (by rw [← e]; exact hE))).trans (hm.2 E (List.mem_cons_of_mem _ hE))
    · exact (KB.put D _ (by simp)).tr (hk.mono fun k _ hk h => hk (List.mem_cons_of_mem _ h))

/-- How many elements a set has. -/
def card (x : Int) : Int := (elems x).length
theorem elemsTo_len (x : Int) (k : Nat) : (elemsTo x k).length ≤ k := by
  unfold elemsTo; exact Nat.le_trans (List.length_filter_le _ _) (by simp)
theorem hasS_uwrap (x : Int) (k : Nat) : hasS (IntKind.u64.wrap x) k = hasS x k := by unfold hasS; rw [bv_uwrap]
theorem elems_uwrap (x : Int) : elems (IntKind.u64.wrap x) = elems x := by unfold elems elemsTo; congr 1; funext k; exact hasS_uwrap x k
theorem u64_bd (x : Int) : 0 ≤ IntKind.u64.wrap x ∧ IntKind.u64.wrap x < 18446744073709551616 := by rw [IntKind.wrap_u64]; omega

end Go.Proofs.YtimkijmjbnmcbaaGreat
namespace Go.Proofs.YtimkijmjbnmcbaaGreat
open Go.RowKit Go.Shelf
attribute [local go_sem] Oper.semAt_some

/-- A set of one symbol. -/
def sole (x : Int) : Nat := (elems x).headD 0
def soleB (x : Int) : Bool := decide ((elems x).length = 1) && decide (sole x < 16)
def solvedB (l : List Int) : Bool := l.all soleB
def gridTo (l : List Int) (k : Nat) : List Int := (l.take k).map fun x => (sole x : Int)
def solvedL (l : List Int) : List Int := if solvedB l then gridTo l l.length else []
/-- Two results: a list of integers, and whether. -/
def RetIB (w : World) (l : List Int) (b : Bool) (e : Ending) (w' : World) : Prop := ∃ A c, e = .returned (.tuple #[.slice A l.length c, .bool b]) ∧ RInts w' A l ∧ Ext w w'
theorem sole_of {x : Int} {i : Nat} (h : elems x = [i]) : sole x = i := by simp [sole, h]
theorem soleB_of {x : Int} {pre : List Nat} (h : elems x = pre) (h1 : pre.length = 1) (h2 : ∀ i ∈ pre, i < 16) : soleB x = true ∧ pre = [sole x] := by
  obtain ⟨i, rfl⟩ : ∃ i, pre = [i] := List.length_eq_one_iff.1 h1
  rw [sole_of h]
  exact ⟨by simp [soleB, h, sole_of h, h2 i (by simp)], rfl⟩
theorem soleB_many {x : Int} {pre : List Nat} {i : Nat} (h : pre ++ [i] <+: elems x) (hb : 1 < (pre ++ [i]).length ∨ 16 ≤ i) (h1 : (pre ++ [i]).length = 1 ∨ 1 < (pre ++ [i]).length) : soleB x = false := by
  obtain ⟨t, ht⟩ := h
  have hl : (elems x).length = (pre ++ [i]).length + t.length := by rw [← ht]; simp; omega
  by_cases hn : (elems x).length = 1
  · have hp : pre = [] := by
      rw [hn, List.length_append] at hl
      exact List.length_eq_zero_iff.1 (by simp at hl; omega)
    subst hp
    have ht0 : t = [] := List.length_eq_zero_iff.1 (by simp at hl; omega)
    subst ht0
    have : sole x = i := sole_of (by rw [← ht]; rfl)
    have hi : 16 ≤ i := by simpa using hb
    simp only [soleB, hn, this, Bool.and_eq_false_iff, decide_eq_false_iff_not]
    right; omega
  · simp [soleB, hn]
theorem soleB_none {x : Int} (h : elems x = []) : soleB x = false := by simp [soleB, h]
theorem gridTo_succ {l : List Int} {k : Nat} (h : k < l.length) : gridTo l (k + 1) = gridTo l k ++ [(sole l[k] : Int)] := by
  unfold gridTo; rw [List.take_succ_eq_append_getElem h, List.map_append]; rfl
theorem gridTo_len {l : List Int} {k : Nat} (h : k ≤ l.length) : (gridTo l k).length = k := by simp [gridTo, h]

/-- An own list lies where no such thing lies. -/
theorem OwnG.not_at {α : Type} {E : ETy α} {w : World} {base : Nat} {T : TSet} {A : Option Addr} {n c : Nat} {l : List α} (h : OwnG E w base T A n c l) {D : Nat} {o : Obj} (hD : w.heap[D]? = some o) (ho : o.isCells = false) : blockOf A ≠ some D := by
  obtain ⟨hn, vss, h1, h2⟩ := h
  intro hA
  rcases h2.2 with ⟨e, h0⟩ | ⟨g, cap, cur, e, hb, hg, -, -, -, -⟩
  · injection e with e1 e2 e3; subst e1; cases hA
  · injection e with e1 e2 e3; subst e1
    injection hA with hA
    dsimp only at hA
    subst hA
    rw [hD] at hg
    injection hg with hg
    subst hg
    cases ho
theorem Marked.kb {K : Nat → Prop} {Ds : List Nat} {W W' : World} (h : Marked Ds W) (hk : KB K W W') (hD : ∀ D ∈ Ds, K D) : Marked Ds W' :=
  ⟨h.1, fun D hm => (hk.block D (Array.getElem?_eq_some_iff.1 (h.2 D hm)).1 (hD D hm)).trans (h.2 D hm)⟩
theorem Blk.kb {K : Nat → Prop} {W W' : World} {g : Nat} {t : TypeId} {cs : Array Value} (h : Blk W g t cs) (hk : KB K W W') (hg : K g) : Blk W' g t cs := (hk.block g h.lt hg).trans h

/-- Between two rounds. -/
def SolI (l : List Int) (w : World) (k gm : Nat) (Ds : List Nat) (B : Nat) (pre : List Nat) (T : TSet) (W : World) : Prop :=
  TB B T W ∧ ∃ A c, Blk W gm 3 #[.int .i64 (pre.length : Int)] ∧ Blk W w.heap.size 22 #[.slice A (k + pre.length) c] ∧ Blk W (w.heap.size + 1) 4 #[.bool false] ∧
    OwnG EInt W (w.heap.size + 2) T A (k + pre.length) c (gridTo l k ++ pre.map Int.ofNat) ∧ (∀ g, blockOf A = some g → ¬ T g ∧ g ≠ gm ∧ g ≠ gm + 1) ∧ Marked Ds W ∧ Below w.heap.size w W ∧ pre.length ≤ 1 ∧ ∀ x ∈ pre, x < 16
theorem SolI.stays {l : List Int} {w : World} {k gm : Nat} {Ds : List Nat} {B : Nat} (h1 : gm < B) (h2 : w.heap.size + 1 < B) (h3 : ∀ D ∈ Ds, D < B) : Stays (SolI l w k gm Ds B) := by
  intro pre T T' W W' ⟨⟨t1, t2⟩, A, c, b1, b2, b3, ho, hA, hm, hb, hle, hx⟩ k1 k2 k3
  have off : ∀ k, k < B → ¬ T k := fun k hk ht => by have := t2 k ht; omega
  refine ⟨⟨Nat.le_trans t1 k1.size, fun k hk => ?_⟩, A, c, b1.kb k1 (off _ h1), b2.kb k1 (off _ (by omega)), b3.kb k1 (off _ h2), ho.stay k1 (fun k hl ht => (k3 k ht).elim id (fun h => by omega)) (fun k hk => (hA k hk).1), fun g hg => ⟨fun ht => ?_, (hA g hg).2⟩, hm.kb k1 (fun D hD => off D (h3 D hD)), hb.trans (k1.below (by omega) fun k hk => off k (by omega)), hle, hx⟩
  · have := k1.size
    rcases k3 k hk with h | h
    · have := t2 k h; omega
    · omega
  · rcases k3 g ht with h | h
    · exact (hA g hg).1 h
    · have := (ho.lt g hg).2; omega
/-- A round has ended the function. -/
def SolX (x : Int) (w : World) (Ds : List Nat) (B : Nat) (c : Code) (_ : List Nat) (T : TSet) (W : World) : Prop :=
  TB B T W ∧ c = .ret ∧ soleB x = false ∧ Blk W w.heap.size 22 #[.slice none 0 0] ∧ Blk W (w.heap.size + 1) 4 #[.bool false] ∧ Marked Ds W ∧ Below w.heap.size w W
theorem SolX.stays {x : Int} {w : World} {Ds : List Nat} {B : Nat} (h2 : w.heap.size + 1 < B) (h3 : ∀ D ∈ Ds, D < B) (c : Code) : Stays (SolX x w Ds B c) := by
  intro pre T T' W W' ⟨⟨t1, t2⟩, hc, hs, b2, b3, hm, hb⟩ k1 k2 k3
  have off : ∀ k, k < B → ¬ T k := fun k hk ht => by have := t2 k ht; omega
  refine ⟨⟨Nat.le_trans t1 k1.size, fun k hk => ?_⟩, hc, hs, b2.kb k1 (off _ (by omega)), b3.kb k1 (off _ h2), hm.kb k1 (fun D hD => off D (h3 D hD)), hb.trans (k1.below (by omega) fun k hk => off k (by omega))⟩
  have := k1.size
  rcases k3 k hk with h | h
  · have := t2 k h; omega
  · omega
theorem sol_off {Ds : List Nat} {D b5 b4 b : Nat} (_ : ∀ D ∈ Ds, D < b5) (h2 : ∀ D ∈ Ds, b + 2 ≤ D) (h3 : b5 ≤ D) (h4 : b + 2 ≤ b4) (h5 : b5 = b4 + 2) (j : Nat) (hj : j < b + 2) : j ∉ D :: Ds := by
  intro h
  rcases List.mem_cons.1 h with rfl | h
  · omega
  · have := h2 j h; omega

end Go.Proofs.YtimkijmjbnmcbaaGreat
