/- More on owned lists: made whole, read as slices; lists of lists; literals. -/
import Derived.Test.YtjinbjkbchnhpaaOwg
namespace Go.Proofs.Ytjinbjkbchnhpaa
open Go.RowKit

theorem OwnG.rsl {α : Type} {E : ETy α} {w : World} {base : Nat} {T : TSet} {A : Option Addr} {n c : Nat} {l : List α} (h : OwnG E w base T A n c l) (hl : n * (8 * E.size) ≤ 140737488355328) : RSl E.size E.R w A l := by
  obtain ⟨hn, vss, h1, h2⟩ := h
  refine ⟨by rw [← hn]; exact hl, fun hp => ?_⟩
  rcases h2.2 with ⟨e, h0⟩ | ⟨g, cap, cur, e, hb, hg, -, -, -, -⟩
  · omega
  · injection e with e1 e2 e3
    subst e1
    refine ⟨_, rfl, (Array.getElem?_eq_some_iff.1 hg).1, fun i hi => ?_⟩
    obtain ⟨vs, hr, hv⟩ := h1.lie.at_ i hi
    exact ⟨vs, (E.len _ _ _ hr).1, hr, fun j hj => h2.cells (g := g) rfl (i * E.size + j) vs[j] (hv j hj)⟩

/-- Lists of integers as elements. -/
def ERow : ETy (List Int) where
  et := 22
  st := 23
  size := 1
  bytes := 24
  z := .slice none 0 0
  R := RRow
  under := by kernel_rfl
  info := by
    obtain ⟨i, h1, h2, h3, h4⟩ := info_parts (P := Try.prog) (e := 22) (z := .slice none 0 0) (size := 1) (bytes := 24) (by kernel_rfl)
    exact ⟨i, h1, h2, h3, h4⟩
  zsize := rfl
  pos := by decide
  len := by rintro w vs x ⟨A, c, rfl, -⟩; exact ⟨rfl, by simp [Value.oneCell']⟩
  keep := fun _ _ _ _ hb h => RRow.keeps _ _ _ _ hb h

theorem lie_rep {α : Type} {E : ETy α} {w : World} {vs : List Value} {x : α} (h : E.R w vs x) : ∀ n, Lie E w (List.replicate n vs) (List.replicate n x)
  | 0 => trivial
  | n + 1 => ⟨h, lie_rep h n⟩
/-- 'make([]T, n)': n times the zero value, which reads as x0 whatever the world. -/
theorem make_g {α : Type} (E : ETy α) {ops : Array Oper} {rest : List Oper} {o : Oper} {a : Act} {Q : Exit → Act → World → Prop} {w : World} (hgd : o.guard = none) (l c : Operand) (ho : o.op = Op.makeSlice E.st l c)
    (n : Nat) (L C : Int) (hl : a.eval l = .int .i64 L) (hc : a.eval c = .int .i64 C) (hL : L = n) (hC : C = n) (hn : n ≤ maxLen) (hb : E.bytes * n ≤ 281474976710656) (x0 : α) (hx0 : ∀ w, E.R w E.z.cells.toList x0) (h1 : E.size = 1)
    (h : ∀ w' : World, OwnG E w' w.heap.size noT (some ⟨w.heap.size, 0, none⟩) n n (List.replicate n x0) → Ext w w' → w.grownBy w' none → wpList Try.prog ops Q rest (a.put o.dst (.slice (some ⟨w.heap.size, 0, none⟩) n n)) w') :
    wpList Try.prog ops Q (o :: rest) a w := by
  obtain ⟨i, hi1, hz, hsz, hby⟩ := E.info
  refine wpList_make_full w hgd l c E.st ho w.heap.size E.et i E.z E.size E.under hi1 hz hsz .i64 .i64 L C n hl hc hL hC (by rw [hby]; exact hb) hn (Nat.le_refl _) ?_
  intro w' hr hg
  refine h w' ⟨by simp, List.replicate n E.z.cells.toList, fun w'' _ => lie_rep (hx0 w'') n, ?_⟩ ⟨hg.os, hg.tape, hg.output, hg.size, fun b hb => hg.block b hb (by simp)⟩ hg
  have hz1 := E.zsize
  rw [h1] at hz1
  obtain ⟨zv, hzv⟩ : ∃ zv, E.z.cells = #[zv] := by
    obtain ⟨v, hv⟩ := List.length_eq_one_iff.1 (show E.z.cells.toList.length = 1 by simpa using hz1)
    exact ⟨v, by rw [← Array.toArray_toList (xs := E.z.cells), hv]⟩
  have e1 : (madeCells E.z.cells (n * E.size)).toList = (List.replicate n E.z.cells.toList).flatten := by
    rw [h1, Nat.mul_one, hzv, toList_madeCells_one]; simp
  rw [← e1]
  exact hr

theorem Blk.to {w w' : World} {g : Nat} {t : TypeId} {cs : Array Value} (h : Blk w g t cs) (hb : Ext w w') : Blk w' g t cs := h.ext hb
/-- A literal list. -/
theorem RInts.lit (W : World) (g : Nat) (hg : W.heap.size = g) (t : TypeId) (l : List Int) (cs : Array Value) (hcs : cs = (l.map (Value.int .i64)).toArray) (hi : ∀ x ∈ l, I64 x) (hl : l.length ≤ 1000) : RInts (W.alloc (.cells cs t)) (some ⟨g, 0, none⟩) l := by
  subst hg hcs
  refine ⟨by omega, fun _ => ⟨_, rfl, by simp, fun i hi2 => ⟨[.int .i64 l[i]], rfl, ⟨rfl, hi _ (List.getElem_mem hi2)⟩, fun j hj => ?_⟩⟩⟩
  obtain rfl : j = 0 := by simpa using hj
  have e2 : (⟨W.heap.size, 0, none⟩ : Addr).add (i * 1 + 0) = ⟨W.heap.size, i, none⟩ := by unfold Addr.add; simp; intro h; exact h.symm
  rw [e2, (Blk.new W t _).cell]
  simp [hi2]
end Go.Proofs.Ytjinbjkbchnhpaa
