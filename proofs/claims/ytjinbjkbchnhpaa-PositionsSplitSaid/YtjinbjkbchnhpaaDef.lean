/- Problems and constraints as data, and what it means that they are valid. -/
import Derived.Test.YtjinbjkbchnhpaaCd
namespace Go.Proofs.Ytjinbjkbchnhpaa
open Go.RowKit
structure Cons where
  kind : Int
  cells : List Int
  set : Int
  other : Int
  lo : Int
  hi : Int
  runs : List Int
  rule : Int
  at_ : Int
abbrev consCells (c : Cons) (A : Option Addr) (a : Nat) (B : Option Addr) (b : Nat) : List Value :=
  [.int .i64 c.kind, .slice A c.cells.length a, .int .i64 c.set, .int .i64 c.other, .int .i64 c.lo, .int .i64 c.hi, .slice B c.runs.length b, .int .i64 c.rule, .int .i64 c.at_]
def Cons.ok (c : Cons) : Prop := I64 c.kind ∧ I64 c.set ∧ I64 c.other ∧ I64 c.lo ∧ I64 c.hi ∧ I64 c.rule ∧ I64 c.at_
def RCons (w : World) (vs : List Value) (c : Cons) : Prop := ∃ A a B b, vs = consCells c A a B b ∧ RInts w A c.cells ∧ RInts w B c.runs ∧ c.ok
theorem RCons.keeps : Keeps RCons := fun _ _ _ _ hb ⟨A, a, B, b, e, h1, h2, h3⟩ => ⟨A, a, B, b, e, h1.to hb, h2.to hb, h3⟩
abbrev RConss := RSl 9 RCons
theorem RConss.to {w w' : World} {A : Option Addr} {l : List Cons} (h : RConss w A l) (hb : Ext w w') : RConss w' A l := RSl.to RCons.keeps h hb
structure Problem where
  cells : Int
  symbols : Int
  values : List Int
  neighbors : List (List Int)
  cons : List Cons
structure PPtr where
  a : Option Addr
  ac : Nat
  b : Option Addr
  bc : Nat
  c : Option Addr
  cc : Nat
abbrev probV (q : Problem) (p : PPtr) : Value :=
  .agg #[.int .i64 q.cells, .int .i64 q.symbols, .slice p.a q.values.length p.ac, .slice p.b q.neighbors.length p.bc, .slice p.c q.cons.length p.cc]
structure RProb (w : World) (q : Problem) (p : PPtr) : Prop where
  values : RInts w p.a q.values
  neighbors : RRows w p.b q.neighbors
  cons : RConss w p.c q.cons
  cells : I64 q.cells
  symbols : I64 q.symbols
theorem RProb.to {w w' : World} {q : Problem} {p : PPtr} (h : RProb w q p) (hb : Ext w w') : RProb w' q p := ⟨h.values.to hb, h.neighbors.to hb, h.cons.to hb, h.cells, h.symbols⟩
theorem boxE {W0 W : World} {cs : Array Value} {t : TypeId} {g : Nat} (h : Ext (W0.alloc (.cells cs t)) W) (hg : W0.heap.size = g) (i : Nat) (v : Value) (hv : cs[i]? = some v) : W.cell? ⟨g, i, none⟩ = some v := by
  subst hg
  have hb := (Blk.new W0 t cs).ext h
  rw [hb.cell]; exact hv
/-- The k-th number stands before. -/
def met (l : List Int) (k : Nat) : Bool := (List.range k).any fun i => num l i == num l k
/-- The i-th cell of a constraint is right. -/
def cellOk (cells : Int) (c : Cons) (i : Nat) : Bool :=
  decide (0 ≤ num c.cells i) && decide (num c.cells i < cells) && !(met c.cells i) && (decide (c.kind < 8) || num c.cells i == (i : Int))
/-- Its kind fits its cells. -/
def kindOk (cells : Int) (c : Cons) : Bool :=
  decide (1 ≤ c.kind ∧ c.kind ≤ 9 ∧ (c.kind = 6 ∨ c.kind = 7 → (c.cells.length : Int) = 2) ∧ (8 ≤ c.kind → (c.cells.length : Int) = cells))
/-- Its numbers are in their ranges. -/
def numsOk (symbols : Int) (c : Cons) : Bool :=
  inB 0 (2 ^ symbols.toNat - 1) [c.set, c.other] && inB 0 65536 [c.lo, c.hi] && decide (c.runs.length ≤ 8) && inB 1 256 c.runs
/-- A constraint is valid. -/
def fineB (cells symbols : Int) (c : Cons) : Bool := (List.range c.cells.length).all (cellOk cells c) && kindOk cells c && numsOk symbols c
def zeros256 : Array Value := Array.replicate 256 (.bool false)
theorem zero256 (W : World) : (zeroValue 70).run Try.prog W = .ok (.agg zeros256) W := by unfold zeros256; kernel_rfl
/-- The table of the cells that were met. -/
def SeenTab (Z : Array Value) (l : List Int) (k : Nat) : Prop := ∀ j, j < 256 → Z[j]? = some (.bool ((List.range k).any fun i => num l i == (j : Int)))
theorem seen_zero (l : List Int) : SeenTab zeros256 l 0 := by
  intro j hj
  simp [zeros256, hj]
theorem seen_set {Z : Array Value} {l : List Int} {k : Nat} (h : SeenTab Z l k) (h0 : 0 ≤ num l k) (h1 : num l k < 256) : SeenTab (Z.setIfInBounds (num l k).toNat (.bool true)) l (k + 1) := by
  intro j hj
  have hz := h j hj
  have hs : j < Z.size := by
    by_cases hl : j < Z.size
    · exact hl
    · rw [Array.getElem?_eq_none (by omega)] at hz; cases hz
  rw [Array.getElem?_setIfInBounds, List.range_succ, List.any_append]
  by_cases he : (num l k).toNat = j
  · have : (num l k == (j : Int)) = true := by simp; omega
    simp [he, hs, this]
  · have : (num l k == (j : Int)) = false := by simp; omega
    simp [he, hz, this]
theorem RInts.two {W : World} {a b : Int} {t : TypeId} (ha : I64 a) (hb : I64 b) : RInts (W.alloc (.cells #[.int .i64 a, .int .i64 b] t)) (some ⟨W.heap.size, 0, none⟩) [a, b] := by
  refine ⟨by simp, fun _ => ⟨_, rfl, by simp, fun i hi => ?_⟩⟩
  have hk := Blk.new W t #[.int .i64 a, .int .i64 b]
  have e : (⟨W.heap.size, 0, none⟩ : Addr).add (i * 1 + 0) = ⟨W.heap.size, i, none⟩ := by
    unfold Addr.add; simp; intro h; exact h.symm
  match i, hi with
  | 0, _ => exact ⟨[.int .i64 a], rfl, ⟨rfl, ha⟩, fun j hj => by
      obtain rfl : j = 0 := by simpa using hj
      rw [e, hk.cell]; rfl⟩
  | 1, _ => exact ⟨[.int .i64 b], rfl, ⟨rfl, hb⟩, fun j hj => by
      obtain rfl : j = 0 := by simpa using hj
      rw [e, hk.cell]; rfl⟩
/-- What the last statement of 'fine' reads. -/
def FineHeld (w : World) (q : Problem) (c : Cons) (B : Option Addr) (b : Nat) (W : World) : Prop :=
  W.cell? ⟨w.heap.size, 1, none⟩ = some (.int .i64 q.symbols) ∧ W.cell? ⟨w.heap.size + 1, 2, none⟩ = some (.int .i64 c.set) ∧ W.cell? ⟨w.heap.size + 1, 3, none⟩ = some (.int .i64 c.other) ∧ W.cell? ⟨w.heap.size + 1, 4, none⟩ = some (.int .i64 c.lo) ∧ W.cell? ⟨w.heap.size + 1, 5, none⟩ = some (.int .i64 c.hi) ∧ W.cell? ⟨w.heap.size + 1, 6, none⟩ = some (.slice B c.runs.length b)
abbrev probO (q : Problem) (p : PPtr) : Obj := .cells #[.int .i64 q.cells, .int .i64 q.symbols, .slice p.a q.values.length p.ac, .slice p.b q.neighbors.length p.bc, .slice p.c q.cons.length p.cc] 26
abbrev consO (c : Cons) (A : Option Addr) (a : Nat) (B : Option Addr) (b : Nat) : Obj := .cells (consCells c A a B b).toArray 46
theorem fineHeld {w W : World} {q : Problem} {p : PPtr} {c : Cons} {A : Option Addr} {a : Nat} {B : Option Addr} {b : Nat} (h : Ext ((w.alloc (probO q p)).alloc (consO c A a B b)) W) : FineHeld w q c B b W := by
  have hx1 := ((Ext.rfl' _).al _).tr h
  have e1 := World.size_alloc w (probO q p)
  exact ⟨boxE hx1 rfl 1 _ rfl, boxE h e1 2 _ rfl, boxE h e1 3 _ rfl, boxE h e1 4 _ rfl, boxE h e1 5 _ rfl, boxE h e1 6 _ rfl⟩
theorem pow_bd (n : Int) (h1 : 0 ≤ n) (h2 : n ≤ 16) : 1 ≤ (2 : Int) ^ n.toNat ∧ (2 : Int) ^ n.toNat ≤ 65536 := by
  obtain ⟨k, rfl⟩ := Int.eq_ofNat_of_zero_le h1
  have hk : k ≤ 16 := by omega
  rw [Int.toNat_natCast]
  have h : ∀ k : Nat, k ≤ 16 → 1 ≤ (2 : Int) ^ k ∧ (2 : Int) ^ k ≤ 65536 := by decide
  exact h k hk
theorem mask_eq (n : Int) (h1 : 1 ≤ n) (h2 : n ≤ 16) : IntKind.i64.wrap (IntKind.i64.wrap (2 ^ n.toNat) - 1) = 2 ^ n.toNat - 1 := by
  have := pow_bd n (by omega) h2
  rw [IntWalk.i64_in (2 ^ n.toNat) ⟨by omega, by omega⟩, IntWalk.i64_in _ ⟨by omega, by omega⟩]
theorem RConss.consAt {w : World} {A : Option Addr} {l : List Cons} (h : RConss w A l) (k : Nat) (hk : k < l.length) :
    ∃ ad B b C c, A = some ad ∧ ad.block < w.heap.size ∧ RInts w B l[k].cells ∧ RInts w C l[k].runs ∧ l[k].ok ∧ ∀ j v, (consCells l[k] B b C c)[j]? = some v → w.cell? (ad.add (k * 9 + j)) = some v := by
  obtain ⟨ad, e, hb, hc⟩ := h.2 (by omega)
  obtain ⟨vs, hn, ⟨B, b, C, c, rfl, h1, h2, h3⟩, hv⟩ := hc k hk
  refine ⟨ad, B, b, C, c, e, hb, h1, h2, h3, fun j v hj => ?_⟩
  obtain ⟨hl, e⟩ := List.getElem?_eq_some_iff.1 hj
  rw [← e]
  exact hv j hl
theorem add_pos (e : Addr) (i : Nat) (h : 0 < i) : e.add i = ⟨e.block, e.off + i, none⟩ := by
  unfold Addr.add; rw [if_neg (by omega)]
/-- The k-th constraint, in the spelling of a load of the whole struct. -/
theorem RConss.consLoad {w : World} {A : Option Addr} {l : List Cons} (h : RConss w A l) (k : Nat) (hk : k < l.length) :
    ∃ ad B b C c, A = some ad ∧ ad.block < w.heap.size ∧ RInts w B l[k].cells ∧ RInts w C l[k].runs ∧ l[k].ok ∧
      w.cell? (ad.add (k * 9)) = some (.int .i64 l[k].kind) ∧ w.cell? ⟨(ad.add (k * 9)).block, (ad.add (k * 9)).off + 1, none⟩ = some (.slice B l[k].cells.length b) ∧
      w.cell? ⟨(ad.add (k * 9)).block, (ad.add (k * 9)).off + 2, none⟩ = some (.int .i64 l[k].set) ∧ w.cell? ⟨(ad.add (k * 9)).block, (ad.add (k * 9)).off + 3, none⟩ = some (.int .i64 l[k].other) ∧
      w.cell? ⟨(ad.add (k * 9)).block, (ad.add (k * 9)).off + 4, none⟩ = some (.int .i64 l[k].lo) ∧ w.cell? ⟨(ad.add (k * 9)).block, (ad.add (k * 9)).off + 5, none⟩ = some (.int .i64 l[k].hi) ∧
      w.cell? ⟨(ad.add (k * 9)).block, (ad.add (k * 9)).off + 6, none⟩ = some (.slice C l[k].runs.length c) ∧ w.cell? ⟨(ad.add (k * 9)).block, (ad.add (k * 9)).off + 7, none⟩ = some (.int .i64 l[k].rule) ∧
      w.cell? ⟨(ad.add (k * 9)).block, (ad.add (k * 9)).off + 8, none⟩ = some (.int .i64 l[k].at_) := by
  obtain ⟨ad, B, b, C, c, e, hb, h1, h2, h3, hc⟩ := h.consAt k hk
  have e0 : ∀ i, 0 < i → ad.add (k * 9 + i) = ⟨(ad.add (k * 9)).block, (ad.add (k * 9)).off + i, none⟩ := fun i hi => by rw [← add_of_add, add_pos _ _ hi]
  refine ⟨ad, B, b, C, c, e, hb, h1, h2, h3, by have := hc 0 _ rfl; simpa using this, ?_, ?_, ?_, ?_, ?_, ?_, ?_, ?_⟩
  all_goals (rw [← e0 _ (by omega)]; exact hc _ _ rfl)
def ConsAt (w : World) (e : Addr) (c : Cons) (B : Option Addr) (b : Nat) (C : Option Addr) (cc : Nat) : Prop :=
  w.cell? e = some (.int .i64 c.kind) ∧ w.cell? ⟨e.block, e.off + 1, none⟩ = some (.slice B c.cells.length b) ∧ w.cell? ⟨e.block, e.off + 2, none⟩ = some (.int .i64 c.set) ∧ w.cell? ⟨e.block, e.off + 3, none⟩ = some (.int .i64 c.other) ∧
  w.cell? ⟨e.block, e.off + 4, none⟩ = some (.int .i64 c.lo) ∧ w.cell? ⟨e.block, e.off + 5, none⟩ = some (.int .i64 c.hi) ∧ w.cell? ⟨e.block, e.off + 6, none⟩ = some (.slice C c.runs.length cc) ∧ w.cell? ⟨e.block, e.off + 7, none⟩ = some (.int .i64 c.rule) ∧ w.cell? ⟨e.block, e.off + 8, none⟩ = some (.int .i64 c.at_)
theorem ConsAt.keep {w W : World} {e : Addr} {c : Cons} {B : Option Addr} {b : Nat} {C : Option Addr} {cc : Nat} (hW : Ext w W) (he : e.block < w.heap.size) (h : ConsAt w e c B b C cc) : ConsAt W e c B b C cc := by
  obtain ⟨h0, h1, h2, h3, h4, h5, h6, h7, h8⟩ := h
  exact ⟨cellE hW h0 he, cellE hW h1 he, cellE hW h2 he, cellE hW h3 he, cellE hW h4 he, cellE hW h5 he, cellE hW h6 he, cellE hW h7 he, cellE hW h8 he⟩
theorem RConss.len {w : World} {A : Option Addr} {l : List Cons} (h : RConss w A l) : l.length ≤ 17592186044416 := by have := h.1; omega
end Go.Proofs.Ytjinbjkbchnhpaa
