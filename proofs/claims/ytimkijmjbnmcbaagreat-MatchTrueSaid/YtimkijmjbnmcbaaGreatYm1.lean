/- Words for memory: lists that slices hold, kept while nothing that was there is written. No program is named here. Maps whose keys are integers: what a look-up finds, what a store leaves. No program is named here. Sets of symbols as 64-bit numbers. -/
import Derived.WalkKit
import Derived.WalkSpells
import Derived.Deep.AppendLies
import Derived.Deep.Draws
import Derived.Maps.OwnOps
import Derived.Maps.OwnSet
import Derived.IntWalk
namespace Go.Proofs.YtimkijmjbnmcbaaGreat
open Go.RowKit

theorem hid {p : Prop} (h : p) : Hid p := h
theorem block_of_add (a : Addr) (n : Nat) : (a.add n).block = a.block := by unfold Addr.add; split <;> rfl
theorem add_of_add (a : Addr) (i j : Nat) : (a.add i).add j = a.add (i + j) := by
  unfold Addr.add
  by_cases hi : i = 0 <;> by_cases hj : j = 0 <;> simp [hi, hj, Nat.add_assoc]
theorem bcell {W w1 : World} (hb : Below W.heap.size W w1) : (∀ b o, b < W.heap.size → w1.cell? ⟨b, o, none⟩ = W.cell? ⟨b, o, none⟩) ∧ (∀ b o, b < W.heap.size → w1.frozen? ⟨b, o, none⟩ = W.frozen? ⟨b, o, none⟩) :=
  ⟨fun b o h => hb.cell (p := ⟨b, o, none⟩) h, fun b o h => hb.frozen (p := ⟨b, o, none⟩) h⟩

/-- Nothing that was there has turned. -/
abbrev Ext (w w' : World) : Prop := Below w.heap.size w w'
theorem Ext.rfl' (w : World) : Ext w w := Below.refl _ _
theorem Ext.tr {a b c : World} (h : Ext a b) (k : Ext b c) : Ext a c := Below.trans h (k.mono h.size)
theorem Ext.al {a b : World} (h : Ext a b) (o : Obj) : Ext a (b.alloc o) := Below.alloc h h.size o
theorem Ext.dr {a b : World} (h : Ext a b) : Ext a b.drew := Below.drew h
theorem Ext.drN {a b : World} (h : Ext a b) (n : Nat) : Ext a (b.drewN n) := ⟨h.os, h.tape, h.output, h.size, h.block⟩
theorem Ext.set {a b : World} (h : Ext a b) {p : Addr} (hp : a.heap.size ≤ p.block) (u : Value) : Ext a (b.setCell p u) := Below.setCell h hp u
theorem Ext.lt {a b : World} (h : Ext a b) {n : Nat} (k : n < a.heap.size) : n < b.heap.size := Nat.lt_of_lt_of_le k h.size

theorem cellE {a b : World} (h : Ext a b) {p : Addr} {v : Value} (hv : a.cell? p = some v) (hp : p.block < a.heap.size) : b.cell? p = some v := (Below.cell h hp).trans hv
theorem frozE {a b : World} (h : Ext a b) {p : Addr} (hv : a.frozen? p = false) (hp : p.block < a.heap.size) : b.frozen? p = false := (Below.frozen h hp).trans hv
/-- A block of cells that is known whole. -/
def Blk (w : World) (g : Nat) (t : TypeId) (cs : Array Value) : Prop := w.heap[g]? = some (.cells cs t (0, 0))
theorem Blk.lt {w : World} {g : Nat} {t : TypeId} {cs : Array Value} (h : Blk w g t cs) : g < w.heap.size := by
  unfold Blk at h
  by_cases hl : g < w.heap.size
  · exact hl
  · rw [Array.getElem?_eq_none (by omega)] at h; cases h
theorem Blk.cell {w : World} {g : Nat} {t : TypeId} {cs : Array Value} (h : Blk w g t cs) (i : Nat) : w.cell? ⟨g, i, none⟩ = cs[i]? := by unfold Blk at h; simp [World.cell?, h]
theorem Blk.frozen {w : World} {g : Nat} {t : TypeId} {cs : Array Value} (h : Blk w g t cs) (i : Nat) : w.frozen? ⟨g, i, none⟩ = false := by unfold Blk at h; simp [World.frozen?, h]
theorem Blk.new (w : World) (t : TypeId) (cs : Array Value) : Blk (w.alloc (.cells cs t)) w.heap.size t cs := by
  show (w.heap.push _)[w.heap.size]? = _
  simp
theorem Blk.set {w : World} {g : Nat} {t : TypeId} {cs : Array Value} (h : Blk w g t cs) (i : Nat) (u : Value) : Blk (w.setCell ⟨g, i, none⟩ u) g t (cs.setIfInBounds i u) := by
  unfold Blk at *; simp [World.setCell, Array.getElem?_modify, h]
theorem Blk.ext {w w' : World} {g : Nat} {t : TypeId} {cs : Array Value} (h : Blk w g t cs) (hb : Ext w w') : Blk w' g t cs := (hb.block g h.lt).trans h
theorem Blk.drN {w : World} {g : Nat} {t : TypeId} {cs : Array Value} (h : Blk w g t cs) (n : Nat) : Blk (w.drewN n) g t cs := h
theorem Blk.other {w : World} {g : Nat} {t : TypeId} {cs : Array Value} (h : Blk w g t cs) {p : Addr} (hp : g ≠ p.block) (u : Value) : Blk (w.setCell p u) g t cs := (Below.heap_setCell w p u g hp).trans h

/-- 64-bit numbers. -/
def I64 (n : Int) : Prop := -9223372036854775808 ≤ n ∧ n ≤ 9223372036854775807

/-- The slice at 'A' holds the list 'l': element i is 'sz' cells, which read as it by 'R'. -/
def RSl {α : Type} (sz : Nat) (R : World → List Value → α → Prop) (w : World) (A : Option Addr) (l : List α) : Prop :=
  l.length * (8 * sz) ≤ 140737488355328 ∧ (0 < l.length → ∃ ad, A = some ad ∧ ad.block < w.heap.size ∧
    ∀ (i : Nat) (h : i < l.length), ∃ vs, vs.length = sz ∧ R w vs l[i] ∧ ∀ (j : Nat) (hj : j < vs.length), w.cell? (ad.add (i * sz + j)) = some vs[j])

def Keeps {α : Type} (R : World → List Value → α → Prop) : Prop := ∀ w w' vs x, Ext w w' → R w vs x → R w' vs x

theorem RSl.to {α : Type} {sz : Nat} {R : World → List Value → α → Prop} {w w' : World} {A : Option Addr} {l : List α} (hR : Keeps R) (h : RSl sz R w A l) (hb : Ext w w') : RSl sz R w' A l := by
  refine ⟨h.1, fun hp => ?_⟩
  obtain ⟨ad, hA, hlt, hc⟩ := h.2 hp
  refine ⟨ad, hA, hb.lt hlt, fun i hi => ?_⟩
  obtain ⟨vs, hn, hr, hv⟩ := hc i hi
  exact ⟨vs, hn, hR _ _ _ _ hb hr, fun j hj => (Below.cell hb (by rw [block_of_add]; exact hlt)).trans (hv j hj)⟩

/-- Integers. -/
def RInt (_ : World) (vs : List Value) (x : Int) : Prop := vs = [.int .i64 x] ∧ I64 x
theorem RInt.keeps : Keeps RInt := fun _ _ _ _ _ h => h
abbrev RInts := RSl 1 RInt
theorem RInts.to {w w' : World} {A : Option Addr} {l : List Int} (h : RInts w A l) (hb : Ext w w') : RInts w' A l := RSl.to RInt.keeps h hb
theorem RInts.at_ {w : World} {A : Option Addr} {l : List Int} (h : RInts w A l) (k : Nat) (hk : k < l.length) :
    ∃ ad, A = some ad ∧ ad.block < w.heap.size ∧ w.cell? (ad.add k) = some (.int .i64 l[k]) ∧ I64 l[k] := by
  obtain ⟨ad, e, hb, hc⟩ := h.2 (by omega)
  obtain ⟨vs, _, ⟨rfl, hi⟩, hv⟩ := hc k hk
  have := hv 0 (by simp)
  exact ⟨ad, e, hb, by simpa using this, hi⟩
theorem RInts.cells {w : World} {ad : Addr} {l : List Int} (h : RInts w (some ad) l) : ∀ (j : Nat) (hj : j < l.length), w.cell? (ad.add j) = some (.int .i64 l[j]) := by
  intro j hj
  obtain ⟨ad', e, _, hc, _⟩ := h.at_ j hj
  injection e with e; subst e; exact hc
theorem RInts.len {w : World} {A : Option Addr} {l : List Int} (h : RInts w A l) : l.length ≤ 17592186044416 := by have := h.1; omega
theorem RInts.i64 {w : World} {A : Option Addr} {l : List Int} (h : RInts w A l) : ∀ x ∈ l, I64 x := by
  intro x hx
  obtain ⟨k, hk, rfl⟩ := List.getElem_of_mem hx
  obtain ⟨_, _, _, _, hi⟩ := h.at_ k hk
  exact hi
theorem RInts.nil (w : World) (A : Option Addr) : RInts w A [] := ⟨by simp, fun h => absurd h (by simp)⟩

/-- Lists of integers. -/
def RRow (w : World) (vs : List Value) (l : List Int) : Prop := ∃ A c, vs = [.slice A l.length c] ∧ RInts w A l
theorem RRow.keeps : Keeps RRow := fun _ _ _ _ hb ⟨A, c, e, h⟩ => ⟨A, c, e, h.to hb⟩
abbrev RRows := RSl 1 RRow
theorem RRows.to {w w' : World} {A : Option Addr} {l : List (List Int)} (h : RRows w A l) (hb : Ext w w') : RRows w' A l := RSl.to RRow.keeps h hb
theorem RRows.at_ {w : World} {A : Option Addr} {l : List (List Int)} (h : RRows w A l) (k : Nat) (hk : k < l.length) :
    ∃ ad B c, A = some ad ∧ ad.block < w.heap.size ∧ w.cell? (ad.add k) = some (.slice B l[k].length c) ∧ RInts w B l[k] := by
  obtain ⟨ad, e, hb, hc⟩ := h.2 (by omega)
  obtain ⟨vs, _, ⟨B, c, rfl, hi⟩, hv⟩ := hc k hk
  have := hv 0 (by simp)
  exact ⟨ad, B, c, e, hb, by simpa using this, hi⟩
theorem RRows.len {w : World} {A : Option Addr} {l : List (List Int)} (h : RRows w A l) : l.length ≤ 17592186044416 := by have := h.1; omega

/-- Elements by a name of their own: the walk leaves these terms alone. -/
def num (l : List Int) (k : Nat) : Int := l.getD k 0
def row (g : List (List Int)) (k : Nat) : List Int := g.getD k []
theorem num_eq {l : List Int} {k : Nat} (h : k < l.length) : num l k = l[k] := by simp [num, h]
theorem row_eq {g : List (List Int)} {k : Nat} (h : k < g.length) : row g k = g[k] := by simp [row, h]
theorem RInts.num {w : World} {A : Option Addr} {l : List Int} (h : RInts w A l) (hp : 0 < l.length) :
    ∃ ad, A = some ad ∧ ad.block < w.heap.size ∧ (∀ k, k < l.length → w.cell? (ad.add k) = some (.int .i64 (num l k))) ∧ ∀ k, k < l.length → I64 (num l k) := by
  obtain ⟨ad, e, hb, _⟩ := h.2 hp
  refine ⟨ad, e, hb, fun k hk => ?_, fun k hk => ?_⟩
  · obtain ⟨ad', e', _, hc, _⟩ := h.at_ k hk
    rw [e] at e'; injection e' with e'; subst e'
    rw [num_eq hk]; exact hc
  · obtain ⟨_, _, _, _, hi⟩ := h.at_ k hk
    rw [num_eq hk]; exact hi
theorem RRows.row {w : World} {A : Option Addr} {g : List (List Int)} (h : RRows w A g) (hp : 0 < g.length) :
    ∃ (ad : Addr) (B : Nat → Option Addr) (c : Nat → Nat), A = some ad ∧ ad.block < w.heap.size ∧ (∀ k, k < g.length → w.cell? (ad.add k) = some (.slice (B k) (row g k).length (c k))) ∧ ∀ k, k < g.length → RInts w (B k) (row g k) := by
  obtain ⟨ad, e, hb, _⟩ := h.2 hp
  have hx : ∀ k, ∃ B c, k < g.length → (w.cell? (ad.add k) = some (.slice B (Go.Proofs.YtimkijmjbnmcbaaGreat.row g k).length c) ∧ RInts w B (Go.Proofs.YtimkijmjbnmcbaaGreat.row g k)) := by
    intro k
    by_cases hk : k < g.length
    · obtain ⟨ad', B, c, e', _, hc, hr⟩ := h.at_ k hk
      rw [e] at e'; injection e' with e'; subst e'
      exact ⟨B, c, fun _ => by rw [row_eq hk]; exact ⟨hc, hr⟩⟩
    · exact ⟨none, 0, fun h => absurd h hk⟩
  refine ⟨ad, fun k => (hx k).choose, fun k => (hx k).choose_spec.choose, e, hb, fun k hk => ((hx k).choose_spec.choose_spec hk).1, fun k hk => ((hx k).choose_spec.choose_spec hk).2⟩

theorem RRows.rowAt {w : World} {A : Option Addr} {l : List (List Int)} (h : RRows w A l) (k : Nat) (hk : k < l.length) :
    ∃ ad B c, A = some ad ∧ ad.block < w.heap.size ∧ w.cell? (ad.add k) = some (.slice B (Go.Proofs.YtimkijmjbnmcbaaGreat.row l k).length c) ∧ RInts w B (Go.Proofs.YtimkijmjbnmcbaaGreat.row l k) := by
  rw [row_eq hk]; exact h.at_ k hk
theorem RRows.rowOf {w : World} {ad : Addr} {g : List (List Int)} (h : RRows w (some ad) g) (hp : 0 < g.length) :
    ∃ (B : Nat → Option Addr) (c : Nat → Nat), (∀ k, k < g.length → w.cell? (ad.add k) = some (.slice (B k) (Go.Proofs.YtimkijmjbnmcbaaGreat.row g k).length (c k))) ∧ ∀ k, k < g.length → RInts w (B k) (Go.Proofs.YtimkijmjbnmcbaaGreat.row g k) := by
  obtain ⟨ad', B, c, e, _, h1, h2⟩ := h.row hp
  injection e with e; subst e
  exact ⟨B, c, h1, h2⟩

/-- Lists, an element at a time. -/
theorem any_take {α : Type} (l : List α) (p : α → Bool) (k : Nat) (h : k < l.length) : (l.take (k + 1)).any p = ((l.take k).any p || p l[k]) := by
  rw [List.take_succ_eq_append_getElem h, List.any_append]; simp only [List.any_cons, List.any_nil, Bool.or_false]
theorem all_take {α : Type} (l : List α) (p : α → Bool) (k : Nat) (h : k < l.length) : (l.take (k + 1)).all p = ((l.take k).all p && p l[k]) := by
  rw [List.take_succ_eq_append_getElem h, List.all_append]; simp only [List.all_cons, List.all_nil, Bool.and_true]
theorem any_of_at {α : Type} {l : List α} {p : α → Bool} (k : Nat) (h : k < l.length) (hp : p l[k] = true) : l.any p = true := List.any_eq_true.2 ⟨_, List.getElem_mem h, hp⟩
theorem all_of_at {α : Type} {l : List α} {p : α → Bool} (k : Nat) (h : k < l.length) (hp : p l[k] = false) : l.all p = false := by
  rw [List.all_eq_false]; exact ⟨_, List.getElem_mem h, by simp [hp]⟩
theorem any_end {α : Type} {l : List α} {p : α → Bool} {b : Bool} {k : Nat} (h : (l.take k).any p = b) (hk : ¬ k < l.length) : l.any p = b := by
  rwa [List.take_of_length_le (by omega)] at h
theorem all_end {α : Type} {l : List α} {p : α → Bool} {b : Bool} {k : Nat} (h : (l.take k).all p = b) (hk : ¬ k < l.length) : l.all p = b := by
  rwa [List.take_of_length_le (by omega)] at h
theorem any_on {α : Type} {l : List α} {p : α → Bool} {k : Nat} (hk : k < l.length) (h : (l.take k).any p = false) (hp : p l[k] = false) : (l.take (k + 1)).any p = false := by
  rw [any_take l p k hk, h, hp]; rfl
theorem all_on {α : Type} {l : List α} {p : α → Bool} {k : Nat} (hk : k < l.length) (h : (l.take k).all p = true) (hp : p l[k] = true) : (l.take (k + 1)).all p = true := by
  rw [all_take l p k hk, h, hp]; rfl
theorem rall_succ (p : Nat → Bool) (k : Nat) : (List.range (k + 1)).all p = ((List.range k).all p && p k) := by
  rw [List.range_succ, List.all_append]; simp only [List.all_cons, List.all_nil, Bool.and_true]
theorem rall_on {p : Nat → Bool} {k : Nat} (h : (List.range k).all p = true) (hp : p k = true) : (List.range (k + 1)).all p = true := by rw [rall_succ, h, hp]; rfl
theorem rall_bad {p : Nat → Bool} {k n : Nat} (hk : k < n) (hp : p k = false) : (List.range n).all p = false := by
  rw [List.all_eq_false]; exact ⟨k, List.mem_range.2 hk, by simp [hp]⟩
theorem rall_end {p : Nat → Bool} {k n : Nat} {b : Bool} (h : (List.range k).all p = b) (h1 : k ≤ n) (h2 : ¬ k < n) : (List.range n).all p = b := by
  obtain rfl : k = n := by omega
  exact h
theorem getD_at {α : Type} (l : List α) (d : α) (k : Nat) (h : k < l.length) : l.getD k d = l[k] := by simp [List.getD, h]
theorem ret_bool {a b : Bool} (h : a = b) : Ending.returned (.bool a) = .returned (.bool b) := by rw [h]
theorem ret_int {k : IntKind} {a b : Int} (h : a = b) : Ending.returned (.int k a) = .returned (.int k b) := by rw [h]

/-- The first index at which p holds; -1: there is none. -/
def idx {α : Type} (p : α → Bool) (l : List α) : Int := match l.findIdx? p with | some i => (i : Int) | none => -1
theorem idx_found {α : Type} {p : α → Bool} {l : List α} {k : Nat} (hk : k < l.length) (h : (l.take k).any p = false) (hp : p l[k] = true) : idx p l = k := by
  have : l.findIdx? p = some k := by
    rw [List.findIdx?_eq_some_iff_getElem]
    refine ⟨hk, hp, fun j hj => ?_⟩
    have := List.any_eq_false.1 h (l[j]) (by rw [List.mem_take_iff_getElem]; exact ⟨j, by omega, rfl⟩)
    simpa using this
  simp [idx, this]
theorem idx_none {α : Type} {p : α → Bool} {l : List α} (h : l.any p = false) : idx p l = -1 := by
  have : l.findIdx? p = none := by
    rw [List.findIdx?_eq_none_iff]; intro x hx; have := List.any_eq_false.1 h x hx; simpa using this
  simp [idx, this]
theorem idx_nonneg {α : Type} (p : α → Bool) (l : List α) : decide (0 ≤ idx p l) = l.any p := by
  cases h : l.any p
  · rw [idx_none h]; decide
  · have : (l.findIdx? p).isSome = true := by simpa [List.findIdx?_isSome] using h
    obtain ⟨i, hi⟩ := Option.isSome_iff_exists.1 this
    simp [idx, hi]
theorem idx_bd {α : Type} (p : α → Bool) (l : List α) : -1 ≤ idx p l ∧ idx p l < l.length := by
  cases h : l.findIdx? p with
  | none => simp [idx, h]; omega
  | some i =>
    have := (List.findIdx?_eq_some_iff_getElem.1 h).1
    simp [idx, h]; omega
end Go.Proofs.YtimkijmjbnmcbaaGreat
namespace Go.Proofs.YtimkijmjbnmcbaaGreat
open Go Go.RowKit
def isKey (v : Value) (x : Int) : Bool := match v with
  | .int .i64 y => x == y
  | _ => false
theorem isKey_iff {v : Value} {x : Int} : isKey v x = true ↔ v = .int .i64 x := by
  unfold isKey
  split
  · rw [beq_iff_eq]; exact ⟨fun h => (by rw [h]), fun h => (by injection h with _ h; exact h.symm)⟩
  · rename_i h1
    exact ⟨fun h => (by cases h), fun h => absurd h (h1 x)⟩
theorem isKey_no {v : Value} {x : Int} (h : v ≠ .int .i64 x) : isKey v x = false := by rw [Bool.eq_false_iff]; exact fun e => h (isKey_iff.1 e)
theorem isKey_self (x : Int) : isKey (.int .i64 x) x = true := isKey_iff.2 rfl
/-- The element at a key. -/
def lookI : List MapEntry → Int → Option Value
  | [], _ => none
  | e :: es, x => if isKey e.key x then some e.val else lookI es x
def KeysI (es : List MapEntry) : Prop := ∀ e ∈ es, ∃ y, e.key = .int .i64 y
theorem findNow_I {x : Int} : ∀ (es : List MapEntry) (i : Nat), KeysI es →
    (Instr.findNow (.int .i64) (.int .i64 x) es i = some none ∧ lookI es x = none ∧ ∀ e ∈ es, e.key ≠ .int .i64 x) ∨
    ∃ j v e, Instr.findNow (.int .i64) (.int .i64 x) es i = some (some (i + j, v)) ∧ lookI es x = some v ∧ es[j]? = some e ∧ e.key = .int .i64 x ∧ ∀ k, k < j → ∀ e', es[k]? = some e' → e'.key ≠ .int .i64 x
  | [], _, _ => .inl ⟨rfl, rfl, by simp⟩
  | e :: es, i, h => by
    obtain ⟨y, hy⟩ := h e (by simp)
    by_cases he : x = y
    · subst he
      refine .inr ⟨0, e.val, e, ?_, ?_, rfl, hy, by omega⟩
      · simp [Instr.findNow, hy, Instr.sameNow]
      · simp [lookI, hy, isKey_self]
    · have hne : e.key ≠ .int .i64 x := by rw [hy]; intro h; injection h with _ h; exact he h.symm
      have hb : (x == y) = false := by simpa using he
      rcases findNow_I (x := x) es (i + 1) (fun e he => h e (List.mem_cons_of_mem _ he)) with ⟨h1, h2, h3⟩ | ⟨j, v, e0, h1, h2, h3, h4, h5⟩
      · refine .inl ⟨?_, ?_, ?_⟩
        · simp [Instr.findNow, hy, Instr.sameNow, hb, h1]
        · simp [lookI, isKey_no hne, h2]
        · intro e' he'
          rcases List.mem_cons.1 he' with rfl | he'
          · exact hne
          · exact h3 e' he'
      · refine .inr ⟨j + 1, v, e0, ?_, ?_, by simpa using h3, h4, ?_⟩
        · simp [Instr.findNow, hy, Instr.sameNow, hb, h1]; omega
        · simp [lookI, isKey_no hne, h2]
        · intro k hk e' he'
          cases k with
          | zero => simp at he'; subst he'; exact hne
          | succ k => exact h5 k (by omega) e' (by simpa using he')
section
variable {P : Program} {k : TypeId} (hk : P.underlying k = some (.int .i64))
include hk
theorem run_checkKey_n (b : Bool) (x : Int) (w : World) (n : Nat) : (Instr.checkKey b (n + 1) k (.int .i64 x)).run P w = .ok () w := by
  simp [Instr.checkKey, run_underlying hk, Result.andThen]
theorem run_checkKey_I (b : Bool) (x : Int) (w : World) : (Instr.checkKey b 10000 k (.int .i64 x)).run P w = .ok () w := run_checkKey_n hk b x w 9999
theorem run_lookup_I {t e : TypeId} {w : World} {b : Nat} {es : Array MapEntry} {clock : Nat} {z : Value} (ht : P.underlying t = some (.map k e)) (hb : w.heap[b]? = some (.map es clock)) (hK : KeysI es.toList) (hz : (zeroValue e).run P w = .ok z w) (x : Int) :
    (Instr.lookup t (.map (some b)) (.int .i64 x) false).run P w = .ok ((lookI es.toList x).getD z) w := by
  rcases findNow_I (x := x) es.toList 0 hK with ⟨h1, h2, -⟩ | ⟨j, v, e0, h1, h2, -⟩
  · simp [Instr.lookup, run_underlying ht, MapKept.run_getObj_map hb, run_checkKey_I hk, Instr.findKey, run_underlying hk, h1, h2, hz, Result.andThen]
  · simp [Instr.lookup, run_underlying ht, MapKept.run_getObj_map hb, run_checkKey_I hk, Instr.findKey, run_underlying hk, h1, h2, Result.andThen]
omit hk in
theorem lookI_push {es : List MapEntry} {x : Int} {v : Value} {c : Nat} (hn : ∀ e ∈ es, e.key ≠ .int .i64 x) (y : Int) : lookI (es ++ [{ key := .int .i64 x, val := v, born := c }]) y = if y = x then some v else lookI es y := by
  induction es with
  | nil =>
    by_cases h : y = x
    · subst h; simp [lookI, isKey_self]
    · have : isKey (Value.int .i64 x) y = false := isKey_no (by intro e; injection e with _ e; exact h e.symm)
      simp [lookI, h, this]
  | cons e es ih =>
    have ih := ih fun e he => hn e (List.mem_cons_of_mem _ he)
    have h0 := hn e (by simp)
    simp only [List.cons_append, lookI, ih]
    by_cases h : y = x
    · subst h; simp [isKey_no h0]
    · simp [h]
omit hk in
theorem lookI_set {es : List MapEntry} {x : Int} {v : Value} {e0 : MapEntry} : ∀ {j : Nat}, es[j]? = some e0 → e0.key = .int .i64 x → (∀ k, k < j → ∀ e', es[k]? = some e' → e'.key ≠ .int .i64 x) → ∀ y, lookI (es.modify j fun e => { e with key := .int .i64 x, val := v }) y = if y = x then some v else lookI es y := by
  induction es with
  | nil => intro j h; simp at h
  | cons e es ih =>
    intro j h1 h2 h3 y
    cases j with
    | zero =>
      simp at h1
      subst h1
      by_cases h : y = x
      · subst h; simp [lookI, isKey_self]
      · have : isKey (Value.int .i64 x) y = false := isKey_no (by intro e; injection e with _ e; exact h e.symm)
        simp [lookI, h, h2, this]
    | succ j =>
      have h0 := h3 0 (by omega) e rfl
      have := ih (j := j) (by simpa using h1) h2 (fun k hk e' he' => h3 (k + 1) (by omega) e' (by simpa using he')) y
      simp only [List.modify_succ_cons, lookI, this]
      by_cases h : y = x
      · subst h; simp [isKey_no h0]
      · simp [h]
theorem run_update_I {t e : TypeId} {w : World} {b : Nat} {es : Array MapEntry} {clock : Nat} (ht : P.underlying t = some (.map k e)) (hb : w.heap[b]? = some (.map es clock)) (hK : KeysI es.toList) (x : Int) (v : Value) :
    ∃ es' clock', (Instr.mapUpdate t (.map (some b)) (.int .i64 x) v).run P w = .ok () (ChangeMaps.setBlock w b (.map es' clock')) ∧ KeysI es'.toList ∧ ∀ y, lookI es'.toList y = if y = x then some v else lookI es.toList y := by
  rcases findNow_I (x := x) es.toList 0 hK with ⟨h1, h2, h3⟩ | ⟨j, v0, e0, h1, h2, h3, h4, h5⟩
  · refine ⟨es.push { key := .int .i64 x, val := v, born := clock }, clock + 1, ?_, ?_, ?_⟩
    · simp [Instr.mapUpdate, run_underlying ht, MapKept.run_getObj_map hb, run_checkKey_I hk, Instr.findKey, run_underlying hk, h1, MapKept.run_setObj_map _ hb, Result.andThen, ChangeMaps.setBlock]
    · intro e he
      rw [Array.toList_push] at he
      rcases List.mem_append.1 he with he | he
      · exact hK e he
      · simp at he; subst he; exact ⟨x, rfl⟩
    · intro y
      rw [Array.toList_push]
      exact lookI_push h3 y
  · have hj : es[j]? = some e0 := by rw [← Array.getElem?_toList]; exact h3
    refine ⟨es.modify j fun e => { e with key := .int .i64 x, val := v }, clock, ?_, ?_, ?_⟩
    · simp [Instr.mapUpdate, run_underlying ht, MapKept.run_getObj_map hb, run_checkKey_I hk, Instr.findKey, run_underlying hk, h1, hj, h4, Instr.keyThatStays, Instr.sameBits, MapKept.run_setObj_map _ hb, Result.andThen, ChangeMaps.setBlock]
    · intro e he
      rw [Array.toList_modify] at he
      obtain ⟨i, hi, rfl⟩ := List.getElem_of_mem he
      rw [List.getElem_modify]
      split
      · exact ⟨x, rfl⟩
      · exact hK _ (List.getElem_mem _)
    · intro y
      rw [Array.toList_modify]
      exact lookI_set h3 h4 h5 y
end
end Go.Proofs.YtimkijmjbnmcbaaGreat
namespace Go.Proofs.YtimkijmjbnmcbaaGreat
open Go.RowKit

def bv (x : Int) : BitVec 64 := BitVec.ofInt 64 x
theorem i64_wrap_nat (v : BitVec 64) : IntKind.i64.wrap v.toNat = v.toInt := by
  rw [IntKind.wrap_i64, BitVec.toInt_eq_toNat_cond]
  have := v.isLt
  split <;> omega
theorem wrap64_nat (v : BitVec 64) : wrap64 v.toNat = v.toInt := by rw [← IntWalk.i64_left, i64_wrap_nat]
theorem u64_wrap_nat (v : BitVec 64) : IntKind.u64.wrap v.toNat = v.toNat := by
  have := v.isLt
  exact IntWalk.u64_in _ ⟨by omega, by omega⟩
theorem bits_and (x y : Int) : bits .and .i64 x y = (bv x &&& bv y).toInt := i64_wrap_nat _
theorem bits_or (x y : Int) : bits .or .i64 x y = (bv x ||| bv y).toInt := i64_wrap_nat _
theorem bits_xor (x y : Int) : bits .xor .i64 x y = (bv x ^^^ bv y).toInt := i64_wrap_nat _
theorem bits_andNot (x y : Int) : bits .andNot .i64 x y = (bv x &&& ~~~ bv y).toInt := i64_wrap_nat _
theorem ubits_and (x y : Int) : bits .and .u64 x y = (bv x &&& bv y).toNat := u64_wrap_nat _
theorem ubits_or (x y : Int) : bits .or .u64 x y = (bv x ||| bv y).toNat := u64_wrap_nat _
theorem ubits_xor (x y : Int) : bits .xor .u64 x y = (bv x ^^^ bv y).toNat := u64_wrap_nat _
theorem ubits_andNot (x y : Int) : bits .andNot .u64 x y = (bv x &&& ~~~ bv y).toNat := u64_wrap_nat _
theorem bv_toInt (v : BitVec 64) : bv v.toInt = v := BitVec.ofInt_toInt
theorem bv_toNat (v : BitVec 64) : bv (v.toNat : Int) = v := by unfold bv; rw [BitVec.ofInt_natCast]; simp
theorem toInt_bv {x : Int} (h : I64 x) : (bv x).toInt = x := by
  unfold bv
  rw [BitVec.toInt_ofInt]
  exact Int.bmod_eq_of_le (by have := h.1; omega) (by have := h.2; omega)
theorem i64_toInt (v : BitVec 64) : I64 v.toInt := by
  have h1 := BitVec.le_toInt v
  have h2 := BitVec.toInt_le (x := v)
  exact ⟨by simpa using h1, by simp at h2; omega⟩
theorem bv_inj {x y : Int} (hx : I64 x) (hy : I64 y) (h : bv x = bv y) : x = y := by rw [← toInt_bv hx, ← toInt_bv hy, h]
theorem bv_uwrap (x : Int) : bv (IntKind.u64.wrap x) = bv x := by
  unfold bv
  rw [IntKind.wrap_u64]
  apply BitVec.eq_of_toInt_eq
  rw [BitVec.toInt_ofInt, BitVec.toInt_ofInt]
  exact Int.emod_bmod x (2 ^ 64)
theorem toInt_inj {u v : BitVec 64} (h : u.toInt = v.toInt) : u = v := BitVec.eq_of_toInt_eq h
theorem bv_pow (n : Nat) : bv (2 ^ n) = BitVec.twoPow 64 n := by
  unfold bv
  apply BitVec.eq_of_toNat_eq
  rw [BitVec.toNat_twoPow]
  have : (2 : Int) ^ n = ((2 ^ n : Nat) : Int) := by simp
  rw [this, BitVec.ofInt_natCast]
  simp
theorem bv_zero : bv 0 = 0#64 := rfl
/-- Symbol k is in the set. -/
def hasS (x : Int) (k : Nat) : Bool := (bv x).getLsbD k
theorem hasS_toInt (v : BitVec 64) (k : Nat) : hasS v.toInt k = v.getLsbD k := by unfold hasS; rw [bv_toInt]
theorem zero_iff {x : Int} (h : I64 x) : x = 0 ↔ bv x = 0#64 := ⟨fun e => by rw [e]; rfl, fun e => bv_inj h ⟨by decide, by decide⟩ (e.trans bv_zero.symm)⟩
theorem bv_mod2 (y : Int) : (bv y).getLsbD 0 = decide (y % 2 = 1) := by
  unfold bv
  rw [BitVec.getLsbD_eq_getElem (by decide), BitVec.getElem_eq_testBit_toNat, BitVec.toNat_ofInt, Nat.testBit_zero]
  congr 1
  simp only [eq_iff_iff]
  omega
theorem hasS_shift (x : Int) (k : Nat) (hk : k < 64) : hasS x k = decide (x / 2 ^ k % 2 = 1) := by
  unfold hasS bv
  rw [BitVec.getLsbD_eq_getElem hk, BitVec.getElem_eq_testBit_toNat, BitVec.toNat_ofInt, Nat.testBit_eq_decide_div_mod_eq]
  congr 1
  simp only [eq_iff_iff]
  have h1 : ((x % ((2 ^ 64 : Nat) : Int)).toNat : Int) = x % ((2 ^ 64 : Nat) : Int) := Int.toNat_of_nonneg (Int.emod_nonneg _ (by decide))
  have h2 : (2 ^ 64 : Int) = 2 ^ k * (2 * 2 ^ (63 - k)) := by
    rw [← Int.pow_succ', ← Int.pow_add]; congr 1; omega
  have h3 : x % (2 ^ 64 : Int) / 2 ^ k % 2 = x / 2 ^ k % 2 := by
    have h5 : x % (2 ^ 64 : Int) = x + 2 ^ k * (-(2 * 2 ^ (63 - k) * (x / 2 ^ 64))) := by
      rw [Int.emod_def]
      generalize x / 2 ^ 64 = d
      rw [h2, Int.mul_neg, Int.mul_assoc]; omega
    rw [h5, Int.add_mul_ediv_left _ _ (Int.ne_of_gt (Int.pow_pos (by decide)))]
    generalize x / 2 ^ 64 = d
    rw [Int.mul_assoc]
    omega
  have h4 : (((x % ((2 ^ 64 : Nat) : Int)).toNat / 2 ^ k % 2 : Nat) : Int) = x / 2 ^ k % 2 := by
    rw [Int.natCast_emod, Int.natCast_ediv, h1]
    exact h3
  omega
theorem bits_shift_one (x : Int) (k : Nat) (hk : k < 64) : bits .and .i64 (x / 2 ^ k) 1 = if hasS x k then 1 else 0 := by
  rw [bits_and, hasS_shift x k hk, ← bv_mod2]
  have : bv 1 = BitVec.twoPow 64 0 := by decide
  rw [this, BitVec.and_twoPow]
  cases h : (bv (x / 2 ^ k)).getLsbD 0
  · simp
  · simp; decide
end Go.Proofs.YtimkijmjbnmcbaaGreat
