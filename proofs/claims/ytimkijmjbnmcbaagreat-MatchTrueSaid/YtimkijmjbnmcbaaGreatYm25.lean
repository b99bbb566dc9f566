/- Arguments as they are read: what a reading says of memory. -/
import Derived.ProofKit
import Derived.OpenShut
import Derived.ShutString
import Derived.ChangeOld
import Derived.Below
import Derived.SizedLaws
import Derived.Deep.Slices
import Derived.Deep.Fields
import Derived.ChangeSame
import Derived.Test.YtimkijmjbnmcbaaGreatYm7
namespace Go.Proofs.YtimkijmjbnmcbaaGreat
open Go Go.RowKit Go.ChangeShapes Go.WideShapes Go.Deep

/-- No part of a datum is larger than the form's reach. -/
def SmallD {H : Type} (t : TypeId) (d : DataW H) : Prop := ∀ n ∈ d.weights Tryz.prog t, n ≤ reachBytes
/-- A reading at type t of a row of cells says R of them. -/
def Dec (t : TypeId) (sz : Nat) {α : Type} (R : World → List Value → α → Prop) : Prop :=
  ∀ (H : Type) (enc : TypeId × Value → H) (w : World) (base : Nat) (spare : Nat → Bool) (held : Bool) (fuel : Nat) (cs : List Value) (x : DataW H × List MemPlace),
    DataW.trod enc Tryz.prog w base spare held fuel t cs = some x → SmallD t x.1 → cs.length = sz ∧ ∃ a, R w cs a
theorem Dec.int {t : TypeId} (ht : Tryz.prog.underlying t = some (.int .i64)) : Dec t 1 RInt := by
  intro H enc w base spare held fuel cs x h _
  obtain ⟨n, rfl, -, hw⟩ := DataW.trod_int ht h
  simp only [Lit.wf, Bool.and_eq_true, decide_eq_true_eq] at hw
  exact ⟨rfl, n, rfl, by simpa [IntKind.min, IntKind.signed, IntKind.bits] using hw.1, by simpa [IntKind.max, IntKind.signed, IntKind.bits] using hw.2⟩
/-- A slice whose elements are sz cells each. -/
def RSlice {α : Type} (sz : Nat) (R : World → List Value → α → Prop) (w : World) (vs : List Value) (l : List α) : Prop := ∃ A c, vs = [.slice A l.length c] ∧ RSl sz R w A l
theorem choose_list {α : Type} {m : Nat} {p : Nat → α → Prop} (h : ∀ i, i < m → ∃ a, p i a) : ∃ l : List α, l.length = m ∧ ∀ i (hi : i < l.length), p i l[i] := by
  induction m with
  | zero => exact ⟨[], rfl, fun i hi => absurd hi (by simp)⟩
  | succ m ih =>
    obtain ⟨l, hl, hp⟩ := ih fun i hi => h i (by omega)
    obtain ⟨a, ha⟩ := h m (by omega)
    refine ⟨l ++ [a], by simp [hl], fun i hi => ?_⟩
    by_cases him : i < l.length
    · rw [List.getElem_append_left him]; exact hp i him
    · have : i = m := by simp at hi; omega
      subst this
      rw [List.getElem_append_right (by omega)]
      simpa [hl] using ha
theorem mem_weightsAll {H : Type} {e : TypeId} {d : DataW H} {l : List (DataW H)} (hd : d ∈ l) {k : Nat} (hk : k ∈ d.weights Tryz.prog e) : k ∈ DataW.weightsAll Tryz.prog e l := by
  induction l with
  | nil => cases hd
  | cons x l ih =>
    simp only [DataW.weightsAll, List.mem_append]
    rcases List.mem_cons.1 hd with rfl | h
    · exact .inl hk
    · exact .inr (ih h)
theorem block_of_cell {w : World} {p : Addr} {v : Value} (h : w.cell? p = some v) : p.block < w.heap.size := by
  by_cases hl : p.block < w.heap.size
  · exact hl
  · have : w.heap[p.block]? = none := Array.getElem?_eq_none (by omega)
    simp [World.cell?, this] at h
theorem Dec.slice {t e : TypeId} {sz : Nat} {α : Type} {R : World → List Value → α → Prop} (ht : Tryz.prog.underlying t = some (.slice e)) (hC : Tryz.prog.cellsOf e = sz) (hsz : 0 < sz) (hB : 8 * sz ≤ Tryz.prog.bytesOf e) (hd : Dec e sz R) : Dec t 1 (RSlice sz R) := by
  intro H enc w base spare held fuel cs x h hs
  rcases open_slice ht h with ⟨rfl, rfl⟩ | ⟨a, len, cap, m, n, D, Pl, rfl, hb, hl, hm, hmm, rfl, hi⟩
  · exact ⟨rfl, [], none, 0, rfl, by simp, fun h => absurd h (by simp)⟩
  · have hle : len ≤ m := by rw [hmm]; split <;> omega
    have hw : (len + (m - len)) * Tryz.prog.bytesOf e ≤ reachBytes := hs _ (by simp [DataW.weights, ht])
    have hel : ∀ i, i < len → ∃ y, ∃ cs', w.cells? base (a.add (i * Tryz.prog.cellsOf e)) (Tryz.prog.cellsOf e) = some cs' ∧ R w cs' y := by
      intro i hil
      obtain ⟨cs', hc, ht'⟩ := hi i (by omega)
      obtain ⟨-, y, hy⟩ := hd H enc w base spare held n cs' _ ht' (fun k hk => hs k (by
        simp only [DataW.weights, ht]
        refine List.mem_cons_of_mem _ (List.mem_append_left _ ?_)
        exact mem_weightsAll (d := D i) (List.mem_map.2 ⟨i, List.mem_range.2 hil, rfl⟩) hk))
      exact ⟨y, cs', hc, hy⟩
    obtain ⟨l, hlen, hp⟩ := choose_list hel
    subst hlen
    refine ⟨rfl, l, some a, cap, rfl, ?_, fun hp0 => ⟨a, rfl, ?_, fun i hil => ?_⟩⟩
    · have h1 : l.length * (8 * sz) ≤ (l.length + (m - l.length)) * Tryz.prog.bytesOf e := Nat.mul_le_mul (by omega) hB
      have : reachBytes ≤ 140737488355328 := by decide
      omega
    · obtain ⟨cs', hc, -⟩ := hp 0 hp0
      obtain ⟨_, hcl, hat⟩ := World.cells?_some hc
      have := hat 0 (by omega)
      rw [hC] at hcl
      have hv : cs'[0]? = some (cs'[0]'(by omega)) := List.getElem?_eq_getElem (by omega)
      rw [hv] at this
      have hbk := block_of_cell this
      rwa [block_of_add, block_of_add] at hbk
    · obtain ⟨cs', hc, hr⟩ := hp i hil
      obtain ⟨_, hcl, hat⟩ := World.cells?_some hc
      rw [hC] at hcl hat
      refine ⟨cs', hcl, hr, fun j hj => ?_⟩
      have := hat j (by omega)
      rw [add_of_add] at this
      rw [this, List.getElem?_eq_getElem hj]
/-- A struct whose fields are a cell each: each field's own reading. -/
theorem fields_one {t : TypeId} {fs : Array Field} (ht : Tryz.prog.underlying t = some (.struct fs)) (hone : oneCellFields Tryz.prog fs = true) (hC : Tryz.prog.cellsOf t = fs.size) {H : Type} {enc : TypeId × Value → H} {w : World} {base : Nat} {spare : Nat → Bool} {held : Bool} {fuel : Nat} {cs : List Value} {x : DataW H × List MemPlace}
    (h : DataW.trod enc Tryz.prog w base spare held fuel t cs = some x) (hs : SmallD t x.1) :
    cs.length = fs.size ∧ ∀ (i : Nat) (f : Field) {α : Type} {R : World → List Value → α → Prop}, fs[i]? = some f → Dec f.type 1 R → ∃ v a, cs[i]? = some v ∧ R w [v] a := by
  obtain ⟨xs, n, _, rfl, hlen, hxs, hg⟩ := DataW.trod_struct ht h
  rw [hC] at hlen
  refine ⟨hlen, fun i f α R hf hd => ?_⟩
  obtain ⟨ho, hk⟩ := hone_of hone i f hf
  have hi : i < fs.size := (Array.getElem?_eq_some_iff.1 hf).1
  have h1 := hg i f hf
  rw [ho, hk, List.drop_eq_getElem_cons (by omega)] at h1
  have hx : xs[i]? = some (xs[i]'(by omega)) := List.getElem?_eq_getElem (by omega)
  rw [hx] at h1
  obtain ⟨-, a, ha⟩ := hd H enc w base spare held n _ _ h1 (fun k hk => hs k (by
    simp only [DataW.weights, ht]
    refine DataW.weights_mem_each (j := i) (t := f.type) (d := (xs[i]'(by omega)).1) ?_ ?_ k hk
    · rw [List.getElem?_map, Array.getElem?_toList, hf]; rfl
    · rw [List.getElem?_map, hx]; rfl))
  exact ⟨_, a, List.getElem?_eq_getElem (by omega), ha⟩

theorem dec_int : Dec 3 1 RInt := Dec.int Tryz.underlying3
theorem dec_ints : Dec 22 1 RRow := Dec.slice Tryz.underlying22 (by kernel_rfl) (by decide) (by decide +kernel) dec_int
theorem dec_rows : Dec 23 1 (RSlice 1 RRow) := Dec.slice Tryz.underlying23 (by kernel_rfl) (by decide) (by decide +kernel) dec_ints
theorem dec_cons : Dec 58 9 RCons := by
  intro H enc w base spare held fuel cs x h hs
  obtain ⟨hl, hf⟩ := fields_one (t := 58) Tryz.underlying58 (by kernel_rfl) (by kernel_rfl) h hs
  obtain ⟨_, a0, e0, ⟨⟩, i0⟩ := hf 0 _ rfl dec_int
  obtain ⟨_, a1, e1, A1, c1, ⟨⟩, i1⟩ := hf 1 _ rfl dec_ints
  obtain ⟨_, a2, e2, ⟨⟩, i2⟩ := hf 2 _ rfl dec_int
  obtain ⟨_, a3, e3, ⟨⟩, i3⟩ := hf 3 _ rfl dec_int
  obtain ⟨_, a4, e4, ⟨⟩, i4⟩ := hf 4 _ rfl dec_int
  obtain ⟨_, a5, e5, ⟨⟩, i5⟩ := hf 5 _ rfl dec_int
  obtain ⟨_, a6, e6, A6, c6, ⟨⟩, i6⟩ := hf 6 _ rfl dec_ints
  obtain ⟨_, a7, e7, ⟨⟩, i7⟩ := hf 7 _ rfl dec_int
  obtain ⟨_, a8, e8, ⟨⟩, i8⟩ := hf 8 _ rfl dec_int
  refine ⟨hl, ⟨a0, a1, a2, a3, a4, a5, a6, a7, a8⟩, A1, c1, A6, c6, ?_, i1, i6, ⟨i0, i2, i3, i4, i5, i7, i8⟩⟩
  apply List.ext_getElem?
  intro i
  match i with
  | 0 => exact e0
  | 1 => exact e1
  | 2 => exact e2
  | 3 => exact e3
  | 4 => exact e4
  | 5 => exact e5
  | 6 => exact e6
  | 7 => exact e7
  | 8 => exact e8
  | i + 9 => rw [List.getElem?_eq_none (by simp at hl; omega), List.getElem?_eq_none (by simp)]
theorem dec_conss : Dec 24 1 (RSlice 9 RCons) := Dec.slice Tryz.underlying24 (by kernel_rfl) (by decide) (by decide +kernel) dec_cons

/-! ### Arguments. -/
set_option maxRecDepth 100000
section
variable {H : Type} {enc : TypeId × Value → H} {w : World} {base : Nat} {spare : Nat → Bool} {held : Bool} {v : Value} {d : DataW H} {ps : List MemPlace} {r : Reach} {b0 : Nat}
theorem arg_int (hv : Value.okWide Tryz.prog w r b0 3 v) (h : DataW.Trod enc Tryz.prog w base spare held 3 v d ps) (hs : SmallD 3 d) : ∃ n, v = .int .i64 n ∧ I64 n := by
  obtain ⟨n, rfl⟩ := okWide_int Tryz.underlying3 hv
  obtain ⟨fuel, hf⟩ := h
  obtain ⟨-, a, e, hi⟩ := dec_int H enc w base spare held fuel _ _ hf hs
  cases e
  exact ⟨n, rfl, hi⟩
theorem arg_slice {t e : TypeId} {sz : Nat} {α : Type} {R : World → List Value → α → Prop} (ht : Tryz.prog.underlying t = some (.slice e)) (hd : Dec t 1 (RSlice sz R)) (hv : Value.okWide Tryz.prog w r b0 t v) (h : DataW.Trod enc Tryz.prog w base spare held t v d ps) (hs : SmallD t d) :
    ∃ (A : Option Addr) (c : Nat) (l : List α), v = .slice A l.length c ∧ RSl sz R w A l := by
  obtain ⟨A, len, cap, rfl⟩ := okWide_slice ht hv
  obtain ⟨fuel, hf⟩ := h
  obtain ⟨-, l, B, c, e, hr⟩ := hd H enc w base spare held fuel _ _ hf hs
  cases e
  exact ⟨A, cap, l, rfl, hr⟩
theorem arg_ints (hv : Value.okWide Tryz.prog w r b0 22 v) (h : DataW.Trod enc Tryz.prog w base spare held 22 v d ps) (hs : SmallD 22 d) : ∃ (A : Option Addr) (c : Nat) (l : List Int), v = .slice A l.length c ∧ RInts w A l :=
  arg_slice Tryz.underlying22 dec_ints hv h hs
theorem arg_prob (hv : Value.okWide Tryz.prog w r b0 26 v) (h : DataW.Trod enc Tryz.prog w base spare held 26 v d ps) (hs : SmallD 26 d) : ∃ (q : Problem) (p : PPtr), v = probV q p ∧ RProb w q p := by
  obtain ⟨cs, rfl, hsz⟩ := okWide_struct Tryz.underlying26 hv
  obtain ⟨fuel, hf⟩ := h
  obtain ⟨hl, hg⟩ := fields_one (t := 26) Tryz.underlying26 (by kernel_rfl) (by kernel_rfl) hf hs
  have hl5 : cs.size = 5 := hl
  obtain ⟨_, a0, e0, ⟨⟩, i0⟩ := hg 0 _ rfl dec_int
  obtain ⟨_, a1, e1, ⟨⟩, i1⟩ := hg 1 _ rfl dec_int
  obtain ⟨_, a2, e2, A2, c2, ⟨⟩, i2⟩ := hg 2 _ rfl dec_ints
  obtain ⟨_, a3, e3, A3, c3, ⟨⟩, i3⟩ := hg 3 _ rfl dec_rows
  obtain ⟨_, a4, e4, A4, c4, ⟨⟩, i4⟩ := hg 4 _ rfl dec_conss
  refine ⟨⟨a0, a1, a2, a3, a4⟩, ⟨A2, c2, A3, c3, A4, c4⟩, ?_, i2, i3, i4, i0, i1⟩
  congr 1
  apply Array.ext'
  apply List.ext_getElem?
  intro i
  match i with
  | 0 => exact e0
  | 1 => exact e1
  | 2 => exact e2
  | 3 => exact e3
  | 4 => exact e4
  | i + 5 => rw [List.getElem?_eq_none (by simp; omega), List.getElem?_eq_none (by simp)]
end
theorem own : ownKnob Tryz.prog.godebug = none := by kernel_rfl
theorem laidOut : laidOutB Tryz.prog = true := by kernel_rfl
end Go.Proofs.YtimkijmjbnmcbaaGreat
