/- Arguments as they are read: conditions, lemmas, libraries, instances. -/
import Derived.Test.YtimkijmjbnmcbaaGreatYm25
import Derived.Test.YtimkijmjbnmcbaaGreatYm18
namespace Go.Proofs.YtimkijmjbnmcbaaGreat
open Go Go.RowKit Go.ChangeShapes Go.WideShapes Go.Deep
theorem dec_str : Dec 9 1 RStr := by
  intro H enc w base spare held fuel cs x h _
  obtain ⟨s, rfl, -, hs⟩ := DataW.trod_string Tryz.underlying9 h
  exact ⟨rfl, s, rfl, hs⟩
theorem dec_strs : Dec 37 1 (RSlice 1 RStr) := Dec.slice Tryz.underlying37 (by kernel_rfl) (by decide) (by decide +kernel) dec_str
/-- A list of integers whose slice has room for it. -/
def RRowC (w : World) (vs : List Value) (l : List Int) : Prop := ∃ A c, vs = [.slice A l.length c] ∧ RInts w A l ∧ l.length ≤ c
theorem dec_intsC : Dec 22 1 RRowC := by
  intro H enc w base spare held fuel cs x h hs
  obtain ⟨hl, l, A, c, rfl, hr⟩ := dec_ints H enc w base spare held fuel cs x h hs
  refine ⟨hl, l, A, c, rfl, hr, ?_⟩
  rcases open_slice Tryz.underlying22 h with ⟨e, -⟩ | ⟨a, len, cap, m, n, D, Pl, e, hb, hl, -⟩
  · injection e with e; injection e with e1 e2 e3; omega
  · injection e with e; injection e with e1 e2 e3; omega
/-- A slice of whatever. -/
def RAny (_ : World) (vs : List Value) (_ : Unit) : Prop := ∃ B bn bc, vs = [.slice B bn bc]
theorem Dec.any {t e : TypeId} (ht : Tryz.prog.underlying t = some (.slice e)) : Dec t 1 RAny := by
  intro H enc w base spare held fuel cs x h _
  rcases open_slice ht h with ⟨rfl, -⟩ | ⟨a, len, cap, m, n, D, Pl, rfl, -⟩
  · exact ⟨rfl, (), _, _, _, rfl⟩
  · exact ⟨rfl, (), _, _, _, rfl⟩
theorem dec_cond : Dec 50 4 RCond := by
  intro H enc w base spare held fuel cs x h hs
  obtain ⟨hl, hf⟩ := fields_one (t := 50) Tryz.underlying50 (by kernel_rfl) (by kernel_rfl) h hs
  obtain ⟨_, a0, e0, ⟨⟩, i0⟩ := hf 0 _ rfl dec_int
  obtain ⟨_, a1, e1, A1, c1, ⟨⟩, i1⟩ := hf 1 _ rfl dec_ints
  obtain ⟨_, a2, e2, A2, c2, ⟨⟩, i2⟩ := hf 2 _ rfl dec_ints
  obtain ⟨_, a3, e3, ⟨⟩, i3⟩ := hf 3 _ rfl dec_int
  refine ⟨hl, ⟨a0, a1, a2, a3⟩, A1, c1, A2, c2, ?_, i1, i2, i0, i3⟩
  apply List.ext_getElem?
  intro i
  match i with
  | 0 => exact e0
  | 1 => exact e1
  | 2 => exact e2
  | 3 => exact e3
  | i + 4 => rw [List.getElem?_eq_none (by simp at hl; omega), List.getElem?_eq_none (by simp)]
theorem dec_conds : Dec 38 1 (RSlice 4 RCond) := Dec.slice Tryz.underlying38 (by kernel_rfl) (by decide) (by decide +kernel) dec_cond
theorem dec_prem : Dec 53 2 RPrem := by
  intro H enc w base spare held fuel cs x h hs
  obtain ⟨hl, hf⟩ := fields_one (t := 53) Tryz.underlying53 (by kernel_rfl) (by kernel_rfl) h hs
  obtain ⟨_, a0, e0, ⟨⟩, i0⟩ := hf 0 _ rfl dec_int
  obtain ⟨_, a1, e1, A1, c1, ⟨⟩, i1⟩ := hf 1 _ rfl dec_ints
  refine ⟨hl, ⟨a0, a1⟩, A1, c1, ?_, i1, i0⟩
  apply List.ext_getElem?
  intro i
  match i with
  | 0 => exact e0
  | 1 => exact e1
  | i + 2 => rw [List.getElem?_eq_none (by simp at hl; omega), List.getElem?_eq_none (by simp)]
theorem dec_prems : Dec 39 1 (RSlice 2 RPrem) := Dec.slice Tryz.underlying39 (by kernel_rfl) (by decide) (by decide +kernel) dec_prem
theorem dec_rule : Dec 41 8 RRule := by
  intro H enc w base spare held fuel cs x h hs
  obtain ⟨hl, hf⟩ := fields_one (t := 41) Tryz.underlying41 (by kernel_rfl) (by kernel_rfl) h hs
  obtain ⟨_, a0, e0, ⟨⟩, i0⟩ := hf 0 _ rfl dec_str
  obtain ⟨_, a1, e1, ⟨⟩, i1⟩ := hf 1 _ rfl dec_int
  obtain ⟨_, a2, e2, A2, c2, ⟨⟩, i2⟩ := hf 2 _ rfl dec_strs
  obtain ⟨_, a3, e3, A3, c3, ⟨⟩, i3⟩ := hf 3 _ rfl dec_strs
  obtain ⟨_, a4, e4, A4, c4, ⟨⟩, i4⟩ := hf 4 _ rfl dec_conds
  obtain ⟨_, a5, e5, A5, c5, ⟨⟩, i5⟩ := hf 5 _ rfl dec_prems
  obtain ⟨_, a6, e6, ⟨⟩, i6⟩ := hf 6 _ rfl dec_int
  obtain ⟨_, a7, e7, ⟨⟩, i7⟩ := hf 7 _ rfl dec_int
  refine ⟨hl, ⟨a0, a1, a2, a3, a4, a5, a6, a7⟩, ⟨A2, c2, A3, c3, A4, c4, A5, c5⟩, ?_, i2, i3, i4, i5, i1, i6, i7, i0⟩
  apply List.ext_getElem?
  intro i
  match i with
  | 0 => exact e0
  | 1 => exact e1
  | 2 => exact e2
  | 3 => exact e3
  | 4 => exact e4
  | 5 => exact e5
  | 6 => exact e6
  | 7 => exact e7
  | i + 8 => rw [List.getElem?_eq_none (by simp at hl; omega), List.getElem?_eq_none (by simp)]
theorem dec_rules : Dec 27 1 (RSlice 8 RRule) := Dec.slice Tryz.underlying27 (by kernel_rfl) (by decide) (by decide +kernel) dec_rule
theorem dec_inst : Dec 32 3 RInst := by
  intro H enc w base spare held fuel cs x h hs
  obtain ⟨hl, hf⟩ := fields_one (t := 32) Tryz.underlying32 (by kernel_rfl) (by kernel_rfl) h hs
  obtain ⟨_, a0, e0, ⟨⟩, i0⟩ := hf 0 _ rfl dec_int
  obtain ⟨_, a1, e1, A1, c1, ⟨⟩, i1, j1⟩ := hf 1 _ rfl dec_intsC
  obtain ⟨_, a2, e2, A2, c2, ⟨⟩, i2, j2⟩ := hf 2 _ rfl dec_intsC
  refine ⟨hl, ⟨a0, a1, a2⟩, ⟨A1, c1, A2, c2⟩, ?_, i1, i2, i0, j1, j2⟩
  apply List.ext_getElem?
  intro i
  match i with
  | 0 => exact e0
  | 1 => exact e1
  | 2 => exact e2
  | i + 3 => rw [List.getElem?_eq_none (by simp at hl; omega), List.getElem?_eq_none (by simp)]
/-! ### Arguments. -/
set_option maxRecDepth 100000
section
variable {H : Type} {enc : TypeId × Value → H} {w : World} {base : Nat} {spare : Nat → Bool} {held : Bool} {v : Value} {d : DataW H} {ps : List MemPlace} {r : Reach} {b0 : Nat}
theorem arg_intsC (hv : Value.okWide Tryz.prog w r b0 22 v) (h : DataW.Trod enc Tryz.prog w base spare held 22 v d ps) (hs : SmallD 22 d) : ∃ (A : Option Addr) (c : Nat) (l : List Int), v = .slice A l.length c ∧ RInts w A l ∧ l.length ≤ c := by
  obtain ⟨A, len, cap, rfl⟩ := okWide_slice Tryz.underlying22 hv
  obtain ⟨fuel, hf⟩ := h
  obtain ⟨-, l, B, c, e, hr, hc⟩ := dec_intsC H enc w base spare held fuel _ _ hf hs
  cases e
  exact ⟨A, cap, l, rfl, hr, hc⟩
theorem arg_cond (hv : Value.okWide Tryz.prog w r b0 50 v) (h : DataW.Trod enc Tryz.prog w base spare held 50 v d ps) (hs : SmallD 50 d) : ∃ (c : Cond) (A : Option Addr) (a : Nat) (B : Option Addr) (b : Nat), v = condV c A a B b ∧ RInts w A c.cells ∧ RInts w B c.letters ∧ I64 c.kind ∧ I64 c.n := by
  obtain ⟨cs, rfl, hsz⟩ := okWide_struct Tryz.underlying50 hv
  obtain ⟨fuel, hf⟩ := h
  obtain ⟨-, c, A, a, B, b, e, h1, h2, h3, h4⟩ := dec_cond H enc w base spare held fuel _ _ hf hs
  refine ⟨c, A, a, B, b, ?_, h1, h2, h3, h4⟩
  congr 1
  exact Array.ext' e
theorem arg_inst (hv : Value.okWide Tryz.prog w r b0 32 v) (h : DataW.Trod enc Tryz.prog w base spare held 32 v d ps) (hs : SmallD 32 d) : ∃ (i : Inst) (p : IPtr), v = .agg #[.int .i64 i.rule, .slice p.a i.cells.length p.ac, .slice p.b i.symbols.length p.bc] ∧ RInstP w i p := by
  obtain ⟨cs, rfl, hsz⟩ := okWide_struct Tryz.underlying32 hv
  obtain ⟨fuel, hf⟩ := h
  obtain ⟨-, i, p, e, h1⟩ := dec_inst H enc w base spare held fuel _ _ hf hs
  refine ⟨i, p, ?_, h1⟩
  congr 1
  exact Array.ext' e
theorem arg_lib (hv : Value.okWide Tryz.prog w r b0 30 v) (h : DataW.Trod enc Tryz.prog w base spare held 30 v d ps) (hs : SmallD 30 d) : ∃ (l : List Rule) (A : Option Addr) (a : Nat) (B : Option Addr) (bn bc : Nat), v = libW l A a B bn bc ∧ RRules w A l := by
  obtain ⟨cs, rfl, hsz⟩ := okWide_struct Tryz.underlying30 hv
  obtain ⟨fuel, hf⟩ := h
  obtain ⟨hl, hg⟩ := fields_one (t := 30) Tryz.underlying30 (by kernel_rfl) (by kernel_rfl) hf hs
  have hl2 : cs.size = 2 := hl
  obtain ⟨_, a0, e0, A0, c0, ⟨⟩, i0⟩ := hg 0 _ rfl dec_rules
  obtain ⟨_, a1, e1, B, bn, bc, ⟨⟩⟩ := hg 1 _ rfl (Dec.any Tryz.underlying28)
  refine ⟨a0, A0, c0, B, bn, bc, ?_, i0⟩
  congr 1
  apply Array.ext'
  apply List.ext_getElem?
  intro i
  match i with
  | 0 => exact e0
  | 1 => exact e1
  | i + 2 => rw [List.getElem?_eq_none (by simp; omega), List.getElem?_eq_none (by simp)]
end
end Go.Proofs.YtimkijmjbnmcbaaGreat
