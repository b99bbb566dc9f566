/- Contract: the law on Fits holds. -/
import Derived.Test.YtimkijmjbnmcbaaYm24
import Derived.Test.YtimkijmjbnmcbaaYm19
namespace Go.Proofs.Ytimkijmjbnmcbaa
open Go Go.RowKit
def FitLawBox (W : World) (g : Nat) (q : Problem) (p : PPtr) (n : Nat) (A : Option Addr) (a : Nat) (B : Option Addr) (bn bc : Nat) (t : Int) (ci si : List Int) (C : Option Addr) (cn : Nat) (D : Option Addr) (dn : Nat) : Prop :=
  ProbBox W g q p ∧ W.cell? ⟨g + 1, 0, none⟩ = some (.slice A n a) ∧ W.cell? ⟨g + 1, 1, none⟩ = some (.slice B bn bc) ∧ W.cell? ⟨g + 1 + 1, 0, none⟩ = some (.int .i64 t) ∧ W.cell? ⟨g + 1 + 1, 1, none⟩ = some (.slice C ci.length cn) ∧ W.cell? ⟨g + 1 + 1, 2, none⟩ = some (.slice D si.length dn)
set_option maxRecDepth 100000 in
set_option maxHeartbeats 8000000 in
theorem lFitsSpec_ok (w : World) (q : Problem) (p : PPtr) (l : List Rule) (A : Option Addr) (a : Nat) (B : Option Addr) (bn bc : Nat) (P : Option Addr) (pn : Nat) (pos : List Int) (i : Inst) (z : IPtr) (hq : RProb w q p) (hl : RRules w A l) (hP : RInts w P pos) (hi : RInstP w i z) :
    Calls Try.prog 4 #[probV q p, libW l A a B bn bc, .slice P pos.length pn, instW i z] w fun e w' => e = .returned (.bool true) ∧ Ext w w' := by
  obtain ⟨pa, pac, pb, pbc, pc, pcc⟩ := p
  obtain ⟨t, ci, si⟩ := i
  obtain ⟨C, cn, D, dn⟩ := z
  have x0 := (((Ext.rfl' w).al (probO q ⟨pa, pac, pb, pbc, pc, pcc⟩)).al (libO l A a B bn bc)).al (instC t ci si C cn D dn)
  have F : ∀ V, Ext (((w.alloc (probO q ⟨pa, pac, pb, pbc, pc, pcc⟩)).alloc (libO l A a B bn bc)).alloc (instC t ci si C cn D dn)) V → FitLawBox V w.heap.size q ⟨pa, pac, pb, pbc, pc, pcc⟩ l.length A a B bn bc t ci si C cn D dn := fun V hV => by
    have h2 := ((Ext.rfl' ((w.alloc (probO q ⟨pa, pac, pb, pbc, pc, pcc⟩)).alloc (libO l A a B bn bc))).al (instC t ci si C cn D dn)).tr hV
    have h1 := ((Ext.rfl' (w.alloc (probO q ⟨pa, pac, pb, pbc, pc, pcc⟩))).al (libO l A a B bn bc)).tr h2
    exact ⟨probBox h1 rfl, boxE h2 (by simp) 0 _ rfl, boxE h2 (by simp) 1 _ rfl, boxE hV (by simp) 0 _ rfl, boxE hV (by simp) 1 _ rfl, boxE hV (by simp) 2 _ rfl⟩
  have HF := hid F; clear F
  have l1 := hi.cells.len
  have l2 := hi.symbols.len
  dsimp only at l1 l2
  obtain ⟨r1, r2, hr⟩ : ∃ a b, fitsR q l pos ⟨t, ci, si⟩ = (a, b) := ⟨_, _, rfl⟩
  have m1 := fun V hV => mFits_ok V q ⟨pa, pac, pb, pbc, pc, pcc⟩ l A a B bn bc P pn pos ⟨t, ci, si⟩ ⟨C, cn, D, dn⟩ (hq.to (x0.tr hV)) (hl.to (x0.tr hV)) (hP.to (x0.tr hV)) (hi.to (x0.tr hV))
  have m2 := fun V hV => fits33_ok V q ⟨pa, pac, pb, pbc, pc, pcc⟩ l A a B bn bc P pn pos ⟨t, ci, si⟩ ⟨C, cn, D, dn⟩ (hq.to (x0.tr hV)) (hl.to (x0.tr hV)) (hP.to (x0.tr hV)) (hi.to (x0.tr hV))
  have fw := fun V hV => few33_ok V q ⟨pa, pac, pb, pbc, pc, pcc⟩ l A a B bn bc (hq.to (x0.tr hV)) (hl.to (x0.tr hV))
  unfold RetBE at m1 m2
  rw [hr] at m1 m2
  have M1 := hid m1; have M2 := hid m2; have Fw := hid fw; clear m1 m2 fw hr
  go_enter Try.func4, Try.ntmps4
  go_upto_region 3 with (go_at_call 9; refine (sane33_ok _).mono ?_; rintro e w1 ⟨rfl, hb1⟩)
  obtain ⟨⟨f0, f1, f2, f3, f4⟩, f5, f6, f7, f8, f9⟩ := HF.out _ hb1
  dsimp only at f2 f3 f4
  go_wp2_with fail
  refine (Fw.out _ hb1).mono ?_
  rintro e w2 ⟨bf, rfl, -, hb2⟩
  have y2 := hb1.tr hb2
  clear f0 f1 f2 f3 f4 f5 f6 f7 f8 f9
  obtain ⟨⟨f0, f1, f2, f3, f4⟩, f5, f6, f7, f8, f9⟩ := HF.out _ y2
  dsimp only at f2 f3 f4
  cases bf
  · go_wp2_with fail
    go_ret
    exact ⟨rfl, x0.tr y2⟩
  by_cases hm : (40 : Int) < (ci.length : Int) + si.length
  · go_wp2_with fail
    go_ret
    exact ⟨rfl, x0.tr y2⟩
  go_wp2_with fail
  refine (M1.out _ y2).mono ?_
  rintro e w3 ⟨rfl, hb3⟩
  have y3 := y2.tr hb3
  clear f0 f1 f2 f3 f4 f5 f6 f7 f8 f9
  obtain ⟨⟨f0, f1, f2, f3, f4⟩, f5, f6, f7, f8, f9⟩ := HF.out _ y3
  dsimp only at f2 f3 f4
  go_wp2_with fail
  refine (M2.out _ y3).mono ?_
  rintro e w4 ⟨rfl, hb4⟩
  have y4 := y3.tr hb4
  clear f0 f1 f2 f3 f4 f5 f6 f7 f8 f9
  go_wp2_with fail
  go_ret
  exact ⟨rfl, x0.tr y4⟩
end Go.Proofs.Ytimkijmjbnmcbaa
