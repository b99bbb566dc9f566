/- Contract: the law on Cond holds. -/
import Derived.Test.YtimkijmjbnmcbaaYm24
import Derived.Test.YtimkijmjbnmcbaaYm19
namespace Go.Proofs.Ytimkijmjbnmcbaa
open Go Go.RowKit
def LawBox (W : World) (g : Nat) (q : Problem) (p : PPtr) (c : Cond) (A : Option Addr) (a : Nat) (B : Option Addr) (b : Nat) : Prop :=
  ProbBox W g q p ∧ W.cell? ⟨g + 1, 0, none⟩ = some (.int .i64 c.kind) ∧ W.cell? ⟨g + 1, 1, none⟩ = some (.slice A c.cells.length a) ∧ W.cell? ⟨g + 1, 2, none⟩ = some (.slice B c.letters.length b) ∧ W.cell? ⟨g + 1, 3, none⟩ = some (.int .i64 c.n)
set_option maxRecDepth 100000 in
set_option maxHeartbeats 8000000 in
theorem lCondSpec_ok (w : World) (q : Problem) (p : PPtr) (P : Option Addr) (pn : Nat) (pos : List Int) (c : Cond) (A : Option Addr) (a : Nat) (B : Option Addr) (b : Nat) (C : Option Addr) (cn : Nat) (cells : List Int) (D : Option Addr) (dn : Nat) (symbols : List Int)
    (hq : RProb w q p) (hP : RInts w P pos) (hA : RInts w A c.cells) (hB : RInts w B c.letters) (hk : I64 c.kind) (hn : I64 c.n) (hC : RInts w C cells) (hcn : cells.length ≤ cn) (hD : RInts w D symbols) (hdn : symbols.length ≤ dn) :
    Calls Try.prog 3 #[probV q p, .slice P pos.length pn, condV c A a B b, .slice C cells.length cn, .slice D symbols.length dn] w fun e w' => e = .returned (.bool true) ∧ Ext w w' := by
  have x0 := ((Ext.rfl' w).al (probO q p)).al (condO c A a B b)
  have F : ∀ V, Ext ((w.alloc (probO q p)).alloc (condO c A a B b)) V → LawBox V w.heap.size q p c A a B b := fun V hV =>
    ⟨probBox (((Ext.rfl' _).al _).tr hV) rfl, boxE hV (by simp) 0 _ rfl, boxE hV (by simp) 1 _ rfl, boxE hV (by simp) 2 _ rfl, boxE hV (by simp) 3 _ rfl⟩
  have HF := hid F; clear F
  obtain ⟨pa, pac, pb, pbc, pc, pcc⟩ := p
  have l1 := hA.len
  have l2 := hB.len
  have l3 := hC.len
  have l4 := hD.len
  obtain ⟨r1, r2, hr⟩ : ∃ a b, condR q pos c cells symbols = (a, b) := ⟨_, _, rfl⟩
  have m1 := fun V hV => mCond_ok V q ⟨pa, pac, pb, pbc, pc, pcc⟩ P pn pos c A a B b C cn D dn cells symbols (hq.to (x0.tr hV)) (hP.to (x0.tr hV)) (hA.to (x0.tr hV)) (hB.to (x0.tr hV)) hk hn (hC.to (x0.tr hV)) (hD.to (x0.tr hV))
  have m2 := fun V hV => cond33_ok V q ⟨pa, pac, pb, pbc, pc, pcc⟩ P pn pos c A a B b C cn D dn cells symbols (hq.to (x0.tr hV)) (hP.to (x0.tr hV)) (hA.to (x0.tr hV)) (hB.to (x0.tr hV)) (hC.to (x0.tr hV)) hcn (hD.to (x0.tr hV)) hdn
  have fw := fun V hV => few33_ok V q ⟨pa, pac, pb, pbc, pc, pcc⟩ [] none 0 none 0 0 (hq.to (x0.tr hV)) ⟨by simp, fun h => absurd h (by simp)⟩
  unfold RetBE at m1 m2
  rw [hr] at m1 m2
  have M1 := hid m1; have M2 := hid m2; have Fw := hid fw; clear m1 m2 fw hr
  go_enter Try.func3, Try.ntmps3
  go_upto_region 3 with (go_at_call 9; refine (sane33_ok _).mono ?_; rintro e w1 ⟨rfl, hb1⟩)
  obtain ⟨⟨f0, f1, f2, f3, f4⟩, f5, f6, f7, f8⟩ := HF.out _ hb1
  dsimp only at f2 f3 f4
  go_wp2_with fail
  refine (Fw.out _ hb1).mono ?_
  rintro e w2 ⟨bf, rfl, -, hb2⟩
  have y2 := hb1.tr hb2
  clear f0 f1 f2 f3 f4 f5 f6 f7 f8
  obtain ⟨⟨f0, f1, f2, f3, f4⟩, f5, f6, f7, f8⟩ := HF.out _ y2
  dsimp only at f2 f3 f4
  cases bf
  · go_wp2_with fail
    go_ret
    exact ⟨rfl, x0.tr y2⟩
  by_cases hm : (40 : Int) < (c.cells.length : Int) + c.letters.length + cells.length + symbols.length
  · go_wp2_with fail
    go_ret
    exact ⟨rfl, x0.tr y2⟩
  go_wp2_with fail
  refine (M1.out _ y2).mono ?_
  rintro e w3 ⟨rfl, hb3⟩
  have y3 := y2.tr hb3
  clear f0 f1 f2 f3 f4 f5 f6 f7 f8
  obtain ⟨⟨f0, f1, f2, f3, f4⟩, f5, f6, f7, f8⟩ := HF.out _ y3
  dsimp only at f2 f3 f4
  go_wp2_with fail
  refine (M2.out _ y3).mono ?_
  rintro e w4 ⟨rfl, hb4⟩
  have y4 := y3.tr hb4
  clear f0 f1 f2 f3 f4 f5 f6 f7 f8
  go_wp2_with fail
  go_ret
  exact ⟨rfl, x0.tr y4⟩
end Go.Proofs.Ytimkijmjbnmcbaa
