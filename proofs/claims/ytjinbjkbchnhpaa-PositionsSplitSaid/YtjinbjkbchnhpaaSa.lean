/- Contract: the chapter's examples hold. -/
import Derived.Test.YtjinbjkbchnhpaaCm
import Derived.Test.YtjinbjkbchnhpaaSz
import Derived.Test.YtjinbjkbchnhpaaSo
import Derived.Test.YtjinbjkbchnhpaaOwh
namespace Go.Proofs.Ytjinbjkbchnhpaa
open Go.RowKit

def q0 : Problem := { cells := 2, symbols := 3, values := [0, 0, 0], neighbors := [[], []], cons := [] }
theorem i64_lit {l : List Int} (h : l.all (fun x => decide (-9223372036854775808 ≤ x) && decide (x ≤ 9223372036854775807)) = true) : ∀ x ∈ l, I64 x := by
  intro x hx
  have := List.all_eq_true.1 h x hx
  simp only [Bool.and_eq_true, decide_eq_true_eq] at this
  exact this
theorem ie_lit {f : Nat} {args : Array Value} {w : World} {L : List Int} {E : Int} (h : Calls Try.prog f args w (RetIE w L E)) (L' : List Int) (E' : Int) (hL : L = L') (hE : E = E') : Calls Try.prog f args w (RetIE w L' E') := by subst hL hE; exact h
theorem ib_lit {f : Nat} {args : Array Value} {w : World} {L : List Int} {E : Bool} (h : Calls Try.prog f args w (RetIB w L E)) (L' : List Int) (E' : Bool) (hL : L = L') (hE : E = E') : Calls Try.prog f args w (RetIB w L' E') := by subst hL hE; exact h
/-- One result, that is known. -/
def RetV (w : World) (v : Value) (e : Ending) (w' : World) : Prop := e = .returned v ∧ Ext w w'
theorem v_bool {f : Nat} {args : Array Value} {w : World} {b : Bool} (h : Calls Try.prog f args w fun e w' => e = .returned (.bool b) ∧ Ext w w') (b' : Bool) (hb : b = b') : Calls Try.prog f args w (RetV w (.bool b')) := by subst hb; exact h
theorem v_int {f : Nat} {args : Array Value} {w : World} {b : Int} (h : Calls Try.prog f args w fun e w' => e = .returned (.int .i64 b) ∧ Ext w w') (b' : Int) (hb : b = b') : Calls Try.prog f args w (RetV w (.int .i64 b')) := by subst hb; exact h
theorem same13_ext (w : World) (A B : Option Addr) (c d : Nat) (l m : List Int) (h : RInts w A l) (g : RInts w B m) : Calls Try.prog 12 #[.slice A l.length c, .slice B m.length d] w fun e w' => e = .returned (.bool (l == m)) ∧ Ext w w' :=
  (same13_ok w A B c d l m h g).mono fun _ _ ⟨he, _, hw⟩ => ⟨he, Ext.drw hw⟩
theorem pDead_ext (w : World) (A : Option Addr) (c : Nat) (l : List Int) (h : RInts w A l) : Calls Try.prog 22 #[.slice A l.length c] w fun e w' => e = .returned (.bool (deadB l)) ∧ Ext w w' :=
  (pDead_ok w A c l h).mono fun _ _ ⟨he, hw⟩ => ⟨he, by subst hw; exact Ext.rfl' _⟩
theorem pStart_ie (w : World) (q : Problem) (p : PPtr) (h : RProb w q p) : Calls Try.prog 10 #[probV q p] w (RetIE w (startL q) (validE q)) := pStart_ok w q p h
set_option maxRecDepth 100000 in
set_option maxHeartbeats 8000000 in
theorem sane25_ok (w : World) : Calls Try.prog 8 #[] w fun e w' => e = .returned (.bool true) ∧ Ext w w' := by
  go_enter Try.func8, Try.ntmps8
  go_wp2_with (at_make; refine make_g ERow rfl _ _ rfl 2 2 2 rfl rfl rfl rfl (by simp [maxLen]) (by decide) [] (fun w => ⟨none, 0, rfl, RInts.nil _ _⟩) rfl ?_; intro w1 ho1 hx1 _)
  have x0 : Ext w (w1.alloc (.cells #[.int .i64 2, .int .i64 3, .slice (some ⟨w.heap.size, 0, none⟩) 3 3, .slice (some ⟨w.heap.size + 1, 0, none⟩) 2 2, .slice none 0 0] 26)) := (((Ext.rfl' w).al _).tr hx1).al _
  have hq : RProb (w1.alloc (.cells #[.int .i64 2, .int .i64 3, .slice (some ⟨w.heap.size, 0, none⟩) 3 3, .slice (some ⟨w.heap.size + 1, 0, none⟩) 2 2, .slice none 0 0] 26)) q0 ⟨some ⟨w.heap.size, 0, none⟩, 3, some ⟨w.heap.size + 1, 0, none⟩, 2, none, 0⟩ :=
    RProb.to ⟨(RInts.lit w _ rfl _ [0, 0, 0] _ rfl (i64_lit rfl) (by decide)).to hx1, by have := ho1.rsl (by decide); rw [World.size_alloc] at this; exact this, ⟨by simp [q0], fun h => absurd h (by simp [q0])⟩, ⟨by simp [q0], by simp [q0]⟩, ⟨by simp [q0], by simp [q0]⟩⟩ ((Ext.rfl' _).al _)
  have hbx : Blk (w1.alloc (.cells #[.int .i64 2, .int .i64 3, .slice (some ⟨w.heap.size, 0, none⟩) 3 3, .slice (some ⟨w.heap.size + 1, 0, none⟩) 2 2, .slice none 0 0] 26)) w1.heap.size 26 #[.int .i64 2, .int .i64 3, .slice (some ⟨w.heap.size, 0, none⟩) 3 3, .slice (some ⟨w.heap.size + 1, 0, none⟩) 2 2, .slice none 0 0] := Blk.new _ _ _
  clear ho1 hx1
  generalize w1.alloc (.cells #[.int .i64 2, .int .i64 3, .slice (some ⟨w.heap.size, 0, none⟩) 3 3, .slice (some ⟨w.heap.size + 1, 0, none⟩) 2 2, .slice none 0 0] 26) = w2 at *
  have f0 := hbx.cell 0; have f1 := hbx.cell 1; have f2 := hbx.cell 2; have f3 := hbx.cell 3; have f4 := hbx.cell 4
  go_wp2_with fail
  refine (ie_lit (pStart_ie _ q0 ⟨some ⟨w.heap.size, 0, none⟩, 3, some ⟨w.heap.size + 1, 0, none⟩, 2, none, 0⟩ hq) [7, 7] 0 (by kernel_rfl) (by kernel_rfl)).mono ?_
  rintro e w3 ⟨A1, c1, rfl, rA1, hx⟩
  have y3 : Ext w2 w3 := (Ext.rfl' _).tr hx
  replace hq := hq.to y3
  replace hbx := hbx.to y3
  replace x0 := x0.tr y3
  clear hx y3
  clear f0 f1 f2 f3 f4
  have f0 := hbx.cell 0; have f1 := hbx.cell 1; have f2 := hbx.cell 2; have f3 := hbx.cell 3; have f4 := hbx.cell 4
  go_wp2_with fail
  refine (ie_lit (pRemove_ok _ q0 ⟨some ⟨w.heap.size, 0, none⟩, 3, some ⟨w.heap.size + 1, 0, none⟩, 2, none, 0⟩ A1 c1 [7, 7] 0 1 hq rA1) [5, 7] 0 (by kernel_rfl) (by kernel_rfl)).mono ?_
  rintro e w4 ⟨A2, c2, rfl, rA2, hx⟩
  have y4 : Ext w3 w4 := (Ext.rfl' _).tr hx
  replace hq := hq.to y4
  replace hbx := hbx.to y4
  replace rA1 := rA1.to y4
  replace x0 := x0.tr y4
  clear hx y4
  clear f0 f1 f2 f3 f4
  have f0 := hbx.cell 0; have f1 := hbx.cell 1; have f2 := hbx.cell 2; have f3 := hbx.cell 3; have f4 := hbx.cell 4
  go_wp2_with fail
  refine (ie_lit (pFix_ok _ q0 ⟨some ⟨w.heap.size, 0, none⟩, 3, some ⟨w.heap.size + 1, 0, none⟩, 2, none, 0⟩ A2 c2 [5, 7] 0 1 hq rA2) [0, 0] 0 (by kernel_rfl) (by kernel_rfl)).mono ?_
  rintro e w5 ⟨A3, c3, rfl, rA3, hx⟩
  have y5 : Ext w4 w5 := (Ext.rfl' _).tr hx
  replace hq := hq.to y5
  replace hbx := hbx.to y5
  replace rA1 := rA1.to y5
  replace rA2 := rA2.to y5
  replace x0 := x0.tr y5
  clear hx y5
  clear f0 f1 f2 f3 f4
  go_wp2_with fail
  refine (ie_lit (pMeet_ok _ _ _ 2 2 [5, 7] [6, 1] ((RInts.lit _ _ (by simp) _ [5, 7] _ rfl (i64_lit rfl) (by decide)).to (((Ext.rfl' _).al _))) (RInts.lit _ _ (by simp) _ [6, 1] _ rfl (i64_lit rfl) (by decide))) [4, 1] 0 (by kernel_rfl) (by kernel_rfl)).mono ?_
  rintro e w6 ⟨A4, c4, rfl, rA4, hx⟩
  have y6 : Ext w5 w6 := ((((Ext.rfl' _).al _).al _)).tr hx
  replace hq := hq.to y6
  replace hbx := hbx.to y6
  replace rA1 := rA1.to y6
  replace rA2 := rA2.to y6
  replace rA3 := rA3.to y6
  replace x0 := x0.tr y6
  clear hx y6
  go_wp2_with fail
  refine (ie_lit (pMeet_ok _ _ _ 2 2 [5, 7] [2, 7] ((RInts.lit _ _ (by simp) _ [5, 7] _ rfl (i64_lit rfl) (by decide)).to (((Ext.rfl' _).al _))) (RInts.lit _ _ (by simp) _ [2, 7] _ rfl (i64_lit rfl) (by decide))) [0, 0] 0 (by kernel_rfl) (by kernel_rfl)).mono ?_
  rintro e w7 ⟨A5, c5, rfl, rA5, hx⟩
  have y7 : Ext w6 w7 := ((((Ext.rfl' _).al _).al _)).tr hx
  replace hq := hq.to y7
  replace hbx := hbx.to y7
  replace rA1 := rA1.to y7
  replace rA2 := rA2.to y7
  replace rA3 := rA3.to y7
  replace rA4 := rA4.to y7
  replace x0 := x0.tr y7
  clear hx y7
  go_wp2_with fail
  refine (ie_lit (pMeet_ok _ none _ 0 1 [] [1] (RInts.nil _ _) (RInts.lit _ _ (by simp) _ [1] _ rfl (i64_lit rfl) (by decide))) [] 250 (by kernel_rfl) (by kernel_rfl)).mono ?_
  rintro e w8 ⟨A6, c6, rfl, rA6, hx⟩
  have y8 : Ext w7 w8 := (((Ext.rfl' _).al _)).tr hx
  replace hq := hq.to y8
  replace hbx := hbx.to y8
  replace rA1 := rA1.to y8
  replace rA2 := rA2.to y8
  replace rA3 := rA3.to y8
  replace rA4 := rA4.to y8
  replace rA5 := rA5.to y8
  replace x0 := x0.tr y8
  clear hx y8
  go_wp2_with fail
  refine (ib_lit (pSolved_ok _ _ 2 [4, 1] (RInts.lit _ _ (by simp) _ [4, 1] _ rfl (i64_lit rfl) (by decide))) [2, 0] true (by kernel_rfl) (by kernel_rfl)).mono ?_
  rintro e w9 ⟨A7, c7, rfl, rA7, hx⟩
  have y9 : Ext w8 w9 := (((Ext.rfl' _).al _)).tr hx
  replace hq := hq.to y9
  replace hbx := hbx.to y9
  replace rA1 := rA1.to y9
  replace rA2 := rA2.to y9
  replace rA3 := rA3.to y9
  replace rA4 := rA4.to y9
  replace rA5 := rA5.to y9
  replace rA6 := rA6.to y9
  replace x0 := x0.tr y9
  clear hx y9
  go_wp2_with fail
  refine (ib_lit (pSolved_ok _ none 0 [] (RInts.nil _ _)) [] true (by kernel_rfl) (by kernel_rfl)).mono ?_
  rintro e w10 ⟨A8, c8, rfl, rA8, hx⟩
  have y10 : Ext w9 w10 := (Ext.rfl' _).tr hx
  replace hq := hq.to y10
  replace hbx := hbx.to y10
  replace rA1 := rA1.to y10
  replace rA2 := rA2.to y10
  replace rA3 := rA3.to y10
  replace rA4 := rA4.to y10
  replace rA5 := rA5.to y10
  replace rA6 := rA6.to y10
  replace rA7 := rA7.to y10
  replace x0 := x0.tr y10
  clear hx y10
  go_wp2_with fail
  refine (ib_lit (pSolved_ok _ _ 1 [3] (RInts.lit _ _ (by simp) _ [3] _ rfl (i64_lit rfl) (by decide))) [] false (by kernel_rfl) (by kernel_rfl)).mono ?_
  rintro e w11 ⟨A9, c9, rfl, rA9, hx⟩
  have y11 : Ext w10 w11 := (((Ext.rfl' _).al _)).tr hx
  replace hq := hq.to y11
  replace hbx := hbx.to y11
  replace rA1 := rA1.to y11
  replace rA2 := rA2.to y11
  replace rA3 := rA3.to y11
  replace rA4 := rA4.to y11
  replace rA5 := rA5.to y11
  replace rA6 := rA6.to y11
  replace rA7 := rA7.to y11
  replace rA8 := rA8.to y11
  replace x0 := x0.tr y11
  clear hx y11
  go_wp2_with fail
  refine (v_bool (same13_ext _ A1 _ c1 2 [7, 7] [7, 7] (rA1.to (((Ext.rfl' _).al _))) (RInts.lit _ _ (by simp) _ [7, 7] _ rfl (i64_lit rfl) (by decide))) true (by kernel_rfl)).mono ?_
  rintro e w12 ⟨rfl, hx⟩
  have y12 : Ext w11 w12 := (((Ext.rfl' _).al _)).tr hx
  replace hq := hq.to y12
  replace hbx := hbx.to y12
  replace rA1 := rA1.to y12
  replace rA2 := rA2.to y12
  replace rA3 := rA3.to y12
  replace rA4 := rA4.to y12
  replace rA5 := rA5.to y12
  replace rA6 := rA6.to y12
  replace rA7 := rA7.to y12
  replace rA8 := rA8.to y12
  replace rA9 := rA9.to y12
  replace x0 := x0.tr y12
  clear hx y12
  go_wp2_with fail
  refine (v_bool (same13_ext _ A2 _ c2 2 [5, 7] [5, 7] (rA2.to (((Ext.rfl' _).al _))) (RInts.lit _ _ (by simp) _ [5, 7] _ rfl (i64_lit rfl) (by decide))) true (by kernel_rfl)).mono ?_
  rintro e w13 ⟨rfl, hx⟩
  have y13 : Ext w12 w13 := (((Ext.rfl' _).al _)).tr hx
  replace hq := hq.to y13
  replace hbx := hbx.to y13
  replace rA1 := rA1.to y13
  replace rA2 := rA2.to y13
  replace rA3 := rA3.to y13
  replace rA4 := rA4.to y13
  replace rA5 := rA5.to y13
  replace rA6 := rA6.to y13
  replace rA7 := rA7.to y13
  replace rA8 := rA8.to y13
  replace rA9 := rA9.to y13
  replace x0 := x0.tr y13
  clear hx y13
  go_wp2_with fail
  refine (v_bool (same13_ext _ A3 _ c3 2 [0, 0] [0, 0] (rA3.to (((Ext.rfl' _).al _))) (RInts.lit _ _ (by simp) _ [0, 0] _ rfl (i64_lit rfl) (by decide))) true (by kernel_rfl)).mono ?_
  rintro e w14 ⟨rfl, hx⟩
  have y14 : Ext w13 w14 := (((Ext.rfl' _).al _)).tr hx
  replace hq := hq.to y14
  replace hbx := hbx.to y14
  replace rA1 := rA1.to y14
  replace rA2 := rA2.to y14
  replace rA3 := rA3.to y14
  replace rA4 := rA4.to y14
  replace rA5 := rA5.to y14
  replace rA6 := rA6.to y14
  replace rA7 := rA7.to y14
  replace rA8 := rA8.to y14
  replace rA9 := rA9.to y14
  replace x0 := x0.tr y14
  clear hx y14
  go_wp2_with fail
  refine (v_bool (same13_ext _ A4 _ c4 2 [4, 1] [4, 1] (rA4.to (((Ext.rfl' _).al _))) (RInts.lit _ _ (by simp) _ [4, 1] _ rfl (i64_lit rfl) (by decide))) true (by kernel_rfl)).mono ?_
  rintro e w15 ⟨rfl, hx⟩
  have y15 : Ext w14 w15 := (((Ext.rfl' _).al _)).tr hx
  replace hq := hq.to y15
  replace hbx := hbx.to y15
  replace rA1 := rA1.to y15
  replace rA2 := rA2.to y15
  replace rA3 := rA3.to y15
  replace rA4 := rA4.to y15
  replace rA5 := rA5.to y15
  replace rA6 := rA6.to y15
  replace rA7 := rA7.to y15
  replace rA8 := rA8.to y15
  replace rA9 := rA9.to y15
  replace x0 := x0.tr y15
  clear hx y15
  go_wp2_with fail
  refine (v_bool (same13_ext _ A5 _ c5 2 [0, 0] [0, 0] (rA5.to (((Ext.rfl' _).al _))) (RInts.lit _ _ (by simp) _ [0, 0] _ rfl (i64_lit rfl) (by decide))) true (by kernel_rfl)).mono ?_
  rintro e w16 ⟨rfl, hx⟩
  have y16 : Ext w15 w16 := (((Ext.rfl' _).al _)).tr hx
  replace hq := hq.to y16
  replace hbx := hbx.to y16
  replace rA1 := rA1.to y16
  replace rA2 := rA2.to y16
  replace rA3 := rA3.to y16
  replace rA4 := rA4.to y16
  replace rA5 := rA5.to y16
  replace rA6 := rA6.to y16
  replace rA7 := rA7.to y16
  replace rA8 := rA8.to y16
  replace rA9 := rA9.to y16
  replace x0 := x0.tr y16
  clear hx y16
  go_wp2_with fail
  refine (v_bool (same13_ext _ A7 _ c7 2 [2, 0] [2, 0] (rA7.to (((Ext.rfl' _).al _))) (RInts.lit _ _ (by simp) _ [2, 0] _ rfl (i64_lit rfl) (by decide))) true (by kernel_rfl)).mono ?_
  rintro e w17 ⟨rfl, hx⟩
  have y17 : Ext w16 w17 := (((Ext.rfl' _).al _)).tr hx
  replace hq := hq.to y17
  replace hbx := hbx.to y17
  replace rA1 := rA1.to y17
  replace rA2 := rA2.to y17
  replace rA3 := rA3.to y17
  replace rA4 := rA4.to y17
  replace rA5 := rA5.to y17
  replace rA6 := rA6.to y17
  replace rA7 := rA7.to y17
  replace rA8 := rA8.to y17
  replace rA9 := rA9.to y17
  replace x0 := x0.tr y17
  clear hx y17
  have f0 := hbx.cell 0; have f1 := hbx.cell 1; have f2 := hbx.cell 2; have f3 := hbx.cell 3; have f4 := hbx.cell 4
  go_wp2_with fail
  refine (v_int (pCheck_ok _ q0 ⟨some ⟨w.heap.size, 0, none⟩, 3, some ⟨w.heap.size + 1, 0, none⟩, 2, none, 0⟩ A1 c1 [7, 7] hq rA1) 0 (by kernel_rfl)).mono ?_
  rintro e w18 ⟨rfl, hx⟩
  have y18 : Ext w17 w18 := (Ext.rfl' _).tr hx
  replace hq := hq.to y18
  replace hbx := hbx.to y18
  replace rA1 := rA1.to y18
  replace rA2 := rA2.to y18
  replace rA3 := rA3.to y18
  replace rA4 := rA4.to y18
  replace rA5 := rA5.to y18
  replace rA6 := rA6.to y18
  replace rA7 := rA7.to y18
  replace rA8 := rA8.to y18
  replace rA9 := rA9.to y18
  replace x0 := x0.tr y18
  clear hx y18
  clear f0 f1 f2 f3 f4
  have f0 := hbx.cell 0; have f1 := hbx.cell 1; have f2 := hbx.cell 2; have f3 := hbx.cell 3; have f4 := hbx.cell 4
  go_wp2_with fail
  refine (v_int (pCheck_ok _ q0 ⟨some ⟨w.heap.size, 0, none⟩, 3, some ⟨w.heap.size + 1, 0, none⟩, 2, none, 0⟩ _ 2 [8, 1] (hq.to (((Ext.rfl' _).al _))) (RInts.lit _ _ (by simp) _ [8, 1] _ rfl (i64_lit rfl) (by decide))) 250 (by kernel_rfl)).mono ?_
  rintro e w19 ⟨rfl, hx⟩
  have y19 : Ext w18 w19 := (((Ext.rfl' _).al _)).tr hx
  replace hq := hq.to y19
  replace hbx := hbx.to y19
  replace rA1 := rA1.to y19
  replace rA2 := rA2.to y19
  replace rA3 := rA3.to y19
  replace rA4 := rA4.to y19
  replace rA5 := rA5.to y19
  replace rA6 := rA6.to y19
  replace rA7 := rA7.to y19
  replace rA8 := rA8.to y19
  replace rA9 := rA9.to y19
  replace x0 := x0.tr y19
  clear hx y19
  clear f0 f1 f2 f3 f4
  go_wp2_with fail
  refine (v_bool (pDead_ext _ none 0 [] (RInts.nil _ _)) false (by kernel_rfl)).mono ?_
  rintro e w20 ⟨rfl, hx⟩
  have y20 : Ext w19 w20 := (Ext.rfl' _).tr hx
  replace hq := hq.to y20
  replace hbx := hbx.to y20
  replace rA1 := rA1.to y20
  replace rA2 := rA2.to y20
  replace rA3 := rA3.to y20
  replace rA4 := rA4.to y20
  replace rA5 := rA5.to y20
  replace rA6 := rA6.to y20
  replace rA7 := rA7.to y20
  replace rA8 := rA8.to y20
  replace rA9 := rA9.to y20
  replace x0 := x0.tr y20
  clear hx y20
  go_wp2_with fail
  refine (v_bool (pDead_ext _ _ 2 [1, 0] (RInts.lit _ _ (by simp) _ [1, 0] _ rfl (i64_lit rfl) (by decide))) true (by kernel_rfl)).mono ?_
  rintro e w21 ⟨rfl, hx⟩
  have y21 : Ext w20 w21 := (((Ext.rfl' _).al _)).tr hx
  replace hq := hq.to y21
  replace hbx := hbx.to y21
  replace rA1 := rA1.to y21
  replace rA2 := rA2.to y21
  replace rA3 := rA3.to y21
  replace rA4 := rA4.to y21
  replace rA5 := rA5.to y21
  replace rA6 := rA6.to y21
  replace rA7 := rA7.to y21
  replace rA8 := rA8.to y21
  replace rA9 := rA9.to y21
  replace x0 := x0.tr y21
  clear hx y21
  go_wp2_with fail
  refine (v_bool (pWithin_ok _ _ _ 2 2 [5, 0] [7, 0] ((RInts.lit _ _ (by simp) _ [5, 0] _ rfl (i64_lit rfl) (by decide)).to (((Ext.rfl' _).al _))) (RInts.lit _ _ (by simp) _ [7, 0] _ rfl (i64_lit rfl) (by decide))) true (by kernel_rfl)).mono ?_
  rintro e w22 ⟨rfl, hx⟩
  have y22 : Ext w21 w22 := ((((Ext.rfl' _).al _).al _)).tr hx
  replace hq := hq.to y22
  replace hbx := hbx.to y22
  replace rA1 := rA1.to y22
  replace rA2 := rA2.to y22
  replace rA3 := rA3.to y22
  replace rA4 := rA4.to y22
  replace rA5 := rA5.to y22
  replace rA6 := rA6.to y22
  replace rA7 := rA7.to y22
  replace rA8 := rA8.to y22
  replace rA9 := rA9.to y22
  replace x0 := x0.tr y22
  clear hx y22
  go_wp2_with fail
  refine (v_int (pSize_ok _ 5) 2 (by kernel_rfl)).mono ?_
  rintro e w23 ⟨rfl, hx⟩
  have y23 : Ext w22 w23 := (Ext.rfl' _).tr hx
  replace hq := hq.to y23
  replace hbx := hbx.to y23
  replace rA1 := rA1.to y23
  replace rA2 := rA2.to y23
  replace rA3 := rA3.to y23
  replace rA4 := rA4.to y23
  replace rA5 := rA5.to y23
  replace rA6 := rA6.to y23
  replace rA7 := rA7.to y23
  replace rA8 := rA8.to y23
  replace rA9 := rA9.to y23
  replace x0 := x0.tr y23
  clear hx y23
  go_wp2_with fail
  refine (v_int (pSize_ok _ (-1)) 64 (by kernel_rfl)).mono ?_
  rintro e w24 ⟨rfl, hx⟩
  have y24 : Ext w23 w24 := (Ext.rfl' _).tr hx
  replace hq := hq.to y24
  replace hbx := hbx.to y24
  replace rA1 := rA1.to y24
  replace rA2 := rA2.to y24
  replace rA3 := rA3.to y24
  replace rA4 := rA4.to y24
  replace rA5 := rA5.to y24
  replace rA6 := rA6.to y24
  replace rA7 := rA7.to y24
  replace rA8 := rA8.to y24
  replace rA9 := rA9.to y24
  replace x0 := x0.tr y24
  clear hx y24
  go_wp2_with fail
  go_ret
  exact ⟨rfl, x0⟩
end Go.Proofs.Ytjinbjkbchnhpaa
