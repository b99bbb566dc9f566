/- The laws PositionsStartSpec and PositionsChangeSpec, walked. -/
import Derived.Test.YtjinbjkbchnhpaaSa
namespace Go.Proofs.Ytjinbjkbchnhpaa
open Go.RowKit
theorem rStart_ie (w : World) (q : Problem) (p : PPtr) (h : RProb w q p) : Calls Try.prog 11 #[probV q p] w (RetIE w (startL q) (validE q)) := rStart_ok w q p h
theorem sane_v (w : World) : Calls Try.prog 8 #[] w (RetV w (.bool true)) := sane25_ok w

set_option maxRecDepth 100000 in
set_option maxHeartbeats 4000000 in
theorem lStart_ok (w : World) (q : Problem) (p : PPtr) (P : Option Addr) (cp : Nat) (pos : List Int) (hq : RProb w q p) (hp : RInts w P pos) :
    Calls Try.prog 3 #[probV q p, .slice P pos.length cp] w fun e w' => e = .returned (.bool true) ∧ Ext w w' := by
  have x0 := (Ext.rfl' w).al (probO q p)
  have F : ∀ W, Ext (w.alloc (probO q p)) W → ProbBox W w.heap.size q p := fun W hW => probBox hW rfl
  have HF := hid F; clear F
  go_enter Try.func3, Try.ntmps3
  go_wp2_with fail
  refine (sane_v _).mono ?_
  rintro e w1 ⟨rfl, x1⟩
  obtain ⟨f0, f1, f2, f3, f4⟩ := HF.out w1 x1
  go_wp2_with fail
  refine (few25_ok _ q p (hq.to (x0.tr x1))).mono ?_
  rintro e w2 ⟨b, rfl, x2⟩
  replace x2 := x1.tr x2
  clear x1 f0 f1 f2 f3 f4
  cases b
  · go_wp2_with fail
    go_ret
    exact ⟨rfl, x0.tr x2⟩
  · obtain ⟨f0, f1, f2, f3, f4⟩ := HF.out w2 x2
    go_wp2_with fail
    refine (pStart_ie _ q p (hq.to (x0.tr x2))).mono ?_
    rintro e w3 ⟨X, cx, rfl, hX, x3⟩
    replace x3 := x2.tr x3
    clear x2 f0 f1 f2 f3 f4
    obtain ⟨f0, f1, f2, f3, f4⟩ := HF.out w3 x3
    go_wp2_with fail
    refine (rStart_ie _ q p (hq.to (x0.tr x3))).mono ?_
    rintro e w4 ⟨Y, cy, rfl, hY, x4⟩
    replace hX := hX.to x4
    replace x4 := x3.tr x4
    clear x3 f0 f1 f2 f3 f4
    have F : ∀ W, Ext w4 W → ProbBox W w.heap.size q p := fun W hW => probBox (x4.tr hW) rfl
    replace HF := hid F; clear F
    go_wp2_with fail
    refine wp_region_sf (fun | 2 => some (SF.val (.bool true)) | 11 => some (SF.val (.int .i64 (checkE q pos))) | 14 => some (SF.val (.int .i64 (checkE q pos))) | _ => none) (by kernel_rfl) (by kernel_rfl) ?_
    repeat (first | (refine wpE_skipK rfl (fun K hK => ?_); go_simp; apply hK; clear hK K) | (refine wpE_detK rfl rfl (fun K hK => ?_); apply Exists.intro; apply And.intro; (focus (rintro W ⟨hx, -⟩; obtain ⟨f0, f1, f2, f3, f4⟩ := HF.out W hx; go_simp; all_goals rfl)); go_simp; apply hK; clear hK K))
    refine wpE_newK _ rfl rfl ?_ ?_
    · rintro W ⟨hW, -⟩
      go_simp
      exact ⟨Ext.rfl' _, (v_bool (same13_ext W X Y cx cy (startL q) (startL q) (hX.to hW) (hY.to hW)) true (by simp)).mono fun e W' ⟨he, hb⟩ => ⟨_, he, hb, rfl⟩⟩
    rintro _ ⟨_, rfl⟩ K hK
    go_simp; apply hK; clear hK K
    repeat (first | (refine wpE_skipK rfl (fun K hK => ?_); go_simp; apply hK; clear hK K) | (refine wpE_detK rfl rfl (fun K hK => ?_); apply Exists.intro; apply And.intro; (focus (rintro W ⟨hx, -⟩; obtain ⟨f0, f1, f2, f3, f4⟩ := HF.out W hx; go_simp; all_goals rfl)); go_simp; apply hK; clear hK K))
    refine wpE_newK _ rfl rfl ?_ ?_
    · rintro W ⟨hW, -⟩
      go_simp
      exact ⟨Ext.rfl' _, (pCheck_ok W q p P cp pos (hq.to (x0.tr (x4.tr hW))) (hp.to (x0.tr (x4.tr hW)))).mono fun e W' ⟨he, hb⟩ => ⟨_, he, hb, rfl⟩⟩
    rintro _ ⟨_, rfl⟩ K hK
    go_simp; apply hK; clear hK K
    repeat (first | (refine wpE_skipK rfl (fun K hK => ?_); go_simp; apply hK; clear hK K) | (refine wpE_detK rfl rfl (fun K hK => ?_); apply Exists.intro; apply And.intro; (focus (rintro W ⟨hx, -⟩; obtain ⟨f0, f1, f2, f3, f4⟩ := HF.out W hx; go_simp; all_goals rfl)); go_simp; apply hK; clear hK K))
    refine wpE_newK _ rfl rfl ?_ ?_
    · rintro W ⟨hW, -⟩
      go_simp
      exact ⟨Ext.rfl' _, (rCheck_ok W q p P cp pos (hq.to (x0.tr (x4.tr hW))) (hp.to (x0.tr (x4.tr hW)))).mono fun e W' ⟨he, hb⟩ => ⟨_, he, hb, rfl⟩⟩
    rintro _ ⟨_, rfl⟩ K hK
    go_simp; apply hK; clear hK K
    repeat (first | (refine wpE_skipK rfl (fun K hK => ?_); go_simp; apply hK; clear hK K) | (refine wpE_detK rfl rfl (fun K hK => ?_); apply Exists.intro; apply And.intro; (focus (rintro W ⟨hx, -⟩; obtain ⟨f0, f1, f2, f3, f4⟩ := HF.out W hx; go_simp; all_goals rfl)); go_simp; apply hK; clear hK K))
    apply wpE_nil
    rintro W ⟨hW, -⟩
    go_wp2_with fail
    go_ret
    exact ⟨rfl, x0.tr (x4.tr hW)⟩

set_option maxRecDepth 100000 in
set_option maxHeartbeats 4000000 in
theorem lChange_ok (w : World) (q : Problem) (p : PPtr) (P : Option Addr) (cp : Nat) (pos : List Int) (cell symbol : Int) (hq : RProb w q p) (hp : RInts w P pos) (_ : I64 cell) (_ : I64 symbol) :
    Calls Try.prog 4 #[probV q p, .slice P pos.length cp, .int .i64 cell, .int .i64 symbol] w fun e w' => e = .returned (.bool true) ∧ Ext w w' := by
  have x0 := (Ext.rfl' w).al (probO q p)
  have F : ∀ W, Ext (w.alloc (probO q p)) W → ProbBox W w.heap.size q p := fun W hW => probBox hW rfl
  have HF := hid F; clear F
  go_enter Try.func4, Try.ntmps4
  go_wp2_with fail
  refine (sane_v _).mono ?_
  rintro e w1 ⟨rfl, xx⟩
  obtain ⟨f0, f1, f2, f3, f4⟩ := HF.out _ xx
  go_wp2_with fail
  clear f0 f1 f2 f3 f4
  refine (few25_ok _ q p (hq.to (x0.tr xx))).mono ?_
  rintro e w2 ⟨b, rfl, x2⟩
  replace xx := xx.tr x2
  clear x2
  cases b
  · go_wp2_with fail
    go_ret
    exact ⟨rfl, x0.tr xx⟩
  · obtain ⟨f0, f1, f2, f3, f4⟩ := HF.out _ xx
    go_wp2_with fail
    clear f0 f1 f2 f3 f4
    refine (pRemove_ok _ q p P cp pos cell symbol (hq.to (x0.tr xx)) (hp.to (x0.tr xx))).mono ?_
    rintro e w3 ⟨X, cx, rfl, hX, x3⟩
    replace xx := xx.tr x3
    clear x3
    obtain ⟨f0, f1, f2, f3, f4⟩ := HF.out _ xx
    go_wp2_with fail
    clear f0 f1 f2 f3 f4
    refine (rRemove_ok _ q p P cp pos cell symbol (hq.to (x0.tr xx)) (hp.to (x0.tr xx))).mono ?_
    rintro e w4 ⟨Y, cy, rfl, hY, x4⟩
    replace hX := hX.to x4
    replace xx := xx.tr x4
    clear x4
    obtain ⟨f0, f1, f2, f3, f4⟩ := HF.out _ xx
    go_wp2_with fail
    clear f0 f1 f2 f3 f4
    refine (pFix_ok _ q p P cp pos cell symbol (hq.to (x0.tr xx)) (hp.to (x0.tr xx))).mono ?_
    rintro e w5 ⟨U, cu, rfl, hU, x5⟩
    replace hX := hX.to x5
    replace hY := hY.to x5
    replace xx := xx.tr x5
    clear x5
    obtain ⟨f0, f1, f2, f3, f4⟩ := HF.out _ xx
    go_wp2_with fail
    clear f0 f1 f2 f3 f4
    refine (rFix_ok _ q p P cp pos cell symbol (hq.to (x0.tr xx)) (hp.to (x0.tr xx))).mono ?_
    rintro e w6 ⟨V, cv, rfl, hV, x6⟩
    replace hX := hX.to x6
    replace hY := hY.to x6
    replace hU := hU.to x6
    replace xx := xx.tr x6
    clear x6
    go_wp2_with fail
    refine (v_bool (same13_ext _ X Y cx cy _ _ hX hY) true (by simp)).mono ?_
    rintro e w7 ⟨rfl, x7⟩
    replace hU := hU.to x7
    replace hV := hV.to x7
    replace xx := xx.tr x7
    clear x7
    go_wp2_with fail
    refine (v_bool (same13_ext _ U V cu cv _ _ hU hV) true (by simp)).mono ?_
    rintro e w8 ⟨rfl, x8⟩
    go_wp2_with fail
    go_ret
    exact ⟨rfl, x0.tr (xx.tr x8)⟩
end Go.Proofs.Ytjinbjkbchnhpaa
