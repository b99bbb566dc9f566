/- The law PositionsMeet, walked. -/
import Derived.Test.YtjinbjkbchnhpaaSa
import Derived.Test.YtjinbjkbchnhpaaPm
namespace Go.Proofs.Ytjinbjkbchnhpaa
open Go.RowKit
theorem ext_of_eq {a b : World} (h : a = b) : Ext a b := by subst h; exact Ext.rfl' _
theorem agrees_v (w : World) (A B : Option Addr) (c d : Nat) (a b : List Int) (h : RInts w A a) (g : RInts w B b) : Calls Try.prog 19 #[.slice A a.length c, .slice B b.length d] w fun e w' => e = .returned (.bool (agreeB a b)) ∧ w = w' := agrees25_ok w A B c d a b h g
set_option maxRecDepth 100000 in
set_option maxHeartbeats 4000000 in
theorem lMeet_ok (w : World) (A : Option Addr) (ca : Nat) (a : List Int) (B : Option Addr) (cb : Nat) (b : List Int) (G : Option Addr) (cg : Nat) (g : List Int) (ha : RInts w A a) (hb : RInts w B b) (hg : RInts w G g) :
    Calls Try.prog 6 #[.slice A a.length ca, .slice B b.length cb, .slice G g.length cg] w fun e w' => e = .returned (.bool true) ∧ Ext w w' := by
  have al := ha.len
  have bl := hb.len
  have gl := hg.len
  by_cases hlen : a.length = b.length
  · have hln : ((a.length : Int) != (b.length : Int)) = false := by simp; omega
    have Hlen := hid hlen
    have r1 := meetL_len hlen
    have R1 := hid r1
    have r2 : meetE a b = 0 := if_pos hlen
    have r3 : meetE b a = 0 := if_pos hlen.symm
    have r4 := meetL_comm a b hlen
    have r5 := meetL_again hlen
    have r6 : meetE (meetL a b) a = 0 := if_pos r1
    have r7 := meet_within hlen
    have r8 := meet_within2 hlen
    clear r1
    have R2 := hid r2; have R3 := hid r3; have R4 := hid r4; have R5 := hid r5; have R6 := hid r6; have R7 := hid r7; have R8 := hid r8
    clear r2 r3 r4 r5 r6 r7 r8
    clear hlen
    by_cases hs : a.length ≤ 300 ∧ b.length ≤ 300 ∧ g.length ≤ 300
    · obtain ⟨hs1, hs2, hs3⟩ := hs
      go_enter Try.func6, Try.ntmps6
      go_wp2_with (go_at_call 8; refine (sane25_ok _).mono ?_; rintro e w1 ⟨rfl, x1⟩)
      refine (ie_lit (pMeet_ok _ A B ca cb a b (ha.to x1) (hb.to x1)) (meetL a b) 0 rfl R2.out).mono ?_
      rintro e w2 ⟨X, cx, rfl, hX, x2⟩
      rw [R1.out]
      replace x2 := x1.tr x2
      go_wp2_with fail
      refine (ie_lit (pMeet_ok _ B A cb ca b a (hb.to x2) (ha.to x2)) (meetL a b) 0 R4.out R3.out).mono ?_
      rintro e w3 ⟨Y, cy, rfl, hY, x3⟩
      rw [R1.out]
      replace hX := hX.to x3
      replace x3 := x2.tr x3
      go_wp2_with fail
      have hm := pMeet_ok w3 X A cx ca (meetL a b) a hX (ha.to x3)
      rw [R1.out] at hm
      refine (ie_lit hm (meetL a b) 0 R5.out R6.out).mono ?_
      rintro e w4 ⟨Z, cz, rfl, hZ, x4⟩
      rw [R1.out]
      replace hX := hX.to x4
      replace hY := hY.to x4
      replace x4 := x3.tr x4
      clear hm x1 x2 x3
      go_wp2_with fail
      have hm := same13_ext w4 X Y cx cy (meetL a b) (meetL a b) hX hY
      rw [R1.out] at hm
      refine (v_bool hm true (by simp)).mono ?_
      rintro e w5 ⟨rfl, x5⟩
      replace hX := hX.to x5
      replace hZ := hZ.to x5
      replace x5 := x4.tr x5
      clear hm hY x4
      go_wp2_with fail
      have hm := same13_ext w5 Z X cz cx (meetL a b) (meetL a b) hZ hX
      rw [R1.out] at hm
      refine (v_bool hm true (by simp)).mono ?_
      rintro e w6 ⟨rfl, x6⟩
      replace hX := hX.to x6
      replace x6 := x5.tr x6
      clear hm hZ x5
      go_wp2_with fail
      have hm := pWithin_ok w6 X A cx ca (meetL a b) a hX (ha.to x6)
      rw [R1.out] at hm
      refine (v_bool hm true R7.out).mono ?_
      rintro e w7 ⟨rfl, x7⟩
      replace hX := hX.to x7
      replace x7 := x6.tr x7
      clear hm x6
      go_wp2_with fail
      have hm := pWithin_ok w7 X B cx cb (meetL a b) b hX (hb.to x7)
      rw [R1.out] at hm
      refine (v_bool hm true R8.out).mono ?_
      rintro e w8 ⟨rfl, x8⟩
      replace hX := hX.to x8
      replace x8 := x7.tr x8
      clear hm x7
      -- what is within, and not dead
      have key : ∀ W, Ext w W → RInts W X (meetL a b) → Calls Try.prog 19 #[.slice X a.length cx, .slice G g.length cg] W fun e w' => e = .returned (.bool (agreeB (meetL a b) g)) ∧ W = w' := by
        intro W hW hr
        have := agrees_v W X G cx cg (meetL a b) g hr (hg.to hW)
        rwa [R1.out] at this
      have Key := hid key; clear key
      have hgrid : g.length = a.length → agreeB (meetL a b) g = (agreeB a g && agreeB b g) := fun h => meet_agree Hlen.out h
      have Hgrid := hid hgrid; clear hgrid
      cases hwi : withinB a b
      · go_wp2_with fail
        refine (v_bool (pWithin_ok w8 A B ca cb a b (ha.to x8) (hb.to x8)) _ hwi).mono ?_
        rintro e w9 ⟨rfl, x9⟩
        replace hX := hX.to x9
        replace x9 := x8.tr x9
        clear hwi x8
        by_cases hgc : g.length = a.length ∧ 0 < g.length
        · have hg1 : ((g.length : Int) != (a.length : Int)) = false := by simp; omega
          have hg2 : ((g.length : Int) == 0) = false := beq_eq_false_iff_ne.2 (by omega)
          have hg3 := Hgrid.out hgc.1
          clear hgc
          cases hga : agreeB a g
          all_goals cases hgb : agreeB b g
          all_goals
            rw [hga, hgb] at hg3
            have Hg3 := hid hg3
            have Hga := hid hga
            have Hgb := hid hgb
            clear hg3 hga hgb
            go_wp2_with (first
              | (with_reducible refine (Key.out _ x9 hX).mono ?_; rintro e w10 ⟨rfl, rfl⟩; rw [Hg3.out])
              | (with_reducible refine (agrees_v _ A G _ _ a g (ha.to x9) (hg.to x9)).mono ?_; rintro e w10 ⟨rfl, rfl⟩; rw [Hga.out])
              | (with_reducible refine (agrees_v _ B G _ _ b g (hb.to x9) (hg.to x9)).mono ?_; rintro e w10 ⟨rfl, rfl⟩; rw [Hgb.out]))
            go_ret
            exact ⟨rfl, x9⟩
        · by_cases hg0 : g.length = a.length
          · have hg1 : ((g.length : Int) != (a.length : Int)) = false := by simp; omega
            have hg2 : ((g.length : Int) == 0) = true := beq_iff_eq.2 (by omega)
            clear hg0 hgc
            go_wp2_with fail
            go_ret
            exact ⟨rfl, x9⟩
          · have hg1 : ((g.length : Int) != (a.length : Int)) = true := by simp; omega
            clear hg0 hgc
            go_wp2_with fail
            go_ret
            exact ⟨rfl, x9⟩
      · cases hdd : deadB a
        · have Hself := hid (meet_self ha.i64 hwi hdd)
          go_wp2_with fail
          refine (v_bool (pWithin_ok w8 A B ca cb a b (ha.to x8) (hb.to x8)) _ hwi).mono ?_
          rintro e w9 ⟨rfl, x9⟩
          replace hX := hX.to x9
          replace x9 := x8.tr x9
          clear hwi x8
          go_wp2_with fail
          refine (v_bool (pDead_ext w9 A ca a (ha.to x9)) _ hdd).mono ?_
          rintro e w10 ⟨rfl, x10⟩
          replace hX := hX.to x10
          replace x10 := x9.tr x10
          clear hdd x9
          go_wp2_with fail
          have hm := same13_ext w10 X A cx ca (meetL a b) a hX (ha.to x10)
          rw [R1.out] at hm
          refine (v_bool hm true (by rw [Hself.out]; simp)).mono ?_
          rintro e w11 ⟨rfl, x9⟩
          replace hX := hX.to x9
          replace x9 := x10.tr x9
          clear hm x10
          by_cases hgc : g.length = a.length ∧ 0 < g.length
          · have hg1 : ((g.length : Int) != (a.length : Int)) = false := by simp; omega
            have hg2 : ((g.length : Int) == 0) = false := beq_eq_false_iff_ne.2 (by omega)
            have hg3 := Hgrid.out hgc.1
            clear hgc
            cases hga : agreeB a g
            all_goals cases hgb : agreeB b g
            all_goals
              rw [hga, hgb] at hg3
              have Hg3 := hid hg3
              have Hga := hid hga
              have Hgb := hid hgb
              clear hg3 hga hgb
              go_wp2_with (first
                | (with_reducible refine (Key.out _ x9 hX).mono ?_; rintro e w10 ⟨rfl, rfl⟩; rw [Hg3.out])
                | (with_reducible refine (agrees_v _ A G _ _ a g (ha.to x9) (hg.to x9)).mono ?_; rintro e w10 ⟨rfl, rfl⟩; rw [Hga.out])
                | (with_reducible refine (agrees_v _ B G _ _ b g (hb.to x9) (hg.to x9)).mono ?_; rintro e w10 ⟨rfl, rfl⟩; rw [Hgb.out]))
              go_ret
              exact ⟨rfl, x9⟩
          · by_cases hg0 : g.length = a.length
            · have hg1 : ((g.length : Int) != (a.length : Int)) = false := by simp; omega
              have hg2 : ((g.length : Int) == 0) = true := beq_iff_eq.2 (by omega)
              clear hg0 hgc
              go_wp2_with fail
              go_ret
              exact ⟨rfl, x9⟩
            · have hg1 : ((g.length : Int) != (a.length : Int)) = true := by simp; omega
              clear hg0 hgc
              go_wp2_with fail
              go_ret
              exact ⟨rfl, x9⟩
        · go_wp2_with fail
          refine (v_bool (pWithin_ok w8 A B ca cb a b (ha.to x8) (hb.to x8)) _ hwi).mono ?_
          rintro e w9 ⟨rfl, x9⟩
          replace hX := hX.to x9
          replace x9 := x8.tr x9
          clear hwi x8
          go_wp2_with fail
          refine (v_bool (pDead_ext w9 A ca a (ha.to x9)) _ hdd).mono ?_
          rintro e w10 ⟨rfl, x10⟩
          replace hX := hX.to x10
          replace x9 := x9.tr x10
          clear hdd x10
          by_cases hgc : g.length = a.length ∧ 0 < g.length
          · have hg1 : ((g.length : Int) != (a.length : Int)) = false := by simp; omega
            have hg2 : ((g.length : Int) == 0) = false := beq_eq_false_iff_ne.2 (by omega)
            have hg3 := Hgrid.out hgc.1
            clear hgc
            cases hga : agreeB a g
            all_goals cases hgb : agreeB b g
            all_goals
              rw [hga, hgb] at hg3
              have Hg3 := hid hg3
              have Hga := hid hga
              have Hgb := hid hgb
              clear hg3 hga hgb
              go_wp2_with (first
                | (with_reducible refine (Key.out _ x9 hX).mono ?_; rintro e w10 ⟨rfl, rfl⟩; rw [Hg3.out])
                | (with_reducible refine (agrees_v _ A G _ _ a g (ha.to x9) (hg.to x9)).mono ?_; rintro e w10 ⟨rfl, rfl⟩; rw [Hga.out])
                | (with_reducible refine (agrees_v _ B G _ _ b g (hb.to x9) (hg.to x9)).mono ?_; rintro e w10 ⟨rfl, rfl⟩; rw [Hgb.out]))
              go_ret
              exact ⟨rfl, x9⟩
          · by_cases hg0 : g.length = a.length
            · have hg1 : ((g.length : Int) != (a.length : Int)) = false := by simp; omega
              have hg2 : ((g.length : Int) == 0) = true := beq_iff_eq.2 (by omega)
              clear hg0 hgc
              go_wp2_with fail
              go_ret
              exact ⟨rfl, x9⟩
            · have hg1 : ((g.length : Int) != (a.length : Int)) = true := by simp; omega
              clear hg0 hgc
              go_wp2_with fail
              go_ret
              exact ⟨rfl, x9⟩
    · go_enter Try.func6, Try.ntmps6
      go_wp2_with (go_at_call 8; refine (sane25_ok _).mono ?_; rintro e w1 ⟨rfl, x1⟩)
      all_goals first
        | (go_ret; exact ⟨rfl, x1⟩)
        | (exfalso; exact hs ⟨by omega, by omega, by omega⟩)
  · have hln : ((a.length : Int) != (b.length : Int)) = true := by simp; omega
    clear hlen
    go_enter Try.func6, Try.ntmps6
    go_wp2_with (go_at_call 8; refine (sane25_ok _).mono ?_; rintro e w1 ⟨rfl, x1⟩)
    all_goals
      go_ret
      exact ⟨rfl, x1⟩
end Go.Proofs.Ytjinbjkbchnhpaa
