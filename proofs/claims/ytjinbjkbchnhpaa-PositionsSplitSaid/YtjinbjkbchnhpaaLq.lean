/- The law PositionsSplit, walked. -/
import Derived.Test.YtjinbjkbchnhpaaLo
import Derived.Test.YtjinbjkbchnhpaaPs
namespace Go.Proofs.Ytjinbjkbchnhpaa
open Go.RowKit
theorem agree_v {w : World} {A B : Option Addr} {c d n m : Nat} {a b : List Int} (h : RInts w A a) (g : RInts w B b) (hn : a.length = n) (hm : b.length = m) (v : Bool) (hv : agreeB a b = v) : Calls Try.prog 19 #[.slice A n c, .slice B m d] w fun e w' => e = .returned (.bool v) ∧ w = w' := by
  subst hn hm hv; exact agrees25_ok w A B c d a b h g
set_option maxRecDepth 100000 in
set_option maxHeartbeats 8000000 in
theorem lSplit_ok (w : World) (q : Problem) (p : PPtr) (P : Option Addr) (cp : Nat) (pos : List Int) (G : Option Addr) (cg : Nat) (g : List Int) (c s : Int) (hq : RProb w q p) (hp : RInts w P pos) (hg : RInts w G g) (_ : I64 c) (_ : I64 s) :
    Calls Try.prog 5 #[probV q p, .slice P pos.length cp, .slice G g.length cg, .int .i64 c, .int .i64 s] w fun e w' => e = .returned (.bool true) ∧ Ext w w' := by
  have x0 := (Ext.rfl' w).al (probO q p)
  have F : ∀ W, Ext (w.alloc (probO q p)) W → ProbBox W w.heap.size q p := fun W hW => probBox hW rfl
  have HF := hid F; clear F
  have hpl := hp.len
  have hgl := hg.len
  by_cases hlong : g.length ≤ 300
  · cases hB : checkB q pos
    · have he := checkE_no hB
      go_enter Try.func5, Try.ntmps5
      go_wp2_with fail
      refine (sane_v _).mono ?_
      rintro e w1 ⟨rfl, xx⟩
      obtain ⟨f0, f1, f2, f3, f4⟩ := HF.out _ xx
      go_wp2_with fail
      clear f0 f1 f2 f3 f4
      refine (few25_ok _ q p (hq.to (x0.tr xx))).mono ?_
      rintro e w2 ⟨b, rfl, x2⟩
      replace xx := xx.tr x2
      clear x2
      cases b
      · go_wp2_with fail
        go_ret
        exact ⟨rfl, x0.tr xx⟩
      · obtain ⟨f0, f1, f2, f3, f4⟩ := HF.out _ xx
        go_wp2_with fail
        clear f0 f1 f2 f3 f4
        refine (pCheck_ok _ q p P cp pos (hq.to (x0.tr xx)) (hp.to (x0.tr xx))).mono ?_
        rintro e w3 ⟨rfl, x3⟩
        go_wp2_with fail
        go_ret
        exact ⟨rfl, x0.tr (xx.tr x3)⟩
    · have he := checkE_ok hB
      have hbd := checkB_bd hB
      by_cases hr : 0 ≤ c ∧ c < q.cells ∧ 0 ≤ s ∧ s < q.symbols
      · have c1 : c.toNat < pos.length := by omega
        have l1 := upon_len pos c.toNat (without s)
        have l2 := upon_len pos c.toNat (only s)
        have e1 := agree_without (g := g) c1 (n := s) (by omega)
        have e2 := agree_only (g := g) c1 (n := s) (by omega)
        have e3 := many_all (g := g) c1 hB
        obtain ⟨n, hn⟩ : ∃ n : Nat, q.symbols = n := ⟨q.symbols.toNat, by omega⟩
        rw [show q.symbols.toNat = n by omega] at e3
        have hn16 : n ≤ 16 := by omega
        have hn1 : (n : Int) ≤ q.symbols ∧ q.symbols ≤ n := by omega
        have HB := hid hB; have L1 := hid l1; have L2 := hid l2; have E1 := hid e1; have E2 := hid e2; have E3 := hid e3; have R := hid hr; have C1 := hid c1
        have es : ∀ k : Nat, k < n → 0 ≤ c ∧ c < q.cells ∧ 0 ≤ (k : Int) ∧ (k : Int) < q.symbols := fun k hk => ⟨hr.1, hr.2.1, by omega, by omega⟩
        have Es := hid es
        obtain ⟨hr1, hr2, hr3, hr4⟩ := hr
        clear hB l1 l2 e1 e2 e3 hn c1 es
        go_enter Try.func5, Try.ntmps5
        go_wp2_with fail
        refine (sane_v _).mono ?_
        rintro e w1 ⟨rfl, xx⟩
        obtain ⟨f0, f1, f2, f3, f4⟩ := HF.out _ xx
        go_wp2_with fail
        clear f0 f1 f2 f3 f4
        refine (few25_ok _ q p (hq.to (x0.tr xx))).mono ?_
        rintro e w2 ⟨b, rfl, x2⟩
        replace xx := xx.tr x2
        clear x2
        cases b
        · go_wp2_with fail
          go_ret
          exact ⟨rfl, x0.tr xx⟩
        · obtain ⟨f0, f1, f2, f3, f4⟩ := HF.out _ xx
          go_wp2_with fail
          clear f0 f1 f2 f3 f4
          refine (pCheck_ok _ q p P cp pos (hq.to (x0.tr xx)) (hp.to (x0.tr xx))).mono ?_
          rintro e w3 ⟨rfl, x3⟩
          rw [he]
          replace xx := xx.tr x3
          clear x3
          obtain ⟨f0, f1, f2, f3, f4⟩ := HF.out _ xx
          go_wp2_with fail
          clear f0 f1 f2 f3 f4
          refine (rem_v (hq.to (x0.tr xx)) (hp.to (x0.tr xx)) rfl HB.out R.out).mono ?_
          rintro e w4 ⟨X, cx, rfl, hX, x4⟩
          rw [L1.out]
          replace xx := xx.tr x4
          clear x4
          obtain ⟨f0, f1, f2, f3, f4⟩ := HF.out _ xx
          go_wp2_with fail
          clear f0 f1 f2 f3 f4
          refine (fix_v (hq.to (x0.tr xx)) (hp.to (x0.tr xx)) rfl HB.out R.out).mono ?_
          rintro e w5 ⟨Y, cy, rfl, hY, x5⟩
          rw [L2.out]
          replace hX := hX.to x5
          replace xx := xx.tr x5
          clear x5
          obtain ⟨f0, f1, f2, f3, f4⟩ := HF.out _ xx
          go_wp2_with fail
          clear f0 f1 f2 f3 f4
          refine (agree_v (hp.to (x0.tr xx)) (hg.to (x0.tr xx)) rfl rfl _ rfl).mono ?_
          rintro e w6 ⟨rfl, rfl⟩
          obtain ⟨is, his⟩ : ∃ is, agreeB pos g = is := ⟨_, rfl⟩
          rw [his] at E1 E2 E3 ⊢
          clear his
          go_wp2_with fail
          go_loopw [16, 17, 18, 19] (fun m i _ _ wr => ∃ k : Nat, k ≤ n ∧ i = .int .i64 k ∧ m = .int .i64 (manyTo pos g c.toNat k) ∧ Ext w5 wr) (fun _ i _ _ _ => n - (intOf i).toNat)
          case atStart => exact ⟨0, Nat.zero_le _, rfl, rfl, Ext.rfl' _⟩
          case round =>
            obtain ⟨k, hk, rfl, rfl, hxr⟩ := hrel
            obtain ⟨f0, f1, f2, f3, f4⟩ := HF.out _ (xx.tr hxr)
            have hml := manyTo_le pos g c.toNat k
            by_cases hlt : k < n
            · have Hs := hid (manyTo_succ pos g c.toNat k)
              have hk16 : (k : Int) < 16 := by omega
              have hks : (k : Int) < q.symbols := by omega
              go_wp2_with fail
              refine (fix_v (hq.to (x0.tr (xx.tr hxr))) (hp.to (x0.tr (xx.tr hxr))) rfl HB.out (Es.out k hlt)).mono ?_
              rintro e w7 ⟨Z, cz, rfl, hZ, x7⟩
              clear f0 f1 f2 f3 f4
              cases ha : agreeB (upon pos c.toNat (only (k : Int))) g
              all_goals
                rw [ha] at Hs
                have Ha := hid ha
                clear ha
                go_wp2_with fail
                refine (agree_v hZ (hg.to (x0.tr (xx.tr (hxr.tr x7)))) rfl rfl _ Ha.out).mono ?_
                rintro e w8 ⟨rfl, rfl⟩
                go_wp2_with fail
                go_roundw
                case rel => exact ⟨k + 1, by omega, by go_num, by rw [Hs.out]; first | rfl | simp, hxr.tr x7⟩
                case measure => simp [intOf]; omega
            · obtain rfl : k = n := by omega
              have hks : q.symbols ≤ (k : Int) := by omega
              cases is
              · have hm : manyTo pos g c.toNat k = 0 := by rw [E3.out]; rfl
                rw [hm]
                clear hm hml E3
                go_wp2_with fail
                refine (agree_v (hX.to hxr) (hg.to (x0.tr (xx.tr hxr))) L1.out rfl false (by rw [E1.out]; rfl)).mono ?_
                rintro e w7 ⟨rfl, rfl⟩
                go_wp2_with fail
                refine (agree_v (hY.to hxr) (hg.to (x0.tr (xx.tr hxr))) L2.out rfl false (by rw [E2.out]; rfl)).mono ?_
                rintro e w7 ⟨rfl, rfl⟩
                go_wp2_with fail
                go_ret
                exact ⟨rfl, x0.tr (xx.tr hxr)⟩
              · have hm : manyTo pos g c.toNat k = 1 := by rw [E3.out]; rfl
                rw [hm]
                clear hm hml E3
                obtain ⟨b, hb⟩ : ∃ b, decide (num g c.toNat = s) = b := ⟨_, rfl⟩
                rw [hb] at E1 E2
                clear hb
                cases b
                all_goals
                  go_wp2_with fail
                  refine (agree_v (hX.to hxr) (hg.to (x0.tr (xx.tr hxr))) L1.out rfl _ E1.out).mono ?_
                  rintro e w7 ⟨rfl, rfl⟩
                  go_wp2_with fail
                  refine (agree_v (hY.to hxr) (hg.to (x0.tr (xx.tr hxr))) L2.out rfl _ E2.out).mono ?_
                  rintro e w7 ⟨rfl, rfl⟩
                  go_wp2_with fail
                  go_ret
                  exact ⟨rfl, x0.tr (xx.tr hxr)⟩
      · go_enter Try.func5, Try.ntmps5
        go_wp2_with fail
        refine (sane_v _).mono ?_
        rintro e w1 ⟨rfl, xx⟩
        obtain ⟨f0, f1, f2, f3, f4⟩ := HF.out _ xx
        go_wp2_with fail
        clear f0 f1 f2 f3 f4
        refine (few25_ok _ q p (hq.to (x0.tr xx))).mono ?_
        rintro e w2 ⟨b, rfl, x2⟩
        replace xx := xx.tr x2
        clear x2
        cases b
        · go_wp2_with fail
          go_ret
          exact ⟨rfl, x0.tr xx⟩
        · obtain ⟨f0, f1, f2, f3, f4⟩ := HF.out _ xx
          go_wp2_with fail
          clear f0 f1 f2 f3 f4
          refine (pCheck_ok _ q p P cp pos (hq.to (x0.tr xx)) (hp.to (x0.tr xx))).mono ?_
          rintro e w3 ⟨rfl, x3⟩
          rw [he]
          replace xx := xx.tr x3
          obtain ⟨f0, f1, f2, f3, f4⟩ := HF.out _ xx
          go_wp2_with fail
          all_goals first
            | (go_ret; exact ⟨rfl, x0.tr xx⟩)
            | (exfalso; omega)
  · go_enter Try.func5, Try.ntmps5
    go_wp2_with fail
    refine (sane_v _).mono ?_
    rintro e w1 ⟨rfl, xx⟩
    obtain ⟨f0, f1, f2, f3, f4⟩ := HF.out _ xx
    go_wp2_with fail
    clear f0 f1 f2 f3 f4
    refine (few25_ok _ q p (hq.to (x0.tr xx))).mono ?_
    rintro e w2 ⟨b, rfl, x2⟩
    replace xx := xx.tr x2
    clear x2
    have hg3 : (300 : Int) < g.length := by omega
    cases b
    all_goals
      go_wp2_with fail
      go_ret
      exact ⟨rfl, x0.tr xx⟩
end Go.Proofs.Ytjinbjkbchnhpaa
