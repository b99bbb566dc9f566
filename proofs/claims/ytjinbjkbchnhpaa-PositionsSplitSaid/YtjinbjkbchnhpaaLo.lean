/- The law PositionsOrder, walked. -/
import Derived.Test.YtjinbjkbchnhpaaLs
import Derived.Test.YtjinbjkbchnhpaaPo
namespace Go.Proofs.Ytjinbjkbchnhpaa
open Go.RowKit
theorem rem_v {w : World} {q : Problem} {p : PPtr} {A : Option Addr} {c n : Nat} {pos : List Int} {cell symbol : Int} (h : RProb w q p) (hp : RInts w A pos) (hn : pos.length = n) (hB : checkB q pos = true) (h2 : 0 ≤ cell ∧ cell < q.cells ∧ 0 ≤ symbol ∧ symbol < q.symbols) :
    Calls Try.prog 15 #[probV q p, .slice A n c, .int .i64 cell, .int .i64 symbol] w (RetIE w (upon pos cell.toNat (without symbol)) 0) := by
  subst hn
  have := pRemove_ok w q p A c pos cell symbol h hp
  rw [(chgL_upon hB h2 id).1, (chgL_upon hB h2 _).2] at this
  exact this
theorem fix_v {w : World} {q : Problem} {p : PPtr} {A : Option Addr} {c n : Nat} {pos : List Int} {cell symbol : Int} (h : RProb w q p) (hp : RInts w A pos) (hn : pos.length = n) (hB : checkB q pos = true) (h2 : 0 ≤ cell ∧ cell < q.cells ∧ 0 ≤ symbol ∧ symbol < q.symbols) :
    Calls Try.prog 17 #[probV q p, .slice A n c, .int .i64 cell, .int .i64 symbol] w (RetIE w (upon pos cell.toNat (only symbol)) 0) := by
  subst hn
  have := pFix_ok w q p A c pos cell symbol h hp
  rw [(chgL_upon hB h2 id).1, (chgL_upon hB h2 _).2] at this
  exact this
theorem same_v {w : World} {A B : Option Addr} {c d n m : Nat} {l k : List Int} (h : RInts w A l) (g : RInts w B k) (hn : l.length = n) (hm : k.length = m) (e : l = k) : Calls Try.prog 12 #[.slice A n c, .slice B m d] w (RetV w (.bool true)) := by
  subst hn hm e; exact v_bool (same13_ext w A B c d l l h g) true (by simp)
theorem within_v {w : World} {A B : Option Addr} {c d n m : Nat} {l k : List Int} (h : RInts w A l) (g : RInts w B k) (hn : l.length = n) (hm : k.length = m) (e : withinB l k = true) : Calls Try.prog 21 #[.slice A n c, .slice B m d] w (RetV w (.bool true)) := by
  subst hn hm; exact v_bool (pWithin_ok w A B c d l k h g) true e

set_option maxRecDepth 100000 in
set_option maxHeartbeats 8000000 in
theorem lOrder_ok (w : World) (q : Problem) (p : PPtr) (P : Option Addr) (cp : Nat) (pos : List Int) (c s d t : Int) (hq : RProb w q p) (hp : RInts w P pos) (_ : I64 c) (_ : I64 s) (_ : I64 d) (_ : I64 t) :
    Calls Try.prog 7 #[probV q p, .slice P pos.length cp, .int .i64 c, .int .i64 s, .int .i64 d, .int .i64 t] w fun e w' => e = .returned (.bool true) ∧ Ext w w' := by
  have x0 := (Ext.rfl' w).al (probO q p)
  have F : ∀ W, Ext (w.alloc (probO q p)) W → ProbBox W w.heap.size q p := fun W hW => probBox hW rfl
  have HF := hid F; clear F
  have hpl := hp.len
  cases hB : checkB q pos
  · have he := checkE_no hB
    go_enter Try.func7, Try.ntmps7
    go_wp2_with fail
    refine (sane_v _).mono ?_
    rintro e w1 ⟨rfl, xx⟩
    obtain ⟨f0, f1, f2, f3, f4⟩ := HF.out _ xx
    go_wp2_with fail
    clear f0 f1 f2 f3 f4
    refine (few25_ok _ q p (hq.to (x0.tr xx))).mono ?_
    rintro e w2 ⟨b, rfl, x2⟩
    replace xx := xx.tr x2
    clear x2
    cases b
    · go_wp2_with fail
      go_ret
      exact ⟨rfl, x0.tr xx⟩
    · obtain ⟨f0, f1, f2, f3, f4⟩ := HF.out _ xx
      go_wp2_with fail
      clear f0 f1 f2 f3 f4
      refine (pCheck_ok _ q p P cp pos (hq.to (x0.tr xx)) (hp.to (x0.tr xx))).mono ?_
      rintro e w3 ⟨rfl, x3⟩
      go_wp2_with fail
      go_ret
      exact ⟨rfl, x0.tr (xx.tr x3)⟩
  · have he := checkE_ok hB
    have hbd := checkB_bd hB
    by_cases hr : (0 ≤ c ∧ c < q.cells ∧ 0 ≤ s ∧ s < q.symbols) ∧ (0 ≤ d ∧ d < q.cells ∧ 0 ≤ t ∧ t < q.symbols)
    · obtain ⟨hr1, hr2⟩ := hr
      have c1 : c.toNat < pos.length := by omega
      have d1 : d.toNat < pos.length := by omega
      have l1 := upon_len pos c.toNat (without s)
      have l2 := upon_len pos d.toNat (without t)
      have b1 := upon_ok (keep_without s) c1 hB
      have b2 := upon_ok (keep_without t) d1 hB
      have e3 := upon_comm (keep_without s).zero (keep_without t).zero (without_comm s t) c1 d1
      have e4 := upon_again (keep_without s).zero (without_again s) c1
      have e5 := upon_gone (f := without s) (keep_only s).zero (only_without s) c1
      have e6 := upon_within (keep_without s).sub c1
      have e7 : withinB (upon (upon pos c.toNat (without s)) d.toNat (without t)) (upon pos d.toNat (without t)) = true := by
        rw [e3]; exact upon_within (keep_without s).sub (by rw [l2]; exact c1)
      have l3 : (upon (upon pos c.toNat (without s)) d.toNat (without t)).length = pos.length := by rw [upon_len, l1]
      have l4 : (upon (upon pos d.toNat (without t)) c.toNat (without s)).length = pos.length := by rw [upon_len, l2]
      have hlq : (pos.length : Int) = q.cells := by omega
      have HB := hid hB; have L1 := hid l1; have L2 := hid l2; have B1 := hid b1; have B2 := hid b2; have E3 := hid e3; have E4 := hid e4; have E5 := hid e5; have E6 := hid e6; have E7 := hid e7; have L3 := hid l3; have L4 := hid l4; have R1 := hid hr1; have R2 := hid hr2
      have hln : ((pos.length : Int) != q.cells) = false := by simp [hlq]
      obtain ⟨hr1, hr3, hr5, hr7⟩ := hr1
      obtain ⟨hr2, hr4, hr6, hr8⟩ := hr2
      clear hB l1 l2 b1 b2 e3 e4 e5 e6 e7 l3 l4 hlq
      go_enter Try.func7, Try.ntmps7
      go_wp2_with fail
      refine (sane_v _).mono ?_
      rintro e w1 ⟨rfl, xx⟩
      obtain ⟨f0, f1, f2, f3, f4⟩ := HF.out _ xx
      go_wp2_with fail
      clear f0 f1 f2 f3 f4
      refine (few25_ok _ q p (hq.to (x0.tr xx))).mono ?_
      rintro e w2 ⟨b, rfl, x2⟩
      replace xx := xx.tr x2
      clear x2
      cases b
      · go_wp2_with fail
        go_ret
        exact ⟨rfl, x0.tr xx⟩
      · obtain ⟨f0, f1, f2, f3, f4⟩ := HF.out _ xx
        go_wp2_with fail
        clear f0 f1 f2 f3 f4
        refine (pCheck_ok _ q p P cp pos (hq.to (x0.tr xx)) (hp.to (x0.tr xx))).mono ?_
        rintro e w3 ⟨rfl, x3⟩
        rw [he]
        replace xx := xx.tr x3
        clear x3
        obtain ⟨f0, f1, f2, f3, f4⟩ := HF.out _ xx
        go_wp2_with fail
        clear f0 f1 f2 f3 f4
        refine (rem_v (hq.to (x0.tr xx)) (hp.to (x0.tr xx)) rfl HB.out R1.out).mono ?_
        rintro e w4 ⟨A, ca, rfl, hA, x4⟩
        rw [L1.out]
        replace xx := xx.tr x4
        clear x4
        obtain ⟨f0, f1, f2, f3, f4⟩ := HF.out _ xx
        go_wp2_with fail
        clear f0 f1 f2 f3 f4
        refine (rem_v (hq.to (x0.tr xx)) (hp.to (x0.tr xx)) rfl HB.out R2.out).mono ?_
        rintro e w5 ⟨B, cb, rfl, hBB, x5⟩
        rw [L2.out]
        replace hA := hA.to x5
        replace xx := xx.tr x5
        clear x5
        obtain ⟨f0, f1, f2, f3, f4⟩ := HF.out _ xx
        go_wp2_with fail
        clear f0 f1 f2 f3 f4
        refine (rem_v (hq.to (x0.tr xx)) hA L1.out B1.out R2.out).mono ?_
        rintro e w6 ⟨AB, cab, rfl, hAB, x6⟩
        rw [L3.out]
        replace hA := hA.to x6
        replace hBB := hBB.to x6
        replace xx := xx.tr x6
        clear x6
        obtain ⟨f0, f1, f2, f3, f4⟩ := HF.out _ xx
        go_wp2_with fail
        clear f0 f1 f2 f3 f4
        refine (rem_v (hq.to (x0.tr xx)) hBB L2.out B2.out R1.out).mono ?_
        rintro e w7 ⟨BA, cba, rfl, hBA, x7⟩
        rw [L4.out]
        replace hA := hA.to x7
        replace hBB := hBB.to x7
        replace hAB := hAB.to x7
        replace xx := xx.tr x7
        clear x7
        obtain ⟨f0, f1, f2, f3, f4⟩ := HF.out _ xx
        go_wp2_with fail
        clear f0 f1 f2 f3 f4
        refine (rem_v (hq.to (x0.tr xx)) hA L1.out B1.out R1.out).mono ?_
        rintro e w8 ⟨AA, caa, rfl, hAA, x8⟩
        rw [E4.out] at hAA ⊢
        rw [L1.out]
        replace hA := hA.to x8
        replace hBB := hBB.to x8
        replace hAB := hAB.to x8
        replace hBA := hBA.to x8
        replace xx := xx.tr x8
        clear x8
        obtain ⟨f0, f1, f2, f3, f4⟩ := HF.out _ xx
        go_wp2_with fail
        clear f0 f1 f2 f3 f4
        refine (fix_v (hq.to (x0.tr xx)) hA L1.out B1.out R1.out).mono ?_
        rintro e w9 ⟨Z, cz, rfl, hZ, x9⟩
        rw [E5.out] at hZ ⊢
        rw [List.length_replicate]
        replace hA := hA.to x9
        replace hBB := hBB.to x9
        replace hAB := hAB.to x9
        replace hBA := hBA.to x9
        replace hAA := hAA.to x9
        replace xx := xx.tr x9
        clear x9
        obtain ⟨f0, f1, f2, f3, f4⟩ := HF.out _ xx
        go_wp2_with fail
        clear f0 f1 f2 f3 f4
        go_loop [26, 157] (fun _ i => ∃ k : Nat, k ≤ pos.length ∧ i = .int .i64 k) (fun _ i => pos.length - (intOf i).toNat)
        case atStart => exact ⟨0, Nat.zero_le _, rfl⟩
        case round =>
          obtain ⟨k, hk, rfl⟩ := hrel
          by_cases hlt : k < pos.length
          · obtain ⟨ad, rfl, _, hc, _⟩ := hZ.at_ k (by simpa using hlt)
            rw [List.getElem_replicate] at hc
            go_wp2_with fail
            go_round
            case rel => exact ⟨k + 1, by omega, by go_num⟩
            case measure => simp [intOf]; omega
          · go_wp2_with fail
            refine (same_v hAB hBA L3.out L4.out E3.out).mono ?_
            rintro e w10 ⟨rfl, x10⟩
            replace hA := hA.to x10
            replace hBB := hBB.to x10
            replace hAB := hAB.to x10
            replace hAA := hAA.to x10
            replace xx := xx.tr x10
            clear x10
            go_wp2_with fail
            refine (same_v hAA hA L1.out L1.out rfl).mono ?_
            rintro e w11 ⟨rfl, x11⟩
            replace hA := hA.to x11
            replace hBB := hBB.to x11
            replace hAB := hAB.to x11
            replace xx := xx.tr x11
            clear x11
            go_wp2_with fail
            refine (within_v hA (hp.to (x0.tr xx)) L1.out rfl E6.out).mono ?_
            rintro e w12 ⟨rfl, x12⟩
            replace hBB := hBB.to x12
            replace hAB := hAB.to x12
            replace xx := xx.tr x12
            clear x12
            go_wp2_with fail
            refine (within_v hAB hBB L3.out L2.out E7.out).mono ?_
            rintro e w13 ⟨rfl, x13⟩
            replace xx := xx.tr x13
            go_wp2_with fail
            go_ret
            exact ⟨rfl, x0.tr xx⟩
    · go_enter Try.func7, Try.ntmps7
      go_wp2_with fail
      refine (sane_v _).mono ?_
      rintro e w1 ⟨rfl, xx⟩
      obtain ⟨f0, f1, f2, f3, f4⟩ := HF.out _ xx
      go_wp2_with fail
      clear f0 f1 f2 f3 f4
      refine (few25_ok _ q p (hq.to (x0.tr xx))).mono ?_
      rintro e w2 ⟨b, rfl, x2⟩
      replace xx := xx.tr x2
      clear x2
      cases b
      · go_wp2_with fail
        go_ret
        exact ⟨rfl, x0.tr xx⟩
      · obtain ⟨f0, f1, f2, f3, f4⟩ := HF.out _ xx
        go_wp2_with fail
        clear f0 f1 f2 f3 f4
        refine (pCheck_ok _ q p P cp pos (hq.to (x0.tr xx)) (hp.to (x0.tr xx))).mono ?_
        rintro e w3 ⟨rfl, x3⟩
        rw [he]
        replace xx := xx.tr x3
        obtain ⟨f0, f1, f2, f3, f4⟩ := HF.out _ xx
        go_wp2_with fail
        all_goals first
          | (go_ret; exact ⟨rfl, x0.tr xx⟩)
          | (exfalso; omega)
end Go.Proofs.Ytjinbjkbchnhpaa
