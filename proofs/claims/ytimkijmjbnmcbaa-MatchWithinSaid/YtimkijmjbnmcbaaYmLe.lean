/- Contract: the law on positions within others holds. -/
import Derived.Test.YtimkijmjbnmcbaaYmOq
import Derived.Test.YtimkijmjbnmcbaaYmLb
namespace Go.Proofs.Ytimkijmjbnmcbaa
open Go Go.RowKit
set_option maxRecDepth 100000 in
set_option maxHeartbeats 8000000 in
theorem lWithin_ok (w : World) (q : Problem) (p : PPtr) (l : List Rule) (A : Option Addr) (a : Nat) (B : Option Addr) (bn bc : Nat) (P : Option Addr) (pn : Nat) (pos : List Int) (L : Option Addr) (ln : Nat) (less : List Int) (i : Inst) (z : IPtr) (hq : RProb w q p) (hl : RRules w A l) (hP : RInts w P pos) (hL : RInts w L less) (hi : RInstP w i z) :
    Calls Try.prog 7 #[probV q p, libW l A a B bn bc, .slice P pos.length pn, .slice L less.length ln, instW i z] w fun e w' => e = .returned (.bool true) ∧ Ext w w' := by
  obtain ⟨pa, pac, pb, pbc, pc, pcc⟩ := p
  obtain ⟨t, ci, si⟩ := i
  obtain ⟨C, cn, D, dn⟩ := z
  have x0 := (((Ext.rfl' w).al (probO q ⟨pa, pac, pb, pbc, pc, pcc⟩)).al (libO l A a B bn bc)).al (instC t ci si C cn D dn)
  have F : ∀ V, Ext (((w.alloc (probO q ⟨pa, pac, pb, pbc, pc, pcc⟩)).alloc (libO l A a B bn bc)).alloc (instC t ci si C cn D dn)) V → FitLawBox V w.heap.size q ⟨pa, pac, pb, pbc, pc, pcc⟩ l.length A a B bn bc t ci si C cn D dn := fun V hV => by
    have h2 := ((Ext.rfl' ((w.alloc (probO q ⟨pa, pac, pb, pbc, pc, pcc⟩)).alloc (libO l A a B bn bc))).al (instC t ci si C cn D dn)).tr hV
    have h1 := ((Ext.rfl' (w.alloc (probO q ⟨pa, pac, pb, pbc, pc, pcc⟩))).al (libO l A a B bn bc)).tr h2
    exact ⟨probBox h1 rfl, boxE h2 (by simp) 0 _ rfl, boxE h2 (by simp) 1 _ rfl, boxE hV (by simp) 0 _ rfl, boxE hV (by simp) 1 _ rfl, boxE hV (by simp) 2 _ rfl⟩
  have HF := hid F; clear F
  have l1 := hi.cells.len
  have l2 := hi.symbols.len
  have l3 := hP.len
  have l4 := hL.len
  dsimp only at l1 l2
  have hn := fun h => fitsR_nar (q := q) (l := l) (pos := pos) (less := less) (i := ⟨t, ci, si⟩) hP.i64 h
  have h0 := fun h => fitsR_zero (q := q) (l := l) (pos := pos) (i := ⟨t, ci, si⟩) h
  have hd := fun h => fitsR_dead (q := q) (l := l) (pos := pos) (i := ⟨t, ci, si⟩) h
  have m1 := fun V hV => mFits_ok V q ⟨pa, pac, pb, pbc, pc, pcc⟩ l A a B bn bc P pn pos ⟨t, ci, si⟩ ⟨C, cn, D, dn⟩ (hq.to (x0.tr hV)) (hl.to (x0.tr hV)) (hP.to (x0.tr hV)) (hi.to (x0.tr hV))
  have m2 := fun V hV X xc h => mFits_ok V q ⟨pa, pac, pb, pbc, pc, pcc⟩ l A a B bn bc X xc (narL pos less) ⟨t, ci, si⟩ ⟨C, cn, D, dn⟩ (hq.to (x0.tr hV)) (hl.to (x0.tr hV)) h (hi.to (x0.tr hV))
  have fw := fun V hV => few33_ok V q ⟨pa, pac, pb, pbc, pc, pcc⟩ l A a B bn bc (hq.to (x0.tr hV)) (hl.to (x0.tr hV))
  unfold RetBE at m1 m2
  obtain ⟨r1, r2, hr⟩ : ∃ a b, fitsR q l pos ⟨t, ci, si⟩ = (a, b) := ⟨_, _, rfl⟩
  rw [hr] at m1 hn h0 hd
  dsimp only at hn h0 hd
  have M1 := hid m1; have M2 := hid m2; have Fw := hid fw; clear m1 m2 fw hr
  have Hn := hid hn; have H0 := hid h0; have Hd := hid hd; clear hn h0 hd
  go_enter Try.func7, Try.ntmps7
  go_upto_region 3 with (go_at_call 9; refine (sane33_ok _).mono ?_; rintro e w1 ⟨rfl, hb1⟩)
  obtain ⟨⟨f0, f1, f2, f3, f4⟩, f5, f6, f7, f8, f9⟩ := HF.out _ hb1
  dsimp only at f2 f3 f4
  go_wp2_with fail
  refine (Fw.out _ hb1).mono ?_
  rintro e w2 ⟨bf, rfl, -, hb2⟩
  have y2 := hb1.tr hb2
  clear f0 f1 f2 f3 f4 f5 f6 f7 f8 f9
  obtain ⟨⟨f0, f1, f2, f3, f4⟩, f5, f6, f7, f8, f9⟩ := HF.out _ y2
  dsimp only at f2 f3 f4
  cases bf
  · go_wp2_with fail
    go_ret
    exact ⟨rfl, x0.tr y2⟩
  by_cases hm : (40 : Int) < (ci.length : Int) + si.length
  · go_wp2_with fail
    go_ret
    exact ⟨rfl, x0.tr y2⟩
  by_cases hlen : less.length = pos.length
  rotate_left
  · have hne : ((less.length : Int) != (pos.length : Int)) = true := by rw [bne_iff_ne]; omega
    go_wp2_with fail
    go_ret
    exact ⟨rfl, x0.tr y2⟩
  have hne : ((less.length : Int) != (pos.length : Int)) = false := by simp [hlen]
  have Hlen := hid hlen; clear hlen
  go_wp2_with fail
  clear f0 f1 f2 f3 f4 f5 f6 f7 f8 f9
  go_loopw [11, 12, 42] (fun v _ i wr => ∃ (k : Nat) (X : Option Addr) (cc : Nat), k ≤ pos.length ∧ i = .int .i64 k ∧ v = .slice X k cc ∧ OwnI wr w2.heap.size (.slice X k cc) (narTo pos less k) ∧ Ext w2 wr) (fun _ _ i _ => pos.length - (intOf i).toNat)
  case atStart => exact ⟨0, none, 0, Nat.zero_le _, rfl, rfl, OwnI.nil _ _, Ext.rfl' _⟩
  case round =>
    obtain ⟨k, X, cc, hk, rfl, rfl, hown, hx⟩ := hrel
    by_cases hlt : k < pos.length
    · have hlt2 : k < less.length := by have := Hlen.out; omega
      have yw := x0.tr (y2.tr hx)
      obtain ⟨ad, rfl, hab, hca, hvi⟩ := hP.num (by omega)
      obtain ⟨bd, rfl, hbb, hcb, _⟩ := hL.num (by omega)
      have hv : I64 (bits .and .i64 (num pos k) (num less k)) := by rw [bits_and]; exact i64_toInt _
      have Hv := hid hv; clear hv
      have Hvi := hid (hvi k hlt); clear hvi
      have F : ∀ W, Ext wr W → W.cell? (ad.add k) = some (.int .i64 (num pos k)) ∧ W.cell? (bd.add k) = some (.int .i64 (num less k)) :=
        fun W hW => ⟨cellE (yw.tr hW) (hca k hlt) (by rw [block_of_add]; exact hab), cellE (yw.tr hW) (hcb k hlt2) (by rw [block_of_add]; exact hbb)⟩
      have HG := hid F; clear F hca hcb
      have hs := narTo_succ pos less k
      unfold nar andI at hs
      go_wp2_with fail
      (refine wp_region_sf (fun _ => none) (by kernel_rfl) (by kernel_rfl) ?_); (repeat (first | (refine wpE_skipK ?_ ?_; (focus ((first | refine wanted_notF rfl rfl ?_ | refine wanted_notT rfl rfl ?_); (focus (simp only [List.getElem?_toArray, List.getElem?_cons_succ, List.getElem?_cons_zero]; done)))); intro K hK; go_simp; apply hK; clear hK K; (have hq9 : True := trivial); clear hq9) | (refine wpE_detN rfl rfl (fun K hK => ?_); apply Exists.intro; apply And.intro; (focus (rintro W ⟨hx, -⟩; obtain ⟨f0, f1⟩ := HG.out W hx; go_simp; all_goals rfl)); go_simp; apply hK; clear hK K; (have hq9 : True := trivial); clear hq9) | (refine wpE_detK rfl ?_ ?_; (focus (refine wanted_so rfl rfl ?_; (focus (simp only [List.getElem?_toArray, List.getElem?_cons_succ, List.getElem?_cons_zero]; done)))); intro K hK; apply Exists.intro; apply And.intro; (focus (rintro W ⟨hx, -⟩; obtain ⟨f0, f1⟩ := HG.out W hx; go_simp; all_goals rfl)); go_simp; apply hK; clear hK K; (have hq9 : True := trivial); clear hq9))); (apply wpE_nil); (rintro W ⟨hW, hG⟩); clear hG
      by_cases hz : bits .and .i64 (num pos k) (num less k) = 0
      · rw [if_pos hz] at hs
        have Hs := hid hs; clear hs
        obtain ⟨f0, f1⟩ := HG.out W hW
        go_wp2_with (at_builtin; refine app_one w2 (hx.tr hW) rfl _ _ rfl X k cc _ rfl (hown.to hW) _ (num pos k) rfl Hvi.out (by omega) ?_; intro C' cc' w3 hown2 hx2 _)
        go_roundw
        case rel => exact ⟨k + 1, C', cc', by omega, by go_num, rfl, hown2.as rfl Hs.out.symm, hx2⟩
        case measure => simp [intOf]; omega
      · rw [if_neg hz] at hs
        have Hs := hid hs; clear hs
        have HG2 : Hid (∀ V, Ext W V → V.cell? (ad.add k) = some (.int .i64 (num pos k)) ∧ V.cell? (bd.add k) = some (.int .i64 (num less k))) := hid fun V hV => HG.out V (hW.tr hV)
        go_wp2_with fail
        refine wp_region_sf_tail 11 (fun | 10 => some (SF.one (bits .and .i64 (num pos k) (num less k))) | _ => none) (by kernel_rfl) (by kernel_rfl) ?_
        repeat (first | (refine wpE_skipK rfl (fun K hK => ?_); go_simp; apply hK; clear hK K) | (refine wpE_detK rfl rfl (fun K hK => ?_); apply Exists.intro; apply And.intro; (focus (rintro W ⟨hx, -⟩; obtain ⟨f0, f1⟩ := HG2.out W hx; go_simp; all_goals rfl)); go_simp; apply hK; clear hK K))
        refine wpE_newK _ rfl rfl ?_ ?_
        · rintro V ⟨hV, -⟩
          go_simp
          exact ⟨(Ext.rfl' _).al _, V.heap.size, rfl, by simp, (Blk.new V _ _).cell 0⟩
        rintro _ ⟨_, gb, rfl, -⟩ K hK
        go_simp; apply hK; clear hK K
        repeat (first | (refine wpE_skipK rfl (fun K hK => ?_); go_simp; apply hK; clear hK K) | (refine wpE_detK rfl rfl (fun K hK => ?_); apply Exists.intro; apply And.intro; (focus (rintro W ⟨hx, -⟩; obtain ⟨f0, f1⟩ := HG2.out W hx; go_simp; all_goals rfl)); go_simp; apply hK; clear hK K))
        apply wpE_nil
        rintro V ⟨hV, hG⟩
        obtain ⟨_, e', hgb, hcb⟩ := (hG 10).2 rfl
        cases e'
        clear hG
        go_simp
        go_wp2_with (at_builtin; refine app_at w2 (hx.tr (hW.tr hV)) rfl _ _ rfl X k cc _ rfl (hown.to (hW.tr hV)) gb _ rfl hcb Hv.out (by omega) ?_; intro C' cc' w3 hown2 hx2 _)
        go_roundw
        case rel => exact ⟨k + 1, C', cc', by omega, by go_num, rfl, hown2.as rfl Hs.out.symm, hx2⟩
        case measure => simp [intOf]; omega
    · obtain rfl : k = pos.length := by omega
      have yw := y2.tr hx
      obtain ⟨⟨f0, f1, f2, f3, f4⟩, f5, f6, f7, f8, f9⟩ := HF.out _ yw
      dsimp only at f2 f3 f4
      go_upto_region 14 with (go_at_call 13; refine (M1.out _ yw).mono ?_; rintro e w3 ⟨rfl, hb3⟩)
      have y3 := yw.tr hb3
      clear f0 f1 f2 f3 f4 f5 f6 f7 f8 f9
      cases r1
      · go_wp2_with fail
        go_ret
        exact ⟨rfl, x0.tr y3⟩
      · have e2 := H0.out rfl
        subst e2
        have hdd := Hd.out rfl
        have hl9 : (narL pos less).length = pos.length := narTo_len _ _ _
        have hm2 := fun V hV X xc h => M2.out V hV X xc h
        rw [Hn.out rfl] at hm2
        simp only [hl9] at hm2
        have HM2 := hid hm2; clear hm2 M2
        have hr9 : RInts w3 X (narL pos less) := by
          have h9 := (hown.to hb3)
          exact (h9.as (narTo_len pos less _).symm rfl).ints
        have HR9 := hid hr9; clear hr9
        clear hl9
        go_wp2_with (go_at_call 22; refine (rDead_x _ P pn pos (hP.to (x0.tr y3)) false hdd).mono ?_; rintro e w4 ⟨rfl, rfl⟩; obtain ⟨⟨f0, f1, f2, f3, f4⟩, f5, f6, f7, f8, f9⟩ := HF.out _ y3; dsimp only at f2 f3 f4)
        refine (HM2.out _ y3 X cc HR9.out).mono ?_
        rintro e w5 ⟨rfl, hb5⟩
        go_wp2_with fail
        go_ret
        exact ⟨rfl, x0.tr (y3.tr hb5)⟩
end Go.Proofs.Ytimkijmjbnmcbaa
