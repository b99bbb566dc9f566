/- Contract: rules are checked (the reference). -/
import Derived.Deep.Onto
import Derived.Test.YtimkijmjbnmcbaaGreatYm14
import Derived.Test.YtimkijmjbnmcbaaGreatYm5
namespace Go.Proofs.YtimkijmjbnmcbaaGreat
open Go.RowKit
theorem OwnI.base_le {w : World} {base base' : Nat} {v : Value} {l : List Int} (h : OwnI w base v l) (hb : base' ≤ base) : OwnI w base' v l := ⟨h.row.mono hb, h.i64, h.len⟩
theorem validR_1 {x : Rule} (h : preR1 x = false) : validR x = false := by unfold validR; rw [h]; rfl
theorem validR_2 {x : Rule} (h : preR2 x = false) : validR x = false := by unfold validR; rw [h, Bool.and_false]; rfl
theorem validR_3 {x : Rule} {k : Nat} (hk : k < x.conds.length) (h : condB x.conds[k] x.cells.length x.letters.length = false) : validR x = false := by
  unfold validR; rw [all_of_at k hk (p := fun c => condB c x.cells.length x.letters.length) h, Bool.and_false]; rfl
theorem validR_4 {x : Rule} {k : Nat} (hk : k < x.premises.length) (h : premB x x.premises[k] = false) : validR x = false := by
  unfold validR; rw [all_of_at k hk h, Bool.and_false]; rfl
set_option maxHeartbeats 4000000 in
set_option maxRecDepth 100000 in
theorem valid30_ok (w : World) (x : Rule) (p : RPtr) (h : RulePs w x p) :
    Calls Tryz.prog 21 #[ruleV x p] w fun e w' => e = .returned (.bool (validR x)) ∧ Ext w w' := by
  have x0 := (Ext.rfl' w).al (ruleO x p)
  obtain ⟨pa, pac, pb, pbc, pc, pcc, pd, pdc⟩ := p
  obtain ⟨k1, k2, k3, k4, k5, k6, k7, k8⟩ := h.to x0
  dsimp only at k1 k2 k3 k4
  have l1 := k1.len; have l2 := k2.len; have l3 := k3.len; have l4 := k4.len
  go_enter Tryz.func21, Tryz.ntmps21
  go_upto_region 1 with fail
  go_cut [37] (fun s wx => ∃ b, s = .bool b ∧ Hid (preR1 x = !b) ∧ wx = w.alloc (ruleO x ⟨pa, pac, pb, pbc, pc, pcc, pd, pdc⟩))
  case first =>
    go_wp2_with (first
      | (go_at_call 43; refine (name10_ok _ _ k8).mono ?_; rintro e w' ⟨rfl, rfl⟩)
      | (go_at_call 44; (with_reducible refine (names30_ok _ pa _ x.cells k1 _).mono ?_); rintro e w' ⟨rfl, rfl⟩)
      | (go_at_call 44; (with_reducible refine (names30_ok _ pb _ x.letters k2 _).mono ?_); rintro e w' ⟨rfl, rfl⟩))
    all_goals (go_meet; exact ⟨_, rfl, by show _ = _; grind [preR1], rfl⟩)
  case rest =>
    obtain ⟨b, rfl, hP, rfl⟩ := hcut
    cases b
    rotate_left
    · go_wp2_with fail
      go_ret
      exact ⟨ret_bool (validR_1 hP).symm, x0⟩
    have F : ∀ W, Ext (w.alloc (ruleO x ⟨pa, pac, pb, pbc, pc, pcc, pd, pdc⟩)) W → RuleBox W w.heap.size x ⟨pa, pac, pb, pbc, pc, pcc, pd, pdc⟩ := fun W hW => ruleBox hW rfl
    have HF := hid F; clear F
    go_upto_region 3 with fail
    go_cut [61] (fun s wx => ∃ b, s = .bool b ∧ Hid (preR2 x = !b) ∧ wx = w.alloc (ruleO x ⟨pa, pac, pb, pbc, pc, pcc, pd, pdc⟩))
    case first =>
      go_wp2_with fail
      all_goals (go_meet; exact ⟨_, rfl, by show _ = _; grind [preR2], rfl⟩)
    case rest =>
      obtain ⟨b, rfl, hP2, rfl⟩ := hcut
      cases b
      rotate_left
      · go_wp2_with fail
        go_ret
        exact ⟨ret_bool (validR_2 hP2).symm, x0⟩
      go_wp2_with fail
      go_loopw [3] (fun i wr => ∃ k : Nat, k ≤ x.conds.length ∧ i = .int .i64 k ∧ Hid ((x.conds.take k).all (fun c => condB c x.cells.length x.letters.length) = true) ∧ Ext (w.alloc (ruleO x ⟨pa, pac, pb, pbc, pc, pcc, pd, pdc⟩)) wr) (fun i _ => x.conds.length - (intOf i).toNat)
      case atStart => exact ⟨0, Nat.zero_le _, rfl, rfl, Ext.rfl' _⟩
      case round =>
        obtain ⟨k, hk, rfl, hno, hx⟩ := hrel
        obtain ⟨-, -, f2, f3, f4, f5, -, -⟩ := HF.out _ hx
        dsimp only at f2 f3 f4 f5
        by_cases hlt : k < x.conds.length
        · obtain ⟨ad, B1, b1, C1, c1, hA, hab, r1, r2, -, -, y0, y1, y2, y3⟩ := k3.condAt k hlt
          subst hA
          have G : ∀ W, Ext wr W → W.cell? (ad.add (k * 4)) = some (.int .i64 x.conds[k].kind) ∧ W.cell? ⟨(ad.add (k * 4)).block, (ad.add (k * 4)).off + 1, none⟩ = some (.slice B1 x.conds[k].cells.length b1) ∧ W.cell? ⟨(ad.add (k * 4)).block, (ad.add (k * 4)).off + 2, none⟩ = some (.slice C1 x.conds[k].letters.length c1) ∧ W.cell? ⟨(ad.add (k * 4)).block, (ad.add (k * 4)).off + 3, none⟩ = some (.int .i64 x.conds[k].n) ∧
              W.cell? ⟨w.heap.size, 2, none⟩ = some (.slice pa x.cells.length pac) ∧ W.cell? ⟨w.heap.size, 3, none⟩ = some (.slice pb x.letters.length pbc) ∧ W.cell? ⟨w.heap.size, 4, none⟩ = some (.slice (some ad) x.conds.length pcc) := by
            intro W hW
            obtain ⟨-, -, f2, f3, f4, -, -, -⟩ := HF.out _ (hx.tr hW)
            have hb : (ad.add (k * 4)).block < (w.alloc (ruleO x ⟨pa, pac, pb, pbc, some ad, pcc, pd, pdc⟩)).heap.size := by rw [block_of_add]; exact hab
            exact ⟨cellE (hx.tr hW) y0 hb, cellE (hx.tr hW) y1 hb, cellE (hx.tr hW) y2 hb, cellE (hx.tr hW) y3 hb, f2, f3, f4⟩
          have HG := hid G; clear G y0 y1 y2 y3
          go_wp2_with fail
          refine wp_region_sf (fun | 11 => some (SF.val (.bool (condB x.conds[k] x.cells.length x.letters.length))) | _ => none) (by kernel_rfl) (by kernel_rfl) ?_
          repeat (first | (refine wpE_skipK ?_ ?_; (focus ((first | refine wanted_notF rfl rfl ?_ | refine wanted_notT rfl rfl ?_); (focus (simp only [List.getElem?_toArray, List.getElem?_cons_succ, List.getElem?_cons_zero]; done)))); intro K hK; go_simp; apply hK; clear hK K; (have hq9 : True := trivial); clear hq9) | (refine wpE_detN rfl rfl (fun K hK => ?_); apply Exists.intro; apply And.intro; (focus (rintro W ⟨hx, -⟩; obtain ⟨e0, e1, e2, e3, e4, e5, e6⟩ := HG.out W hx; go_simp; all_goals rfl)); go_simp; apply hK; clear hK K; (have hq9 : True := trivial); clear hq9) | (refine wpE_detK rfl ?_ ?_; (focus (refine wanted_so rfl rfl ?_; (focus (simp only [List.getElem?_toArray, List.getElem?_cons_succ, List.getElem?_cons_zero]; done)))); intro K hK; apply Exists.intro; apply And.intro; (focus (rintro W ⟨hx, -⟩; obtain ⟨e0, e1, e2, e3, e4, e5, e6⟩ := HG.out W hx; go_simp; all_goals rfl)); go_simp; apply hK; clear hK K; (have hq9 : True := trivial); clear hq9))
          (first | refine wpE_newN _ rfl rfl ?_ ?_ | (refine wpE_newK _ rfl ?_ ?_ ?_; (focus (refine wanted_so rfl rfl ?_; (focus (simp only [List.getElem?_toArray, List.getElem?_cons_succ, List.getElem?_cons_zero]; done))))))
          · rintro W ⟨hW, -⟩
            go_simp
            exact ⟨Ext.rfl' _, (cond30_ok W x.conds[k] B1 b1 C1 c1 ((r1.to hx).to hW) ((r2.to hx).to hW) _ _).mono fun e W' ⟨he, hb⟩ => ⟨_, he, hb, rfl⟩⟩
          rintro _ ⟨_, rfl⟩ K hK
          go_simp; apply hK; clear hK K; (have hq9 : True := trivial); clear hq9
          repeat (first | (refine wpE_skipK ?_ ?_; (focus ((first | refine wanted_notF rfl rfl ?_ | refine wanted_notT rfl rfl ?_); (focus (simp only [List.getElem?_toArray, List.getElem?_cons_succ, List.getElem?_cons_zero]; done)))); intro K hK; go_simp; apply hK; clear hK K; (have hq9 : True := trivial); clear hq9) | (refine wpE_detN rfl rfl (fun K hK => ?_); apply Exists.intro; apply And.intro; (focus (rintro W ⟨hx, -⟩; obtain ⟨e0, e1, e2, e3, e4, e5, e6⟩ := HG.out W hx; go_simp; all_goals rfl)); go_simp; apply hK; clear hK K; (have hq9 : True := trivial); clear hq9) | (refine wpE_detK rfl ?_ ?_; (focus (refine wanted_so rfl rfl ?_; (focus (simp only [List.getElem?_toArray, List.getElem?_cons_succ, List.getElem?_cons_zero]; done)))); intro K hK; apply Exists.intro; apply And.intro; (focus (rintro W ⟨hx, -⟩; obtain ⟨e0, e1, e2, e3, e4, e5, e6⟩ := HG.out W hx; go_simp; all_goals rfl)); go_simp; apply hK; clear hK K; (have hq9 : True := trivial); clear hq9))
          apply wpE_nil
          rintro W ⟨hW, hG⟩
          clear hG
          cases hC : condB x.conds[k] x.cells.length x.letters.length
          · go_wp2_with fail
            go_ret
            exact ⟨ret_bool (validR_3 hlt hC).symm, x0.tr (hx.tr hW)⟩
          · go_wp2_with fail
            go_roundw
            case rel => exact ⟨k + 1, by omega, by go_num, all_on hlt hno hC, hx.tr hW⟩
            case measure => simp [intOf]; omega
        · have hall := hid (all_end hno hlt)
          go_wp2_with fail
          go_loopw [4, 5] (fun l i wr => ∃ (k : Nat) (A : Option Addr) (c : Nat), k ≤ x.premises.length ∧ i = .int .i64 k ∧ l = .slice A k c ∧ OwnI wr (w.alloc (ruleO x ⟨pa, pac, pb, pbc, pc, pcc, pd, pdc⟩)).heap.size (.slice A k c) ((x.premises.take k).map (·.cell)) ∧ Hid ((x.premises.take k).all (premB x) = true) ∧ Ext (w.alloc (ruleO x ⟨pa, pac, pb, pbc, pc, pcc, pd, pdc⟩)) wr) (fun _ i _ => x.premises.length - (intOf i).toNat)
          case atStart => exact ⟨0, some ⟨wr.heap.size, 0, none⟩, 0, Nat.zero_le _, rfl, rfl, (OwnI.empty wr).base_le hx.size, rfl, hx.al _⟩
          case round =>
            clear f2 f3 f4 f5 hk hlt hno hx
            obtain ⟨k, A, ca, hk, rfl, rfl, hown, hno, hx⟩ := hrel
            obtain ⟨-, -, f2, f3, f4, f5, -, -⟩ := HF.out _ hx
            dsimp only at f2 f3 f4 f5
            by_cases hlt : k < x.premises.length
            · obtain ⟨ad, B1, b1, hA, hab, r1, r2, y0, y1⟩ := k4.premAt k hlt
              subst hA
              have hb0 : (ad.add (k * 2)).block < (w.alloc (ruleO x ⟨pa, pac, pb, pbc, pc, pcc, some ad, pdc⟩)).heap.size := by rw [block_of_add]; exact hab
              have G : ∀ W, Ext (w.alloc (ruleO x ⟨pa, pac, pb, pbc, pc, pcc, some ad, pdc⟩)) W → W.cell? (ad.add (k * 2)) = some (.int .i64 x.premises[k].cell) ∧ W.cell? ⟨(ad.add (k * 2)).block, (ad.add (k * 2)).off + 1, none⟩ = some (.slice B1 x.premises[k].letters.length b1) ∧
                  W.cell? ⟨w.heap.size, 2, none⟩ = some (.slice pa x.cells.length pac) ∧ W.cell? ⟨w.heap.size, 3, none⟩ = some (.slice pb x.letters.length pbc) ∧ W.cell? ⟨w.heap.size, 5, none⟩ = some (.slice (some ad) x.premises.length pdc) := by
                intro W hW
                obtain ⟨-, -, f2, f3, -, f5, -, -⟩ := HF.out _ hW
                exact ⟨cellE hW y0 hb0, cellE hW y1 hb0, f2, f3, f5⟩
              have ht : (x.premises.take (k + 1)).map (·.cell) = (x.premises.take k).map (·.cell) ++ [x.premises[k].cell] := by rw [List.take_succ_eq_append_getElem hlt, List.map_append]; rfl
              have Ht := hid ht; clear ht
              have g0 := cellE hx y0 hb0
              go_wp2_with (at_builtin; refine app_one (w.alloc (ruleO x ⟨pa, pac, pb, pbc, pc, pcc, some ad, pdc⟩)) hx rfl _ _ rfl A k ca _ rfl hown _ (x.premises[k].cell) rfl r2 (by omega) ?_; intro A' c' w2 hown2 hx2 hg2)
              have G2 : ∀ W, Ext w2 W → _ := fun W hW => G W (hx2.tr hW)
              have HG := hid G2; clear G G2
              cases hE : decide (x.premises[k].letters.length = 0)
              · have hE1 : ¬ x.premises[k].letters.length = 0 := of_decide_eq_false hE
                have hE2 : ((x.premises[k].letters.length : Int) == 0) = false := beq_eq_false_iff_ne.2 (by omega)
                have HE := hid hE1; clear hE hE1
                refine wp_region_sf (fun | 18 => some (SF.val (.bool (diffB x.premises[k].letters x.letters.length))) | _ => none) (by kernel_rfl) (by kernel_rfl) ?_
                repeat (first | (refine wpE_skipK ?_ ?_; (focus ((first | refine wanted_notF rfl rfl ?_ | refine wanted_notT rfl rfl ?_); (focus (simp only [List.getElem?_toArray, List.getElem?_cons_succ, List.getElem?_cons_zero]; done)))); intro K hK; go_simp; apply hK; clear hK K; (have hq9 : True := trivial); clear hq9) | (refine wpE_detN rfl rfl (fun K hK => ?_); apply Exists.intro; apply And.intro; (focus (rintro W ⟨hx, -⟩; obtain ⟨e0, e1, e2, e3, e4⟩ := HG.out W hx; go_simp; all_goals rfl)); go_simp; apply hK; clear hK K; (have hq9 : True := trivial); clear hq9) | (refine wpE_detK rfl ?_ ?_; (focus (refine wanted_so rfl rfl ?_; (focus (simp only [List.getElem?_toArray, List.getElem?_cons_succ, List.getElem?_cons_zero]; done)))); intro K hK; apply Exists.intro; apply And.intro; (focus (rintro W ⟨hx, -⟩; obtain ⟨e0, e1, e2, e3, e4⟩ := HG.out W hx; go_simp; all_goals rfl)); go_simp; apply hK; clear hK K; (have hq9 : True := trivial); clear hq9))
                (first | refine wpE_newN _ rfl rfl ?_ ?_ | (refine wpE_newK _ rfl ?_ ?_ ?_; (focus (refine wanted_so rfl rfl ?_; (focus (simp only [List.getElem?_toArray, List.getElem?_cons_succ, List.getElem?_cons_zero]; done))))))
                · rintro W ⟨hW, -⟩
                  go_simp
                  exact ⟨Ext.rfl' _, (diff30_ok W B1 b1 x.premises[k].letters (r1.to (hx2.tr hW)) _).mono fun e W' ⟨he, n, hn⟩ => ⟨_, he, by subst hn; exact (Ext.rfl' _).drN _, rfl⟩⟩
                rintro _ ⟨_, rfl⟩ K hK
                go_simp; apply hK; clear hK K; (have hq9 : True := trivial); clear hq9
                repeat (first | (refine wpE_skipK ?_ ?_; (focus ((first | refine wanted_notF rfl rfl ?_ | refine wanted_notT rfl rfl ?_); (focus (simp only [List.getElem?_toArray, List.getElem?_cons_succ, List.getElem?_cons_zero]; done)))); intro K hK; go_simp; apply hK; clear hK K; (have hq9 : True := trivial); clear hq9) | (refine wpE_detN rfl rfl (fun K hK => ?_); apply Exists.intro; apply And.intro; (focus (rintro W ⟨hx, -⟩; obtain ⟨e0, e1, e2, e3, e4⟩ := HG.out W hx; go_simp; all_goals rfl)); go_simp; apply hK; clear hK K; (have hq9 : True := trivial); clear hq9) | (refine wpE_detK rfl ?_ ?_; (focus (refine wanted_so rfl rfl ?_; (focus (simp only [List.getElem?_toArray, List.getElem?_cons_succ, List.getElem?_cons_zero]; done)))); intro K hK; apply Exists.intro; apply And.intro; (focus (rintro W ⟨hx, -⟩; obtain ⟨e0, e1, e2, e3, e4⟩ := HG.out W hx; go_simp; all_goals rfl)); go_simp; apply hK; clear hK K; (have hq9 : True := trivial); clear hq9))
                apply wpE_nil
                rintro W ⟨hW, hG⟩
                clear hG
                cases hD : diffB x.premises[k].letters x.letters.length
                · go_wp2_with fail
                  go_ret
                  exact ⟨ret_bool (validR_4 hlt (by unfold premB indicesB; rw [hD]; rfl)).symm, x0.tr (hx2.tr hW)⟩
                · go_wp2_with fail
                  go_roundw
                  case rel => exact ⟨k + 1, A', c', by omega, by go_num, rfl, (hown2.as rfl Ht.out.symm).to hW, all_on hlt hno (by unfold premB indicesB; rw [hD, decide_eq_true (by have := HE.out; omega)]; rfl), hx2.tr hW⟩
                  case measure => simp [intOf]; omega
              · have hE1 : x.premises[k].letters.length = 0 := of_decide_eq_true hE
                have hG0 := HG.out
                simp only [hE1] at hG0
                have HE := hid hE1
                have HG0 := hid hG0
                clear hE hE1 hG0
                refine wp_region_sf (fun _ => none) (by kernel_rfl) (by kernel_rfl) ?_
                repeat (first | (refine wpE_skipK ?_ ?_; (focus ((first | refine wanted_notF rfl rfl ?_ | refine wanted_notT rfl rfl ?_); (focus (simp only [List.getElem?_toArray, List.getElem?_cons_succ, List.getElem?_cons_zero]; done)))); intro K hK; go_simp; apply hK; clear hK K; (have hq9 : True := trivial); clear hq9) | (refine wpE_detN rfl rfl (fun K hK => ?_); apply Exists.intro; apply And.intro; (focus (rintro W ⟨hx, -⟩; obtain ⟨e0, e1, e2, e3, e4⟩ := HG0.out W hx; go_simp; all_goals rfl)); go_simp; apply hK; clear hK K; (have hq9 : True := trivial); clear hq9) | (refine wpE_detK rfl ?_ ?_; (focus (refine wanted_so rfl rfl ?_; (focus (simp only [List.getElem?_toArray, List.getElem?_cons_succ, List.getElem?_cons_zero]; done)))); intro K hK; apply Exists.intro; apply And.intro; (focus (rintro W ⟨hx, -⟩; obtain ⟨e0, e1, e2, e3, e4⟩ := HG0.out W hx; go_simp; all_goals rfl)); go_simp; apply hK; clear hK K; (have hq9 : True := trivial); clear hq9))
                apply wpE_nil
                rintro W ⟨hW, hG⟩
                clear hG
                go_wp2_with fail
                go_ret
                exact ⟨ret_bool (validR_4 hlt (by unfold premB indicesB; rw [decide_eq_false (by have := HE.out; omega), Bool.and_false])).symm, x0.tr (hx2.tr hW)⟩
            · have hall2 : x.premises.take k = x.premises := List.take_of_length_le (by omega)
              have hp2 := hid (all_end hno hlt)
              rw [hall2] at hown
              have hR := hown.ints
              have hk3 : k = x.premises.length := by omega
              have hcall := diff30_ok wr A ca _ hR x.cells.length
              rw [List.length_map] at hcall
              have HC := hid hcall; clear hcall hall2 hlt
              subst hk3
              go_wp2_with (go_at_call 46; (with_reducible refine HC.out.mono ?_); rintro e w' ⟨rfl, nd, rfl⟩)
              go_ret
              exact ⟨ret_bool (by unfold validR; rw [hP.out, hP2.out, hall.out, hp2.out]; rfl), x0.tr (hx.drN _)⟩
end Go.Proofs.YtimkijmjbnmcbaaGreat
