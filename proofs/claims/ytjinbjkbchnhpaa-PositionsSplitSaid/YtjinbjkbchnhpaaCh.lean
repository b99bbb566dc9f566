/- Contract: problems are checked (the reference's text). -/
import Derived.Test.YtjinbjkbchnhpaaCf
import Derived.Test.YtjinbjkbchnhpaaCg
import Derived.Test.YtjinbjkbchnhpaaSf
namespace Go.Proofs.Ytjinbjkbchnhpaa
open Go.RowKit

set_option maxRecDepth 100000 in
set_option maxHeartbeats 2000000 in
theorem valid19_ok (w : World) (q : Problem) (p : PPtr) (h : RProb w q p) :
    Calls Try.prog 26 #[probV q p] w fun e w' => e = .returned (.int .i64 (validE q)) ∧ Ext w w' := by
  have hv := h.values.len
  have hn := h.neighbors.len
  have hc := h.cons.len
  have x0 := (Ext.rfl' w).al (probO q p)
  have hge := gErr_ne q.neighbors
  go_enter Try.func26, Try.ntmps26
  go_wp2_with (first
    | (go_at_call 40; refine (between19_ok _ _ _ _ (h.values.to x0) _ _).mono ?_; rintro e w1 ⟨rfl, rfl⟩)
    | (go_at_call 41; refine (check12_ok _ _ _ _ (h.neighbors.to x0)).mono ?_; rintro e w2 ⟨rfl, rfl⟩))
  all_goals first
    | (go_ret
       refine ⟨ret_int ?_, x0⟩
       go_light
       symm
       exact validE_bad (by grind [validB]))
    | skip
  have hb : Hid ((decide (1 ≤ q.cells ∧ q.cells ≤ 256 ∧ 1 ≤ q.symbols ∧ q.symbols ≤ 16 ∧ (q.values.length : Int) = q.symbols ∧ (q.neighbors.length : Int) = q.cells ∧ q.cons.length ≤ 4096) && inB 0 99 q.values && gOk q.neighbors) = true) := by
    go_light
    show _ = true
    grind
  go_loopw [3] (fun i wr => ∃ k : Nat, k ≤ q.cons.length ∧ i = .int .i64 k ∧ Hid ((q.cons.take k).all (fineB q.cells q.symbols) = true) ∧ Ext (w.alloc (probO q p)) wr) (fun i _ => q.cons.length - (intOf i).toNat)
  case atStart => exact ⟨0, Nat.zero_le _, rfl, rfl, Ext.rfl' _⟩
  case round =>
    obtain ⟨k, hk, rfl, hno, hx⟩ := hrel
    obtain ⟨f0, f1, f2, f3, f4⟩ := probBox hx rfl
    by_cases hlt : k < q.cons.length
    · go_wp2_with fail
      obtain ⟨ad, B, b, C, cc, hpc, hlt0, hB, hC, hok, h0, h1, h2, h3, h4, h5, h6, h7, h8⟩ := (h.cons.to (x0.tr hx)).consLoad k hlt
      obtain ⟨pa, pac, pb, pbc, pc, pcc⟩ := p
      dsimp only at hpc
      subst hpc
      have F : ∀ W, Ext wr W → ProbBox W w.heap.size q ⟨pa, pac, pb, pbc, some ad, pcc⟩ ∧ ConsAt W (ad.add (k * 9)) q.cons[k] B b C cc := fun W hW => ⟨probBox (hx.tr hW) rfl, ConsAt.keep hW (by rw [block_of_add]; exact hlt0) ⟨h0, h1, h2, h3, h4, h5, h6, h7, h8⟩⟩
      have HF := hid F; clear F
      clear h0 h1 h2 h3 h4 h5 h6 h7 h8 f0 f1 f2 f3 f4
      have hok' := hid hok; clear hok
      have hbd : 1 ≤ q.cells ∧ q.cells ≤ 256 ∧ 1 ≤ q.symbols ∧ q.symbols ≤ 16 := by
        have := hb.out; simp only [Bool.and_eq_true, decide_eq_true_eq] at this; omega
      have hbd' := hid hbd; clear hbd
      refine wp_region_sf (fun | 9 => some (SF.val (.bool (fineB q.cells q.symbols q.cons[k]))) | _ => none) (by kernel_rfl) (by kernel_rfl) ?_
      repeat (first | (refine wpE_skipK rfl (fun K hK => ?_); go_simp; apply hK; clear hK K) | (refine wpE_detK rfl rfl (fun K hK => ?_); apply Exists.intro; apply And.intro; (focus (rintro W ⟨hx, -⟩; obtain ⟨⟨f0, f1, f2, f3, f4⟩, h0, h1, h2, h3, h4, h5, h6, h7, h8⟩ := HF.out W hx; go_simp; all_goals rfl)); go_simp; apply hK; clear hK K))
      refine wpE_newK _ rfl rfl ?_ ?_
      · rintro W ⟨hW, -⟩
        go_simp
        exact ⟨Ext.rfl' _, (fine19_ok W q.cons[k] B b C cc q.cells q.symbols (hB.to hW) (hC.to hW) hok'.out hbd'.out.1 hbd'.out.2.1 hbd'.out.2.2.1 hbd'.out.2.2.2).mono fun e W' ⟨he, hb⟩ => ⟨_, he, hb, rfl⟩⟩
      rintro _ ⟨_, rfl⟩ K hK
      go_simp; apply hK; clear hK K
      repeat (first | (refine wpE_skipK rfl (fun K hK => ?_); go_simp; apply hK; clear hK K) | (refine wpE_detK rfl rfl (fun K hK => ?_); apply Exists.intro; apply And.intro; (focus (rintro W ⟨hx, -⟩; obtain ⟨⟨f0, f1, f2, f3, f4⟩, h0, h1, h2, h3, h4, h5, h6, h7, h8⟩ := HF.out W hx; go_simp; all_goals rfl)); go_simp; apply hK; clear hK K))
      apply wpE_nil
      rintro W ⟨hW, -⟩
      go_wp2_with fail
      · have hz : (!fineB q.cells q.symbols q.cons[k]) = true := by assumption
        go_ret
        refine ⟨ret_int (validE_bad ?_).symm, (x0.tr hx).tr hW⟩
        rw [validB, all_of_at k hlt (by simpa using hz)]
        simp
      · have hz : (!fineB q.cells q.symbols q.cons[k]) = false := by assumption
        go_roundw
        case rel => exact ⟨k + 1, by omega, by go_num, all_on hlt hno (by simpa using hz), hx.tr hW⟩
        case measure => simp [intOf]; omega
    · go_wp2_with fail
      go_ret
      refine ⟨ret_int ?_, x0.tr hx⟩
      have := hb.out
      have h2 := all_end hno hlt
      symm
      unfold validE; rw [if_pos (by rw [validB, h2]; simpa using this)]
end Go.Proofs.Ytjinbjkbchnhpaa
