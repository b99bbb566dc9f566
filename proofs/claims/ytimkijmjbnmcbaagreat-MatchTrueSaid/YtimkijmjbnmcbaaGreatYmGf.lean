/- Contracts: what a finished grid does to constraints, further functions of the reference. -/
import Derived.Test.YtimkijmjbnmcbaaGreatYmGe
namespace Go.Proofs.YtimkijmjbnmcbaaGreat
open Go Go.RowKit
/-- Some list is handed back. -/
def RetSome (w : World) (e : Ending) (w' : World) : Prop := ∃ (l : List Int) (X : Option Addr) (xc : Nat), e = .returned (.slice X l.length xc) ∧ RInts w' X l ∧ Ext w w'
def Num (l : List Int) (n : Int) : Prop := ∀ x ∈ l, 0 ≤ x ∧ x ≤ n
theorem num_in {l : List Int} {n : Int} (h : Num l n) (hn : 0 ≤ n) (k : Nat) : 0 ≤ num l k ∧ num l k ≤ n := by
  by_cases hk : k < l.length
  · rw [num_eq hk]; exact h _ (List.getElem_mem _)
  · have : num l k = 0 := by unfold num; rw [List.getD_eq_getElem?_getD, List.getElem?_eq_none (by omega)]; rfl
    rw [this]; omega
set_option maxHeartbeats 1000000 in
theorem apart20_ok (w : World) (a b n : Int) (ha : 0 ≤ a ∧ a ≤ 99) (hb : 0 ≤ b ∧ b ≤ 99) : Calls Tryz.prog 62 #[.int .i64 a, .int .i64 b, .int .i64 n] w fun e w' => e = .returned (.bool (decide (n ≤ a - b) || decide (n ≤ b - a))) ∧ w = w' := by
  have h1 : IntKind.i64.wrap (a - b) = a - b := IntWalk.i64_in _ ⟨by omega, by omega⟩
  have h2 : IntKind.i64.wrap (b - a) = b - a := IntWalk.i64_in _ ⟨by omega, by omega⟩
  by_cases e : n ≤ a - b
  · have Hr := hid (show (decide (n ≤ a - b) || decide (n ≤ b - a)) = true by rw [decide_eq_true e]; rfl)
    go_enter Tryz.func62, Tryz.ntmps62
    go_wp2_with fail
    go_ret
    exact ⟨ret_bool (by rw [Hr.out]), rfl⟩
  · have Hr := hid (show (decide (n ≤ a - b) || decide (n ≤ b - a)) = decide (n ≤ b - a) by rw [decide_eq_false e]; rfl)
    go_enter Tryz.func62, Tryz.ntmps62
    go_wp2_with fail
    go_ret
    exact ⟨ret_bool (by rw [Hr.out]), rfl⟩
set_option maxRecDepth 100000 in
set_option maxHeartbeats 2000000 in
theorem sum20_ok (w : World) (V A B : Option Addr) (v c d : Nat) (values grid cells : List Int) (hv : RInts w V values) (h : RInts w A grid) (g : RInts w B cells) (hs : Sym grid values.length) (hi : Idx cells grid.length) (hn : Num values 99) : Calls Tryz.prog 58 #[.slice V values.length v, .slice A grid.length c, .slice B cells.length d] w fun e w' => (∃ n, e = .returned (.int .i64 n)) ∧ w = w' := by
  have hl := h.len
  have gl := g.len
  have Hi := hid hi
  go_enter Tryz.func58, Tryz.ntmps58
  go_wp2_with fail
  go_loop [7, 8] (fun s i => ∃ (k : Nat) (n : Int), k ≤ cells.length ∧ 0 ≤ n ∧ n ≤ 99 * (k : Int) ∧ i = .int .i64 k ∧ s = .int .i64 n) (fun _ i => cells.length - (intOf i).toNat)
  case atStart => exact ⟨0, 0, Nat.zero_le _, Int.le_refl _, by omega, rfl, rfl⟩
  case round =>
    obtain ⟨k, n, hk, hn0, hn1, rfl, rfl⟩ := hrel
    by_cases hlt : k < cells.length
    · obtain ⟨ad, bd, e1, e2, hb1, F1⟩ := gridAt h g Hi.out hlt
      subst e1 e2
      obtain ⟨f0, f1⟩ := F1 w (Ext.rfl' _)
      obtain ⟨vd, e1, hb3, F3⟩ := valAt hv hs Hi.out hlt
      subst e1
      have f3 := F3 w (Ext.rfl' _)
      have hx := num_in hn (by decide) (gat grid (num cells k)).toNat
      have hw : IntKind.i64.wrap (n + num values (gat grid (num cells k)).toNat) = n + num values (gat grid (num cells k)).toNat := IntWalk.i64_in _ ⟨by omega, by omega⟩
      go_wp2_with fail
      go_round
      case rel => exact ⟨k + 1, n + num values (gat grid (num cells k)).toNat, by omega, by omega, by omega, by go_num, by go_num⟩
      case measure => simp [intOf]; omega
    · go_wp2_with fail
      go_ret
      exact ⟨⟨_, rfl⟩, rfl⟩
set_option maxRecDepth 100000 in
set_option maxHeartbeats 2000000 in
theorem runs20_ok (w : World) (A B : Option Addr) (c d : Nat) (grid cells : List Int) (set : Int) (h : RInts w A grid) (g : RInts w B cells) (hs : Sym grid 16) (hi : Idx cells grid.length) (hc : cells.length ≤ 1000000) : Calls Tryz.prog 61 #[.slice A grid.length c, .slice B cells.length d, .int .i64 set] w (RetSome w) := by
  have hl := h.len
  have gl := g.len
  have Hi := hid hi
  go_enter Tryz.func61, Tryz.ntmps61
  go_upto_region 11 with fail
  go_loopw [7, 8, 9] (fun o n i wr => ∃ (k : Nat) (m : Nat) (l : List Int) (X : Option Addr) (xc : Nat), k ≤ cells.length ∧ m ≤ k ∧ l.length ≤ k ∧ i = .int .i64 k ∧ n = .int .i64 m ∧ o = .slice X l.length xc ∧ OwnI wr w.heap.size (.slice X l.length xc) l ∧ Ext w wr) (fun _ _ i _ => cells.length - (intOf i).toNat)
  case atStart => exact ⟨0, 0, [], none, 0, Nat.zero_le _, Nat.le_refl _, Nat.le_refl _, rfl, rfl, rfl, OwnI.nil _ _, Ext.rfl' _⟩
  case round =>
    obtain ⟨k, m, l, X, xc, hk, hm, hll, rfl, rfl, rfl, ho, hx⟩ := hrel
    by_cases hlt : k < cells.length
    · obtain ⟨ad, bd, e1, e2, hb1, F1⟩ := gridAt (h.to hx) (g.to hx) Hi.out hlt
      subst e1 e2
      obtain ⟨f0, f1⟩ := F1 wr (Ext.rfl' _)
      have hsy := gat_sym hs hb1.1 hb1.2
      cases e : hasS set (gat grid (num cells k)).toNat
      · by_cases hm0 : (0 : Int) < m
        · go_wp2_with (first
            | (go_at_call 63; refine (in20_x _ set _ hsy.1 (by omega) false e).mono ?_; rintro e9 w1 ⟨rfl, rfl⟩)
            | (at_builtin; refine app_one w hx rfl _ _ rfl X l.length xc l rfl ho _ (m : Int) rfl ⟨by omega, by omega⟩ (by omega) ?_; intro A' c' w2 hown2 hx2 _))
          go_roundw
          case rel => exact ⟨k + 1, 0, l ++ [(m : Int)], A', c', by omega, by omega, by simp; omega, by go_num, rfl, by simp, hown2.as (by simp) rfl, hx2⟩
          case measure => simp [intOf]; omega
        · go_wp2_with (go_at_call 63; refine (in20_x _ set _ hsy.1 (by omega) false e).mono ?_; rintro e9 w1 ⟨rfl, rfl⟩)
          go_roundw
          case rel => exact ⟨k + 1, 0, l, X, xc, by omega, by omega, by omega, by go_num, rfl, rfl, ho, hx⟩
          case measure => simp [intOf]; omega
      · go_wp2_with (go_at_call 63; refine (in20_x _ set _ hsy.1 (by omega) true e).mono ?_; rintro e9 w1 ⟨rfl, rfl⟩)
        go_roundw
        case rel => exact ⟨k + 1, m + 1, l, X, xc, by omega, by omega, by omega, by go_num, by go_num, rfl, ho, hx⟩
        case measure => simp [intOf]; omega
    · by_cases hm0 : (0 : Int) < m
      · go_wp2_with (at_builtin; refine app_one w hx rfl _ _ rfl X l.length xc l rfl ho _ (m : Int) rfl ⟨by omega, by omega⟩ (by omega) ?_; intro A' c' w2 hown2 hx2 _)
        go_ret
        exact ⟨l ++ [(m : Int)], A', c', by simp, (hown2.as (by simp) rfl : OwnI w2 w.heap.size (.slice A' (l ++ [(m : Int)]).length c') _).ints, hx2⟩
      · go_wp2_with fail
        go_ret
        exact ⟨l, X, xc, rfl, ho.ints, hx⟩
theorem in20_e (w : World) (set s : Int) (h0 : 0 ≤ s) (h1 : s < 16) (b : Bool) (hb : hasS set s.toNat = b) : Calls Tryz.prog 63 #[.int .i64 set, .int .i64 s] w fun e w' => e = .returned (.bool b) ∧ Ext w w' :=
  (in20_x w set s h0 h1 b hb).mono fun _ _ ⟨he, hw⟩ => ⟨he, by subst hw; exact Ext.rfl' _⟩
set_option maxRecDepth 100000 in
set_option maxHeartbeats 2000000 in
theorem marked20_ok (w : World) (A B : Option Addr) (c d : Nat) (grid cells : List Int) (set : Int) (h : RInts w A grid) (g : RInts w B cells) (hs : Sym grid 16) (hi : Idx cells grid.length) : Calls Tryz.prog 65 #[.slice A grid.length c, .slice B cells.length d, .int .i64 set] w (RetBs w grid.length fun _ => True) := by
  have hl := h.len
  have gl := g.len
  have hmk := make_bools grid.length (by omega)
  have h1 : BB (w.alloc (.cells (bA (List.replicate grid.length false)) 4)) w.heap.size (List.replicate grid.length false) := Blk.new w _ _
  have hx1 : Ext w (w.alloc (.cells (bA (List.replicate grid.length false)) 4)) := (Ext.rfl' w).al _
  have hln : (List.replicate grid.length false).length = grid.length := by simp
  have Hi := hid hi
  go_enter Tryz.func65, Tryz.ntmps65
  go_upto_region 2 with fail
  obtain ⟨m0, hm0⟩ : ∃ m0, List.replicate grid.length false = m0 := ⟨_, rfl⟩
  rw [hm0] at h1 hln
  obtain ⟨W0, hW0⟩ : ∃ W0, w.alloc (.cells (bA (List.replicate grid.length false)) 4) = W0 := ⟨_, rfl⟩
  rw [hm0] at hW0 hx1 ⊢
  rw [hW0] at h1 hx1 ⊢
  clear hW0 hm0 hmk
  have Hln := hid hln; clear hln
  go_wp2_with fail
  go_loopw [8] (fun i wr => ∃ (k : Nat) (m : List Bool), k ≤ cells.length ∧ i = .int .i64 k ∧ Hid (m.length = grid.length) ∧ BB wr w.heap.size m ∧ Ext w wr) (fun i _ => cells.length - (intOf i).toNat)
  case atStart => exact ⟨0, m0, Nat.zero_le _, rfl, Hln, h1, hx1⟩
  case round =>
    clear h1 hx1 Hln
    obtain ⟨k, m, hk, rfl, hml, hB, hx⟩ := hrel
    by_cases hlt : k < cells.length
    · obtain ⟨ad, bd, e1, e2, hb1, F1⟩ := gridAt (h.to hx) (g.to hx) Hi.out hlt
      subst e1 e2
      have HF := hid F1; clear F1
      have hsy := gat_sym hs hb1.1 hb1.2
      obtain ⟨bo, hbo⟩ : ∃ bo, hasS set (gat grid (num cells k)).toNat = bo := ⟨_, rfl⟩
      have hki : (num cells k).toNat < m.length := by have := hml.out; omega
      have hkg : num cells k < ((grid.length : Nat) : Int) := hb1.2
      go_wp2_with fail
      refine wp_region_sf_tail 15 (fun | 13 => some (SF.val (.bool bo)) | _ => none) (by kernel_rfl) (by kernel_rfl) ?_
      repeat (first | (refine wpE_skipK ?_ ?_; (focus ((first | refine wanted_notF rfl rfl ?_ | refine wanted_notT rfl rfl ?_); (focus (simp only [List.getElem?_toArray, List.getElem?_cons_succ, List.getElem?_cons_zero]; done)))); intro K hK; go_simp; apply hK; clear hK K; (have hq9 : True := trivial); clear hq9) | (refine wpE_detN rfl rfl (fun K hK => ?_); apply Exists.intro; apply And.intro; (focus (rintro W ⟨hx, -⟩; obtain ⟨f0, f1⟩ := HF.out W hx; go_simp; all_goals rfl)); go_simp; apply hK; clear hK K; (have hq9 : True := trivial); clear hq9) | (refine wpE_detK rfl ?_ ?_; (focus (refine wanted_so rfl rfl ?_; (focus (simp only [List.getElem?_toArray, List.getElem?_cons_succ, List.getElem?_cons_zero]; done)))); intro K hK; apply Exists.intro; apply And.intro; (focus (rintro W ⟨hx, -⟩; obtain ⟨f0, f1⟩ := HF.out W hx; go_simp; all_goals rfl)); go_simp; apply hK; clear hK K; (have hq9 : True := trivial); clear hq9))
      (first | refine wpE_newN _ rfl rfl ?_ ?_ | (refine wpE_newK _ rfl ?_ ?_ ?_; (focus (refine wanted_so rfl rfl ?_; (focus (simp only [List.getElem?_toArray, List.getElem?_cons_succ, List.getElem?_cons_zero]; done)))))); (focus (rintro W ⟨hW, -⟩; go_simp; exact ⟨Ext.rfl' _, (in20_e W set _ hsy.1 (by omega) bo hbo).mono fun e W' ⟨he, hb⟩ => ⟨_, he, hb, rfl⟩⟩)); (rintro _ ⟨_, rfl⟩ K hK); (go_simp; apply hK; clear hK K; (have hq9 : True := trivial); clear hq9)
      repeat (first | (refine wpE_skipK ?_ ?_; (focus ((first | refine wanted_notF rfl rfl ?_ | refine wanted_notT rfl rfl ?_); (focus (simp only [List.getElem?_toArray, List.getElem?_cons_succ, List.getElem?_cons_zero]; done)))); intro K hK; go_simp; apply hK; clear hK K; (have hq9 : True := trivial); clear hq9) | (refine wpE_detN rfl rfl (fun K hK => ?_); apply Exists.intro; apply And.intro; (focus (rintro W ⟨hx, -⟩; obtain ⟨f0, f1⟩ := HF.out W hx; go_simp; all_goals rfl)); go_simp; apply hK; clear hK K; (have hq9 : True := trivial); clear hq9) | (refine wpE_detK rfl ?_ ?_; (focus (refine wanted_so rfl rfl ?_; (focus (simp only [List.getElem?_toArray, List.getElem?_cons_succ, List.getElem?_cons_zero]; done)))); intro K hK; apply Exists.intro; apply And.intro; (focus (rintro W ⟨hx, -⟩; obtain ⟨f0, f1⟩ := HF.out W hx; go_simp; all_goals rfl)); go_simp; apply hK; clear hK K; (have hq9 : True := trivial); clear hq9))
      apply wpE_nil
      rintro W ⟨hW, hG⟩
      clear hG
      have q1 := BB.at_ (hB.ext hW) hki
      have q2 := Blk.frozen (hB.ext hW) (num cells k).toNat
      have hB2 := BB.put (hB.ext hW) (num cells k).toNat bo
      have hx2 : Ext w (W.setCell ⟨w.heap.size, (num cells k).toNat, none⟩ (.bool bo)) := (hx.tr hW).set (Nat.le_refl _) _
      have hml2 : Hid ((m.set (num cells k).toNat bo).length = grid.length) := hid (by rw [List.length_set]; exact hml.out)
      go_simp
      go_wp2_with fail
      go_roundw
      case rel => exact ⟨k + 1, m.set (num cells k).toNat bo, by omega, by go_num, hml2, hB2, hx2⟩
      case measure => simp [intOf]; omega
    · go_wp2_with fail
      go_ret
      exact ⟨m, w.heap.size, hml.out, trivial, rfl, hB, Nat.le_refl _, hx⟩
set_option maxHeartbeats 1000000 in
theorem conn20_ok (w : World) (A : Option Addr) (c : Nat) (g : List (List Int)) (h : RRows w A g) (hg : gOk g = true) (b : Nat) (ins : List Bool) (hb : BB w b ins) (n : Nat) (hn : ins.length = n) (hl : n = g.length) :
    Calls Tryz.prog 64 #[.slice A g.length c, .slice (some ⟨b, 0, none⟩) n n] w (SomeBool w) := by
  subst hn
  have hc := comps12_ok w A c g h hg b ins hb hl
  have Hc := hid hc; clear hc
  have hm := (GR.of hg).2
  have Hl := hid hl; clear hl
  go_enter Tryz.func64, Tryz.ntmps64
  go_wp2_with (go_at_call 90; refine Hc.out.mono ?_; rintro e w1 ⟨X, k, xc, hk, rfl, hx⟩)
  go_ret
  exact ⟨_, rfl, hx⟩
set_option maxHeartbeats 1000000 in
theorem loop20_ok (w : World) (A : Option Addr) (c : Nat) (g : List (List Int)) (h : RRows w A g) (hg : gOk g = true) (b : Nat) (ins : List Bool) (hb : BB w b ins) (n : Nat) (hn : ins.length = n) (hl : n = g.length) :
    Calls Tryz.prog 66 #[.slice A g.length c, .slice (some ⟨b, 0, none⟩) n n] w (SomeBool w) := by
  subst hn
  have hc := comps12_ok w A c g h hg b ins hb hl
  have hr := fun W hW => ring12_ok W A c g (h.to hW) hg b ins (hb.ext hW) hl
  have Hc := hid hc; have Hr := hid hr; clear hc hr
  have hm := (GR.of hg).2
  have Hl := hid hl; clear hl
  go_enter Tryz.func66, Tryz.ntmps66
  go_wp2_with (first
    | (go_at_call 90; refine Hc.out.mono ?_; rintro e w1 ⟨X, k, xc, hk, rfl, hx⟩)
    | (go_at_call 91; refine (Hr.out _ hx).mono ?_; rintro e w2 ⟨bo, rfl, hx2⟩))
  all_goals go_ret
  all_goals exact ⟨_, rfl, hx.tr hx2⟩
end Go.Proofs.YtimkijmjbnmcbaaGreat
