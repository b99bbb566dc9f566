/- Contracts: what a finished grid does to constraints (the reference's small functions). -/
import Derived.Test.YtimkijmjbnmcbaaGreatYmGc
import Derived.Test.YtimkijmjbnmcbaaGreatYmGd
namespace Go.Proofs.YtimkijmjbnmcbaaGreat
open Go Go.RowKit
theorem sameInts12_ok (w : World) (A B : Option Addr) (c d : Nat) (l m : List Int) (h : RInts w A l) (g : RInts w B m) :
    Calls Tryz.prog 60 #[.slice A l.length c, .slice B m.length d] w fun e w' => e = .returned (.bool (l == m)) ∧ ∃ n, w' = w.drewN n := by
  have hl := h.len
  have gl := g.len
  by_cases hne : l.length = m.length
  · have hb : ((l.length : Int) != (m.length : Int)) = false := by simp [hne]
    have hlen := hid hne; clear hne
    go_enter Tryz.func60, Tryz.ntmps60
    go_wp2_with fail
    go_loopw [5] (fun i wr => ∃ k n : Nat, k ≤ l.length ∧ i = .int .i64 k ∧ Hid (l.take k = m.take k) ∧ wr = w.drewN n) (fun i _ => l.length - (intOf i).toNat)
    case atStart => exact ⟨0, 0, Nat.zero_le _, rfl, rfl, rfl⟩
    case round =>
      obtain ⟨k, n, hk, rfl, hno, rfl⟩ := hrel
      by_cases hlt : k < l.length
      · have hlt2 : k < m.length := by have := hlen.out; omega
        obtain ⟨ad, rfl, _, hc, _⟩ := h.at_ k hlt
        obtain ⟨bd, rfl, _, gc, _⟩ := g.at_ k hlt2
        go_wp2_with fail
        go_quiet (fail)
        go_wp2_with fail
        · have hz : (l[k] != m[k]) = true := by assumption
          go_ret
          refine ⟨ret_bool ?_, _, World.drewN_drewN _ _ _⟩
          symm; rw [beq_eq_false_iff_ne]; intro e; subst e; simp at hz
        · have hz : (l[k] != m[k]) = false := by assumption
          go_roundw
          case rel => exact ⟨k + 1, _, by omega, by go_num, same_step l m hlen.out k hlt hno (by simpa using hz), rfl⟩
          case measure => simp [intOf]; omega
      · go_wp2_with fail
        go_ret
        refine ⟨ret_bool ?_, _, rfl⟩
        have e : l = m := by
          have := hno.out
          rwa [List.take_of_length_le (by omega), List.take_of_length_le (by have := hlen.out; omega)] at this
        symm; rw [beq_iff_eq]; exact e
  · have hb : ((l.length : Int) != (m.length : Int)) = true := by simp; omega
    go_enter Tryz.func60, Tryz.ntmps60
    go_wp2_with fail
    go_ret
    exact ⟨ret_bool (by symm; simp; intro e; exact hne (by rw [e])), 0, rfl⟩
/-- A grid's symbols are small. -/
def Sym (grid : List Int) (n : Nat) : Prop := ∀ x ∈ grid, 0 ≤ x ∧ x < n
theorem and_pow {set : Int} {k : Nat} (hk : k < 64) : (bits .and .i64 set (2 ^ k) != 0) = hasS set k := by
  have e : bits .and .i64 set (2 ^ k) = andI set (2 ^ k) := rfl
  rw [e, Bool.eq_iff_iff, bne_iff_ne, Ne, andI_zero, bv_pow, BitVec.and_twoPow]
  unfold hasS
  cases h : (bv set).getLsbD k
  · simp
  · simp only [if_true, iff_true]
    intro e
    have := congrArg (fun v => v.getLsbD k) e
    simp [hk] at this
theorem wrap_pow : ∀ k : Nat, k < 16 → wrap64 (2 ^ k) = 2 ^ k := by decide +kernel
set_option maxHeartbeats 1000000 in
theorem in20_ok (w : World) (set s : Int) (h0 : 0 ≤ s) (h1 : s < 16) : Calls Tryz.prog 63 #[.int .i64 set, .int .i64 s] w fun e w' => e = .returned (.bool (hasS set s.toNat)) ∧ w = w' := by
  have hb := and_pow (set := set) (k := s.toNat) (by omega)
  go_enter Tryz.func63, Tryz.ntmps63
  go_wp2_with fail
  go_ret
  exact ⟨ret_bool (by rw [wrap_pow _ (by omega), hb]), rfl⟩
theorem in20_x (w : World) (set s : Int) (h0 : 0 ≤ s) (h1 : s < 16) (b : Bool) (hb : hasS set s.toNat = b) : Calls Tryz.prog 63 #[.int .i64 set, .int .i64 s] w fun e w' => e = .returned (.bool b) ∧ w = w' := by subst hb; exact in20_ok w set s h0 h1
theorem withinN_succ {l : List Int} {n : Int} {k : Nat} (h : k < l.length) : withinN (l.take (k + 1)) n = (withinN (l.take k) n && (decide (0 ≤ l[k]) && decide (l[k] < n))) := by
  unfold withinN; exact all_take _ _ _ h
set_option maxHeartbeats 1000000 in
theorem fin20_ok (w : World) (A : Option Addr) (c : Nat) (grid : List Int) (h : RInts w A grid) (cells symbols : Int) : Calls Tryz.prog 55 #[.int .i64 cells, .int .i64 symbols, .slice A grid.length c] w fun e w' => e = .returned (.bool (decide ((grid.length : Int) = cells) && withinN grid symbols)) ∧ w = w' := by
  have hl := h.len
  by_cases hc : (grid.length : Int) = cells
  rotate_left
  · have hne : ((grid.length : Int) != cells) = true := by rw [bne_iff_ne]; exact hc
    have Hr := hid (show (decide ((grid.length : Int) = cells) && withinN grid symbols) = false by rw [decide_eq_false hc]; rfl)
    clear hc
    go_enter Tryz.func55, Tryz.ntmps55
    go_wp2_with fail
    go_ret
    exact ⟨ret_bool Hr.out.symm, rfl⟩
  have hne : ((grid.length : Int) != cells) = false := by rw [bne_eq_false_iff_eq]; exact hc
  have Hr := hid (show (decide ((grid.length : Int) = cells) && withinN grid symbols) = withinN grid symbols by rw [decide_eq_true hc]; rfl)
  clear hc
  go_enter Tryz.func55, Tryz.ntmps55
  go_wp2_with fail
  go_loop [7] (fun i => ∃ k : Nat, k ≤ grid.length ∧ i = .int .i64 k ∧ Hid (withinN (grid.take k) symbols = true)) (fun i => grid.length - (intOf i).toNat)
  case atStart => exact ⟨0, Nat.zero_le _, rfl, rfl⟩
  case round =>
    obtain ⟨k, hk, rfl, hno⟩ := hrel
    by_cases hlt : k < grid.length
    · obtain ⟨ad, rfl, _, hc, _⟩ := h.at_ k hlt
      have hs := withinN_succ (n := symbols) hlt
      rw [hno.out] at hs
      have hbad : ¬ (0 ≤ grid[k] ∧ grid[k] < symbols) → withinN grid symbols = false := fun hb => all_of_at k hlt (by rw [Bool.eq_false_iff]; intro e; apply hb; simpa using e)
      have Hs := hid hs; have Hb := hid hbad; clear hs hbad
      by_cases h1 : grid[k] < 0
      · go_wp2_with fail
        go_ret
        exact ⟨ret_bool (by rw [Hr.out, Hb.out (by omega)]), rfl⟩
      by_cases h2 : symbols ≤ grid[k]
      · go_wp2_with fail
        go_ret
        exact ⟨ret_bool (by rw [Hr.out, Hb.out (by omega)]), rfl⟩
      go_wp2_with fail
      go_round
      case rel => exact ⟨k + 1, by omega, by go_num, by show _ = _; rw [Hs.out]; simp; omega⟩
      case measure => simp [intOf]; omega
    · have hall : grid.take k = grid := List.take_of_length_le (by omega)
      rw [hall] at hno
      go_wp2_with fail
      go_ret
      exact ⟨ret_bool (by rw [Hr.out, hno.out]), rfl⟩
/-- Reads of a grid by its cells. -/
theorem gridAt {w : World} {A B : Option Addr} {grid cells : List Int} (h : RInts w A grid) (g : RInts w B cells) (hi : Idx cells grid.length) {k : Nat} (hk : k < cells.length) :
    ∃ ad bd, A = some ad ∧ B = some bd ∧ (0 ≤ num cells k ∧ num cells k < (grid.length : Int)) ∧ ∀ W, Ext w W → W.cell? (bd.add k) = some (.int .i64 (num cells k)) ∧ W.cell? (ad.add (num cells k).toNat) = some (.int .i64 (gat grid (num cells k))) := by
  have h1 := hi (num cells k) (by rw [num_eq hk]; exact List.getElem_mem _)
  obtain ⟨bd, rfl, hbb, hbc, -⟩ := g.num (by omega)
  obtain ⟨ad, rfl, hab, hac, -⟩ := h.num (by omega)
  exact ⟨ad, bd, rfl, rfl, h1, fun W hW => ⟨cellE hW (hbc k hk) (by rw [block_of_add]; exact hbb), cellE hW (hac _ (by omega)) (by rw [block_of_add]; exact hab)⟩⟩
theorem gat_sym {grid : List Int} {n : Nat} (h : Sym grid n) {x : Int} (h0 : 0 ≤ x) (h1 : x < (grid.length : Int)) : 0 ≤ gat grid x ∧ gat grid x < n := by
  unfold gat; rw [num_eq (by omega)]; exact h _ (List.getElem_mem _)
def diffG (grid cells : List Int) : Bool := (List.range cells.length).all fun i => (List.range i).all fun j => !(gat grid (num cells i) == gat grid (num cells j))
set_option maxRecDepth 100000 in
set_option maxHeartbeats 2000000 in
theorem diff20_ok (w : World) (A B : Option Addr) (c d : Nat) (grid cells : List Int) (h : RInts w A grid) (g : RInts w B cells) (hi : Idx cells grid.length) : Calls Tryz.prog 56 #[.slice A grid.length c, .slice B cells.length d] w fun e w' => e = .returned (.bool (diffG grid cells)) ∧ Ext w w' := by
  have hl := h.len
  have gl := g.len
  have Hi := hid hi
  go_enter Tryz.func56, Tryz.ntmps56
  go_wp2_with fail
  go_loopw [5, 6] (fun i _ wr => ∃ k : Nat, k ≤ cells.length ∧ i = .int .i64 k ∧ Hid ((List.range k).all (fun i => (List.range i).all fun j => !(gat grid (num cells i) == gat grid (num cells j))) = true) ∧ Ext w wr) (fun i _ _ => cells.length - (intOf i).toNat)
  case atStart => exact ⟨0, Nat.zero_le _, rfl, rfl, Ext.rfl' _⟩
  case round =>
    obtain ⟨k, hk, rfl, hno, hx⟩ := hrel
    by_cases hlt : k < cells.length
    · obtain ⟨ad, bd, e1, e2, hb1, F1⟩ := gridAt (h.to hx) (g.to hx) Hi.out hlt
      subst e1 e2
      have HF1 := hid F1; clear F1
      go_wp2_with fail
      go_loopw [6] (fun j wv => ∃ m : Nat, m ≤ k ∧ j = .int .i64 m ∧ Hid ((List.range m).all (fun j => !(gat grid (num cells k) == gat grid (num cells j))) = true) ∧ Ext wr wv) (fun j _ => k - (intOf j).toNat)
      case atStart => exact ⟨0, Nat.zero_le _, rfl, rfl, Ext.rfl' _⟩
      case round =>
        obtain ⟨m, hm, rfl, hno2, hx2⟩ := hrel
        by_cases hlt2 : m < k
        · obtain ⟨_, _, e1, e2, hb2, F2⟩ := gridAt (h.to (hx.tr hx2)) (g.to (hx.tr hx2)) Hi.out (k := m) (by omega)
          cases e1; cases e2
          have hm2 : m < cells.length := by omega
          obtain ⟨wo, hwo⟩ : ∃ wo : World, wo = wr := ⟨_, rfl⟩
          have HF : Hid (∀ W, Ext wr W → (W.cell? (bd.add k) = some (.int .i64 (num cells k)) ∧ W.cell? (ad.add (num cells k).toNat) = some (.int .i64 (gat grid (num cells k)))) ∧ W.cell? (bd.add m) = some (.int .i64 (num cells m)) ∧ W.cell? (ad.add (num cells m).toNat) = some (.int .i64 (gat grid (num cells m)))) := hid fun W hW => ⟨HF1.out W (hx2.tr hW), F2 W hW⟩
          clear F2
          have hs := rall_succ (fun j => !(gat grid (num cells k) == gat grid (num cells j))) m
          rw [hno2.out, Bool.true_and] at hs
          by_cases he : gat grid (num cells k) = gat grid (num cells m)
          · have hbe : (gat grid (num cells k) == gat grid (num cells m)) = true := by rw [beq_iff_eq]; exact he
            have hbad : diffG grid cells = false := by
              refine rall_bad hlt (rall_bad (k := m) hlt2 ?_)
              rw [hbe]; rfl
            have Hb := hid hbad; clear hbad hs
            go_wp2_with fail
            (refine wp_region_sf (fun _ => none) (by kernel_rfl) (by kernel_rfl) ?_); (repeat (first | (refine wpE_skipK ?_ ?_; (focus ((first | refine wanted_notF rfl rfl ?_ | refine wanted_notT rfl rfl ?_); (focus (simp only [List.getElem?_toArray, List.getElem?_cons_succ, List.getElem?_cons_zero]; done)))); intro K hK; go_simp; apply hK; clear hK K; (have hq9 : True := trivial); clear hq9) | (refine wpE_detN rfl rfl (fun K hK => ?_); apply Exists.intro; apply And.intro; (focus (rintro W ⟨hx, -⟩; obtain ⟨⟨f0, f1⟩, f2, f3⟩ := HF.out W hx; go_simp; all_goals rfl)); go_simp; apply hK; clear hK K; (have hq9 : True := trivial); clear hq9) | (refine wpE_detK rfl ?_ ?_; (focus (refine wanted_so rfl rfl ?_; (focus (simp only [List.getElem?_toArray, List.getElem?_cons_succ, List.getElem?_cons_zero]; done)))); intro K hK; apply Exists.intro; apply And.intro; (focus (rintro W ⟨hx, -⟩; obtain ⟨⟨f0, f1⟩, f2, f3⟩ := HF.out W hx; go_simp; all_goals rfl)); go_simp; apply hK; clear hK K; (have hq9 : True := trivial); clear hq9))); (apply wpE_nil); (rintro W ⟨hW, hG⟩); clear hG
            go_wp2_with fail
            go_ret
            exact ⟨ret_bool Hb.out.symm, hx.tr (hx2.tr hW)⟩
          · have hbe : (gat grid (num cells k) == gat grid (num cells m)) = false := by rw [beq_eq_false_iff_ne]; exact he
            rw [hbe] at hs
            have Hs := hid hs; clear hs he
            go_wp2_with fail
            (refine wp_region_sf (fun _ => none) (by kernel_rfl) (by kernel_rfl) ?_); (repeat (first | (refine wpE_skipK ?_ ?_; (focus ((first | refine wanted_notF rfl rfl ?_ | refine wanted_notT rfl rfl ?_); (focus (simp only [List.getElem?_toArray, List.getElem?_cons_succ, List.getElem?_cons_zero]; done)))); intro K hK; go_simp; apply hK; clear hK K; (have hq9 : True := trivial); clear hq9) | (refine wpE_detN rfl rfl (fun K hK => ?_); apply Exists.intro; apply And.intro; (focus (rintro W ⟨hx, -⟩; obtain ⟨⟨f0, f1⟩, f2, f3⟩ := HF.out W hx; go_simp; all_goals rfl)); go_simp; apply hK; clear hK K; (have hq9 : True := trivial); clear hq9) | (refine wpE_detK rfl ?_ ?_; (focus (refine wanted_so rfl rfl ?_; (focus (simp only [List.getElem?_toArray, List.getElem?_cons_succ, List.getElem?_cons_zero]; done)))); intro K hK; apply Exists.intro; apply And.intro; (focus (rintro W ⟨hx, -⟩; obtain ⟨⟨f0, f1⟩, f2, f3⟩ := HF.out W hx; go_simp; all_goals rfl)); go_simp; apply hK; clear hK K; (have hq9 : True := trivial); clear hq9))); (apply wpE_nil); (rintro W ⟨hW, hG⟩); clear hG
            go_wp2_with fail
            go_roundw
            case rel => exact ⟨m + 1, by omega, by go_num, Hs.out, hx2.tr hW⟩
            case measure => simp [intOf]; omega
        · obtain rfl : m = k := by omega
          have hs := rall_on (p := fun i => (List.range i).all fun j => !(gat grid (num cells i) == gat grid (num cells j))) hno.out hno2.out
          have Hs := hid hs; clear hs
          go_wp2_with fail
          go_roundw
          case rel => exact ⟨m + 1, by omega, by go_num, Hs.out, hx.tr hx2⟩
          case measure => simp [intOf]; omega
    · obtain rfl : k = cells.length := by omega
      go_wp2_with fail
      go_ret
      exact ⟨ret_bool (by unfold diffG; exact hno.out.symm), hx⟩
/-- Strictly rising values along cells. -/
def riseG (values grid cells : List Int) : Bool := (List.range cells.length).all fun i => i == 0 || decide (num values (gat grid (num cells (i - 1))).toNat < num values (gat grid (num cells i)).toNat)
theorem valAt {w : World} {V : Option Addr} {values grid cells : List Int} (hv : RInts w V values) (hs : Sym grid values.length) (hi : Idx cells grid.length) {k : Nat} (hk : k < cells.length) :
    ∃ vd, V = some vd ∧ (0 ≤ gat grid (num cells k) ∧ gat grid (num cells k) < (values.length : Int)) ∧ ∀ W, Ext w W → W.cell? (vd.add (gat grid (num cells k)).toNat) = some (.int .i64 (num values (gat grid (num cells k)).toNat)) := by
  have h1 := hi (num cells k) (by rw [num_eq hk]; exact List.getElem_mem _)
  have h2 := gat_sym hs h1.1 (by omega)
  obtain ⟨vd, rfl, hvb, hvc, -⟩ := hv.num (by omega)
  exact ⟨vd, rfl, h2, fun W hW => cellE hW (hvc _ (by omega)) (by rw [block_of_add]; exact hvb)⟩
set_option maxRecDepth 100000 in
set_option maxHeartbeats 2000000 in
theorem rise20_ok (w : World) (V A B : Option Addr) (v c d : Nat) (values grid cells : List Int) (hv : RInts w V values) (h : RInts w A grid) (g : RInts w B cells) (hs : Sym grid values.length) (hi : Idx cells grid.length) : Calls Tryz.prog 59 #[.slice V values.length v, .slice A grid.length c, .slice B cells.length d] w fun e w' => e = .returned (.bool (riseG values grid cells)) ∧ Ext w w' := by
  have hl := h.len
  have gl := g.len
  have Hi := hid hi
  go_enter Tryz.func59, Tryz.ntmps59
  go_wp2_with fail
  go_loopw [7] (fun i wr => ∃ k : Nat, 0 < k ∧ (k ≤ cells.length ∨ k = 1) ∧ i = .int .i64 k ∧ Hid ((List.range k).all (fun i => i == 0 || decide (num values (gat grid (num cells (i - 1))).toNat < num values (gat grid (num cells i)).toNat)) = true) ∧ Ext w wr) (fun i _ => cells.length - (intOf i).toNat)
  case atStart => exact ⟨1, by decide, .inr rfl, rfl, rfl, Ext.rfl' _⟩
  case round =>
    obtain ⟨k, hk0, hk, rfl, hno, hx⟩ := hrel
    obtain ⟨m, rfl⟩ : ∃ m, k = m + 1 := ⟨k - 1, by omega⟩
    by_cases hlt : m + 1 < cells.length
    · obtain ⟨ad, bd, e1, e2, hb1, F1⟩ := gridAt (h.to hx) (g.to hx) Hi.out hlt
      subst e1 e2
      obtain ⟨_, _, e1, e2, hb2, F2⟩ := gridAt (h.to hx) (g.to hx) Hi.out (k := m) (by omega)
      cases e1; cases e2
      obtain ⟨vd, e1, hb3, F3⟩ := valAt (hv.to hx) hs Hi.out hlt
      subst e1
      obtain ⟨_, e1, hb4, F4⟩ := valAt (hv.to hx) hs Hi.out (k := m) (by omega)
      cases e1
      rw [add_pos bd (m + 1) (by omega)] at F1
      have HF : Hid (∀ W, Ext wr W → ((W.cell? ⟨bd.block, bd.off + (m + 1), none⟩ = some (.int .i64 (num cells (m + 1))) ∧ W.cell? (ad.add (num cells (m + 1)).toNat) = some (.int .i64 (gat grid (num cells (m + 1))))) ∧ W.cell? (bd.add m) = some (.int .i64 (num cells m)) ∧ W.cell? (ad.add (num cells m).toNat) = some (.int .i64 (gat grid (num cells m)))) ∧
          W.cell? (vd.add (gat grid (num cells (m + 1))).toNat) = some (.int .i64 (num values (gat grid (num cells (m + 1))).toNat)) ∧ W.cell? (vd.add (gat grid (num cells m)).toNat) = some (.int .i64 (num values (gat grid (num cells m)).toNat))) := hid fun W hW => ⟨⟨F1 W hW, F2 W hW⟩, F3 W hW, F4 W hW⟩
      clear F1 F2 F3 F4
      have hm1 : m < cells.length := by omega
      have hm3 : IntKind.i64.wrap (m : Int) = m := IntWalk.i64_in _ ⟨by omega, by omega⟩
      have hst := rall_succ (fun i => i == 0 || decide (num values (gat grid (num cells (i - 1))).toNat < num values (gat grid (num cells i)).toNat)) (m + 1)
      rw [hno.out, Bool.true_and] at hst
      have hz : (m + 1 == 0) = false := by simp
      rw [hz, Bool.false_or, Nat.add_sub_cancel] at hst
      by_cases he : num values (gat grid (num cells m)).toNat < num values (gat grid (num cells (m + 1))).toNat
      · rw [decide_eq_true he] at hst
        have Hs := hid hst; clear hst
        go_wp2_with fail
        (refine wp_region_sf (fun _ => none) (by kernel_rfl) (by kernel_rfl) ?_); (repeat (first | (refine wpE_skipK ?_ ?_; (focus ((first | refine wanted_notF rfl rfl ?_ | refine wanted_notT rfl rfl ?_); (focus (simp only [List.getElem?_toArray, List.getElem?_cons_succ, List.getElem?_cons_zero]; done)))); intro K hK; go_simp; apply hK; clear hK K; (have hq9 : True := trivial); clear hq9) | (refine wpE_detN rfl rfl (fun K hK => ?_); apply Exists.intro; apply And.intro; (focus (rintro W ⟨hx, -⟩; obtain ⟨⟨⟨f0, f1⟩, f2, f3⟩, f4, f5⟩ := HF.out W hx; go_simp; all_goals rfl)); go_simp; apply hK; clear hK K; (have hq9 : True := trivial); clear hq9) | (refine wpE_detK rfl ?_ ?_; (focus (refine wanted_so rfl rfl ?_; (focus (simp only [List.getElem?_toArray, List.getElem?_cons_succ, List.getElem?_cons_zero]; done)))); intro K hK; apply Exists.intro; apply And.intro; (focus (rintro W ⟨hx, -⟩; obtain ⟨⟨⟨f0, f1⟩, f2, f3⟩, f4, f5⟩ := HF.out W hx; go_simp; all_goals rfl)); go_simp; apply hK; clear hK K; (have hq9 : True := trivial); clear hq9))); (apply wpE_nil); (rintro W ⟨hW, hG⟩); clear hG
        go_wp2_with fail
        go_roundw
        case rel => exact ⟨m + 1 + 1, by omega, .inl (by omega), by go_num, Hs.out, hx.tr hW⟩
        case measure => simp [intOf]; omega
      · have hbad : riseG values grid cells = false := by
          refine rall_bad hlt ?_
          rw [hz, Bool.false_or, Nat.add_sub_cancel, decide_eq_false he]
        have Hb := hid hbad; clear hbad hst
        have he2 : num values (gat grid (num cells (m + 1))).toNat ≤ num values (gat grid (num cells m)).toNat := by omega
        go_wp2_with fail
        (refine wp_region_sf (fun _ => none) (by kernel_rfl) (by kernel_rfl) ?_); (repeat (first | (refine wpE_skipK ?_ ?_; (focus ((first | refine wanted_notF rfl rfl ?_ | refine wanted_notT rfl rfl ?_); (focus (simp only [List.getElem?_toArray, List.getElem?_cons_succ, List.getElem?_cons_zero]; done)))); intro K hK; go_simp; apply hK; clear hK K; (have hq9 : True := trivial); clear hq9) | (refine wpE_detN rfl rfl (fun K hK => ?_); apply Exists.intro; apply And.intro; (focus (rintro W ⟨hx, -⟩; obtain ⟨⟨⟨f0, f1⟩, f2, f3⟩, f4, f5⟩ := HF.out W hx; go_simp; all_goals rfl)); go_simp; apply hK; clear hK K; (have hq9 : True := trivial); clear hq9) | (refine wpE_detK rfl ?_ ?_; (focus (refine wanted_so rfl rfl ?_; (focus (simp only [List.getElem?_toArray, List.getElem?_cons_succ, List.getElem?_cons_zero]; done)))); intro K hK; apply Exists.intro; apply And.intro; (focus (rintro W ⟨hx, -⟩; obtain ⟨⟨⟨f0, f1⟩, f2, f3⟩, f4, f5⟩ := HF.out W hx; go_simp; all_goals rfl)); go_simp; apply hK; clear hK K; (have hq9 : True := trivial); clear hq9))); (apply wpE_nil); (rintro W ⟨hW, hG⟩); clear hG
        go_wp2_with fail
        go_ret
        exact ⟨ret_bool Hb.out.symm, hx.tr hW⟩
    · have hend : riseG values grid cells = true := by
        unfold riseG
        rw [List.all_eq_true]
        intro i hi2
        have h1 := List.mem_range.1 hi2
        exact List.all_eq_true.1 hno.out i (List.mem_range.2 (by omega))
      have He := hid hend; clear hend
      go_wp2_with fail
      go_ret
      exact ⟨ret_bool He.out.symm, hx⟩
theorem cntS_take {grid cells : List Int} {set : Int} {k : Nat} (h : k < cells.length) : cntS grid (cells.take (k + 1)) set = cntS grid (cells.take k) set + if hasS set (gat grid (num cells k)).toNat then 1 else 0 := by
  unfold cntS
  rw [List.take_succ_eq_append_getElem h, List.filter_append, List.length_append, num_eq h]
  cases e : hasS set (gat grid cells[k]).toNat <;> simp [e]
theorem cntS_le (grid cells : List Int) (set : Int) : cntS grid cells set ≤ cells.length := by unfold cntS; exact List.length_filter_le _ _
set_option maxRecDepth 100000 in
set_option maxHeartbeats 2000000 in
theorem count20_ok (w : World) (A B : Option Addr) (c d : Nat) (grid cells : List Int) (set : Int) (h : RInts w A grid) (g : RInts w B cells) (hs : Sym grid 16) (hi : Idx cells grid.length) : Calls Tryz.prog 57 #[.slice A grid.length c, .slice B cells.length d, .int .i64 set] w fun e w' => e = .returned (.int .i64 (cntS grid cells set)) ∧ w = w' := by
  have hl := h.len
  have gl := g.len
  have Hi := hid hi
  go_enter Tryz.func57, Tryz.ntmps57
  go_wp2_with fail
  go_loop [7, 8] (fun n i => ∃ k : Nat, k ≤ cells.length ∧ i = .int .i64 k ∧ n = .int .i64 (cntS grid (cells.take k) set : Nat)) (fun _ i => cells.length - (intOf i).toNat)
  case atStart => exact ⟨0, Nat.zero_le _, rfl, by simp [cntS]⟩
  case round =>
    obtain ⟨k, hk, rfl, rfl⟩ := hrel
    by_cases hlt : k < cells.length
    · obtain ⟨ad, bd, e1, e2, hb1, F1⟩ := gridAt h g Hi.out hlt
      subst e1 e2
      obtain ⟨f0, f1⟩ := F1 w (Ext.rfl' _)
      have hsy := gat_sym hs hb1.1 hb1.2
      have hst := cntS_take (grid := grid) (set := set) hlt
      have hle := cntS_le grid (cells.take k) set
      rw [List.length_take] at hle
      cases e : hasS set (gat grid (num cells k)).toNat
      · rw [e] at hst
        have Hst := hid hst; clear hst
        go_wp2_with (go_at_call 63; refine (in20_x _ set _ hsy.1 (by omega) false e).mono ?_; rintro e9 w1 ⟨rfl, rfl⟩)
        go_round
        case rel => exact ⟨k + 1, by omega, by go_num, by rw [Hst.out]; simp⟩
        case measure => simp [intOf]; omega
      · rw [e] at hst
        have Hst := hid hst; clear hst
        go_wp2_with (go_at_call 63; refine (in20_x _ set _ hsy.1 (by omega) true e).mono ?_; rintro e9 w1 ⟨rfl, rfl⟩)
        go_round
        case rel => exact ⟨k + 1, by omega, by go_num, by rw [Hst.out]; simp⟩
        case measure => simp [intOf]; omega
    · have hall : cells.take k = cells := List.take_of_length_le (by omega)
      rw [hall]
      go_wp2_with fail
      go_ret
      exact ⟨rfl, rfl⟩
end Go.Proofs.YtimkijmjbnmcbaaGreat
