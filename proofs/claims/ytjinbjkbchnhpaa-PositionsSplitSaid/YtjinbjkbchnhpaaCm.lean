/- Contracts: Remove and Fix of the reference; Meet; whether a grid agrees. -/
import Derived.Test.YtjinbjkbchnhpaaCl
import Derived.Test.YtjinbjkbchnhpaaOwb
namespace Go.Proofs.Ytjinbjkbchnhpaa
open Go.RowKit

set_option maxHeartbeats 1000000 in
theorem rRemove_ok (w : World) (q : Problem) (p : PPtr) (A : Option Addr) (c : Nat) (pos : List Int) (cell symbol : Int) (h : RProb w q p) (hp : RInts w A pos) :
    Calls Try.prog 16 #[probV q p, .slice A pos.length c, .int .i64 cell, .int .i64 symbol] w fun e w' => RetIE w (chgL q pos cell symbol (without symbol)) (chgE q pos cell symbol) e w' := by
  have x0 := (Ext.rfl' w).al (probO q p)
  have F : ∀ W, Ext (w.alloc (probO q p)) W → ProbBox W w.heap.size q p := fun W hW => probBox hW rfl
  have HF := hid F; clear F
  go_enter Try.func16, Try.ntmps16
  go_wp2_with fail
  refine wp_region_sf (fun | 5 => some (SF.val (.int .i64 (bitI symbol))) | 7 => some (SF.intsErr (chgL q pos cell symbol (without symbol)) (chgE q pos cell symbol)) | _ => none) (by kernel_rfl) (by kernel_rfl) ?_
  repeat (first | (refine wpE_skipK rfl (fun K hK => ?_); go_simp; apply hK; clear hK K) | (refine wpE_detK rfl rfl (fun K hK => ?_); apply Exists.intro; apply And.intro; (focus (rintro W ⟨hx, -⟩; obtain ⟨f0, f1, f2, f3, f4⟩ := HF.out W hx; go_simp; all_goals rfl)); go_simp; apply hK; clear hK K))
  refine wpE_newK _ rfl rfl ?_ ?_
  · rintro W ⟨hW, -⟩
    go_simp
    exact ⟨Ext.rfl' _, (bit_ok W symbol).mono fun e W' ⟨he, hb⟩ => ⟨_, he, by subst hb; exact Ext.rfl' _, rfl⟩⟩
  rintro _ ⟨_, rfl⟩ K hK
  go_simp; apply hK; clear hK K
  repeat (first | (refine wpE_skipK rfl (fun K hK => ?_); go_simp; apply hK; clear hK K) | (refine wpE_detK rfl rfl (fun K hK => ?_); apply Exists.intro; apply And.intro; (focus (rintro W ⟨hx, -⟩; obtain ⟨f0, f1, f2, f3, f4⟩ := HF.out W hx; go_simp; all_goals rfl)); go_simp; apply hK; clear hK K))
  refine wpE_newK _ rfl rfl ?_ ?_
  · rintro W ⟨hW, -⟩
    go_simp
    refine ⟨Ext.rfl' _, (rchange_ok W q p A c pos cell symbol _ (h.to (x0.tr hW)) (hp.to (x0.tr hW))).mono fun e W' hr => ?_⟩
    obtain ⟨B, d, rfl, hr1, hx1⟩ := hr.as (chgL_congr fun h1 h2 x => without_r symbol x ⟨h1, h2⟩)
    exact ⟨_, rfl, hx1, B, d, rfl, hr1⟩
  rintro _ ⟨_, B, d, rfl, -⟩ K hK
  go_simp; apply hK; clear hK K
  repeat (first | (refine wpE_skipK rfl (fun K hK => ?_); go_simp; apply hK; clear hK K) | (refine wpE_detK rfl rfl (fun K hK => ?_); apply Exists.intro; apply And.intro; (focus (rintro W ⟨hx, -⟩; obtain ⟨f0, f1, f2, f3, f4⟩ := HF.out W hx; go_simp; all_goals rfl)); go_simp; apply hK; clear hK K))
  apply wpE_nil
  rintro W ⟨hW, hG⟩
  obtain ⟨_, _, e', hr⟩ := (hG 7).2 rfl
  cases e'
  go_wp2_with fail
  go_ret2
  exact ⟨B, d, rfl, hr, x0.tr hW⟩
set_option maxHeartbeats 1000000 in
theorem rFix_ok (w : World) (q : Problem) (p : PPtr) (A : Option Addr) (c : Nat) (pos : List Int) (cell symbol : Int) (h : RProb w q p) (hp : RInts w A pos) :
    Calls Try.prog 18 #[probV q p, .slice A pos.length c, .int .i64 cell, .int .i64 symbol] w fun e w' => RetIE w (chgL q pos cell symbol (only symbol)) (chgE q pos cell symbol) e w' := by
  have x0 := (Ext.rfl' w).al (probO q p)
  have F : ∀ W, Ext (w.alloc (probO q p)) W → ProbBox W w.heap.size q p := fun W hW => probBox hW rfl
  have HF := hid F; clear F
  go_enter Try.func18, Try.ntmps18
  go_wp2_with fail
  refine wp_region_sf (fun | 5 => some (SF.val (.int .i64 (bitI symbol))) | 6 => some (SF.intsErr (chgL q pos cell symbol (only symbol)) (chgE q pos cell symbol)) | _ => none) (by kernel_rfl) (by kernel_rfl) ?_
  repeat (first | (refine wpE_skipK rfl (fun K hK => ?_); go_simp; apply hK; clear hK K) | (refine wpE_detK rfl rfl (fun K hK => ?_); apply Exists.intro; apply And.intro; (focus (rintro W ⟨hx, -⟩; obtain ⟨f0, f1, f2, f3, f4⟩ := HF.out W hx; go_simp; all_goals rfl)); go_simp; apply hK; clear hK K))
  refine wpE_newK _ rfl rfl ?_ ?_
  · rintro W ⟨hW, -⟩
    go_simp
    exact ⟨Ext.rfl' _, (bit_ok W symbol).mono fun e W' ⟨he, hb⟩ => ⟨_, he, by subst hb; exact Ext.rfl' _, rfl⟩⟩
  rintro _ ⟨_, rfl⟩ K hK
  go_simp; apply hK; clear hK K
  repeat (first | (refine wpE_skipK rfl (fun K hK => ?_); go_simp; apply hK; clear hK K) | (refine wpE_detK rfl rfl (fun K hK => ?_); apply Exists.intro; apply And.intro; (focus (rintro W ⟨hx, -⟩; obtain ⟨f0, f1, f2, f3, f4⟩ := HF.out W hx; go_simp; all_goals rfl)); go_simp; apply hK; clear hK K))
  refine wpE_newK _ rfl rfl ?_ ?_
  · rintro W ⟨hW, -⟩
    go_simp
    refine ⟨Ext.rfl' _, (rchange_ok W q p A c pos cell symbol _ (h.to (x0.tr hW)) (hp.to (x0.tr hW))).mono fun e W' hr => ?_⟩
    obtain ⟨B, d, rfl, hr1, hx1⟩ := hr.as (chgL_congr fun h1 h2 x => only_r symbol x ⟨h1, h2⟩)
    exact ⟨_, rfl, hx1, B, d, rfl, hr1⟩
  rintro _ ⟨_, B, d, rfl, -⟩ K hK
  go_simp; apply hK; clear hK K
  repeat (first | (refine wpE_skipK rfl (fun K hK => ?_); go_simp; apply hK; clear hK K) | (refine wpE_detK rfl rfl (fun K hK => ?_); apply Exists.intro; apply And.intro; (focus (rintro W ⟨hx, -⟩; obtain ⟨f0, f1, f2, f3, f4⟩ := HF.out W hx; go_simp; all_goals rfl)); go_simp; apply hK; clear hK K))
  apply wpE_nil
  rintro W ⟨hW, hG⟩
  obtain ⟨_, _, e', hr⟩ := (hG 6).2 rfl
  cases e'
  go_wp2_with fail
  go_ret2
  exact ⟨B, d, rfl, hr, x0.tr hW⟩

/-- What two positions have in common. -/
def meetTo (a b : List Int) (k : Nat) : List Int := (List.range k).map fun i => bits .and .i64 (num a i) (num b i)
theorem meetTo_succ (a b : List Int) (k : Nat) : meetTo a b (k + 1) = meetTo a b k ++ [bits .and .i64 (num a k) (num b k)] := by simp [meetTo, List.range_succ]
def meetL (a b : List Int) : List Int := if a.length = b.length then normL (meetTo a b a.length) else []
def meetE (a b : List Int) : Int := if a.length = b.length then 0 else 250

set_option maxHeartbeats 1000000 in
theorem pMeet_ok (w : World) (A B : Option Addr) (c d : Nat) (a b : List Int) (h : RInts w A a) (g : RInts w B b) :
    Calls Try.prog 20 #[.slice A a.length c, .slice B b.length d] w fun e w' => RetIE w (meetL a b) (meetE a b) e w' := by
  have hl := h.len
  have gl := g.len
  by_cases hne : a.length = b.length
  · have hb : ((a.length : Int) != (b.length : Int)) = false := by simp [hne]
    have hlen := hid hne
    have r1 : meetL a b = normL (meetTo a b a.length) := if_pos hne
    have r2 : meetE a b = 0 := if_pos hne
    have R1 := hid r1; have R2 := hid r2
    clear hne r1 r2
    go_enter Try.func20, Try.ntmps20
    go_wp2_with fail
    go_loopw [4, 6, 14] (fun v _ i wr => ∃ (k : Nat) (C : Option Addr) (cc : Nat), k ≤ a.length ∧ i = .int .i64 k ∧ v = .slice C k cc ∧ OwnI wr w.heap.size (.slice C k cc) (meetTo a b k) ∧ Ext w wr) (fun _ _ i _ => a.length - (intOf i).toNat)
    case atStart => exact ⟨0, none, 0, Nat.zero_le _, rfl, rfl, OwnI.nil _ _, Ext.rfl' _⟩
    case round =>
      obtain ⟨k, C, cc, hk, rfl, rfl, hown, hx⟩ := hrel
      by_cases hlt : k < a.length
      · have hlt2 : k < b.length := by have := hlen.out; omega
        obtain ⟨ad, rfl, hab, hca, _⟩ := h.num (by omega)
        obtain ⟨bd, rfl, hbb, hcb, _⟩ := g.num (by omega)
        have hv : I64 (bits .and .i64 (num a k) (num b k)) := by rw [bits_and]; exact i64_toInt _
        have Hv := hid hv; clear hv
        have F : ∀ W, Ext wr W → W.cell? (ad.add k) = some (.int .i64 (num a k)) ∧ W.cell? (bd.add k) = some (.int .i64 (num b k)) :=
          fun W hW => ⟨cellE (hx.tr hW) (hca k hlt) (by rw [block_of_add]; exact hab), cellE (hx.tr hW) (hcb k hlt2) (by rw [block_of_add]; exact hbb)⟩
        have HF := hid F; clear F hca hcb
        go_wp2_with fail
        refine wp_region_sf_tail 11 (fun | 10 => some (SF.one (bits .and .i64 (num a k) (num b k))) | _ => none) (by kernel_rfl) (by kernel_rfl) ?_
        repeat (first | (refine wpE_skipK rfl (fun K hK => ?_); go_simp; apply hK; clear hK K) | (refine wpE_detK rfl rfl (fun K hK => ?_); apply Exists.intro; apply And.intro; (focus (rintro W ⟨hx, -⟩; obtain ⟨f0, f1⟩ := HF.out W hx; go_simp; all_goals rfl)); go_simp; apply hK; clear hK K))
        refine wpE_newK _ rfl rfl ?_ ?_
        · rintro W ⟨hW, -⟩
          go_simp
          exact ⟨(Ext.rfl' _).al _, W.heap.size, rfl, by simp, (Blk.new W _ _).cell 0⟩
        rintro _ ⟨_, gb, rfl, -⟩ K hK
        go_simp; apply hK; clear hK K
        repeat (first | (refine wpE_skipK rfl (fun K hK => ?_); go_simp; apply hK; clear hK K) | (refine wpE_detK rfl rfl (fun K hK => ?_); apply Exists.intro; apply And.intro; (focus (rintro W ⟨hx, -⟩; obtain ⟨f0, f1⟩ := HF.out W hx; go_simp; all_goals rfl)); go_simp; apply hK; clear hK K))
        apply wpE_nil
        rintro W ⟨hW, hG⟩
        obtain ⟨_, e', hgb, hcb⟩ := (hG 10).2 rfl
        cases e'
        clear hG
        go_simp
        go_wp2_with (at_builtin; refine app_at w (hx.tr hW) rfl _ _ rfl C k cc _ rfl (hown.to hW) gb _ rfl hcb Hv.out (by omega) ?_; intro C' cc' w2 hown2 hx2 _)
        go_roundw
        case rel => exact ⟨k + 1, C', cc', by omega, by go_num, rfl, hown2.as rfl (meetTo_succ a b k).symm, hx2⟩
        case measure => simp [intOf]; omega
      · obtain rfl : k = a.length := by omega
        have hm : (meetTo a b a.length).length = a.length := by simp [meetTo]
        have hn := normal_ok wr C cc _ (hown.as rfl rfl).ints
        rw [hm] at hn
        have Hn := hid hn; clear hn hm
        go_wp2_with (go_at_call 32; refine Hn.out.mono ?_; rintro e w2 ⟨D, dd, rfl, hr, hx2⟩)
        go_ret2
        rw [RetIE, R1.out, R2.out]
        exact ⟨D, dd, by simp [normL_len, meetTo], hr, hx.tr hx2⟩
  · have hb : ((a.length : Int) != (b.length : Int)) = true := by simp; omega
    have r1 : meetL a b = [] := if_neg hne
    have r2 : meetE a b = 250 := if_neg hne
    have R1 := hid r1; have R2 := hid r2
    clear r1 r2
    go_enter Try.func20, Try.ntmps20
    go_wp2_with fail
    go_ret2
    rw [RetIE, R1.out, R2.out]
    exact ⟨none, 0, rfl, RInts.nil _ _, Ext.rfl' _⟩

/-- A finished grid agrees with a position. -/
def agreeB (pos grid : List Int) : Bool := decide (pos.length = grid.length) && (List.range grid.length).all fun k => decide (0 ≤ num grid k ∧ num grid k ≤ 15) && hasS (num pos k) (num grid k).toNat
set_option maxHeartbeats 1000000 in
theorem agrees25_ok (w : World) (A B : Option Addr) (c d : Nat) (a b : List Int) (h : RInts w A a) (g : RInts w B b) :
    Calls Try.prog 19 #[.slice A a.length c, .slice B b.length d] w fun e w' => e = .returned (.bool (agreeB a b)) ∧ w = w' := by
  have hl := h.len
  have gl := g.len
  by_cases hne : a.length = b.length
  · have hb : ((a.length : Int) != (b.length : Int)) = false := by simp [hne]
    have hlen := hid hne
    clear hne
    go_enter Try.func19, Try.ntmps19
    go_wp2_with fail
    go_loop [5, 6, 14] (fun _ _ i => ∃ (k : Nat), k ≤ b.length ∧ i = .int .i64 k ∧ Hid ((List.range k).all (fun k => decide (0 ≤ num b k ∧ num b k ≤ 15) && hasS (num a k) (num b k).toNat) = true)) (fun _ _ i => b.length - (intOf i).toNat)
    case atStart => exact ⟨0, Nat.zero_le _, rfl, rfl⟩
    case round =>
      obtain ⟨k, hk, rfl, hno⟩ := hrel
      by_cases hlt : k < b.length
      · have hlt2 : k < a.length := by have := hlen.out; omega
        obtain ⟨ad, rfl, _, hca, _⟩ := h.num (by omega)
        obtain ⟨bd, rfl, _, hcb, _⟩ := g.num (by omega)
        by_cases hr : 0 ≤ num b k ∧ num b k ≤ 15
        · have hz := bits_shift_one (num a k) (num b k).toNat (by omega)
          cases hS : hasS (num a k) (num b k).toNat
          · have hzb : (bits .and .i64 (num a k / 2 ^ (num b k).toNat) 1 == 0) = true := by rw [hz, hS]; rfl
            have hf : (decide (0 ≤ num b k ∧ num b k ≤ 15) && hasS (num a k) (num b k).toNat) = false := by simp [hS]
            have Hf := hid hf
            obtain ⟨hr1, hr2⟩ := hr
            clear hf hz hS
            go_wp2_with fail
            go_ret
            exact ⟨ret_bool (by rw [agreeB, rall_bad hlt Hf.out]; simp), rfl⟩
          · have hzb : (bits .and .i64 (num a k / 2 ^ (num b k).toNat) 1 == 0) = false := by rw [hz, hS]; rfl
            have hf : (decide (0 ≤ num b k ∧ num b k ≤ 15) && hasS (num a k) (num b k).toNat) = true := by simp [hS, hr]
            have Hf := hid hf
            obtain ⟨hr1, hr2⟩ := hr
            clear hf hz hS
            go_wp2_with fail
            go_round
            case rel => exact ⟨k + 1, by omega, by go_num, rall_on hno Hf.out⟩
            case measure => simp [intOf]; omega
        · have hf : (decide (0 ≤ num b k ∧ num b k ≤ 15) && hasS (num a k) (num b k).toNat) = false := by simp [hr]
          have Hf := hid hf; clear hf
          by_cases h0 : num b k < 0
          all_goals
            go_wp2_with fail
            go_ret
            exact ⟨ret_bool (by rw [agreeB, rall_bad hlt Hf.out]; simp), rfl⟩
      · go_wp2_with fail
        go_ret
        exact ⟨ret_bool (by rw [agreeB, rall_end hno hk hlt]; simpa using hlen.out), rfl⟩
  · have hb : ((a.length : Int) != (b.length : Int)) = true := by simp; omega
    go_enter Try.func19, Try.ntmps19
    go_wp2_with fail
    go_ret
    exact ⟨ret_bool (by simp [agreeB, hne]), rfl⟩

def SomeBool (w : World) (e : Ending) (w' : World) : Prop := ∃ b, e = .returned (.bool b) ∧ Ext w w'
set_option maxRecDepth 100000 in
set_option maxHeartbeats 1000000 in
theorem few25_ok (w : World) (q : Problem) (p : PPtr) (h : RProb w q p) :
    Calls Try.prog 9 #[probV q p] w fun e w' => SomeBool w e w' := by
  have x0 := (Ext.rfl' w).al (probO q p)
  have hv := h.values.len
  have hn := h.neighbors.len
  have hc := h.cons.len
  go_enter Try.func9, Try.ntmps9
  go_wp2_with fail
  go_loopw [3, 4] (fun n i wr => ∃ (k m : Nat), k ≤ q.neighbors.length ∧ i = .int .i64 k ∧ n = .int .i64 m ∧ m ≤ 2000 + 17592186044416 * 3 ∧ Ext (w.alloc (probO q p)) wr) (fun _ i _ => q.neighbors.length - (intOf i).toNat)
  case atStart => exact ⟨0, q.values.length + q.neighbors.length + q.cons.length, by omega, rfl, rfl, by omega, Ext.rfl' _⟩
  case round =>
    obtain ⟨k, m, hk, rfl, rfl, hm, hx⟩ := hrel
    obtain ⟨f0, f1, f2, f3, f4⟩ := probBox hx rfl
    by_cases hgo : k < q.neighbors.length ∧ (m : Int) < 2000
    · obtain ⟨hlt, hm2⟩ := hgo
      obtain ⟨ad, Bi, ci, hpb, _, hci, hBi⟩ := (h.neighbors.to (x0.tr hx)).rowAt k hlt
      have hBl := hBi.len
      obtain ⟨pa, pac, pb, pbc, pc, pcc⟩ := p
      dsimp only at hpb
      subst hpb
      go_wp2_with fail
      go_roundw
      case rel => exact ⟨k + 1, m + (row q.neighbors k).length, by omega, by go_num, by go_num, by omega, hx⟩
      case measure => simp [intOf]; omega
    · clear f0 f1 f2 f3 f4
      by_cases hlt : k < q.neighbors.length
      all_goals
        first
          | have hm2 : (2000 : Int) ≤ m := by omega
          | skip
        obtain ⟨f0, f1, f2, f3, f4⟩ := probBox hx rfl
        go_wp2_with fail
        clear hgo f0 f1 f2 f3 f4
        go_loopw [3, 5] (fun n i wr => ∃ (k m : Nat), k ≤ q.cons.length ∧ i = .int .i64 k ∧ n = .int .i64 m ∧ m ≤ 2000 + 17592186044416 * 3 ∧ Ext (w.alloc (probO q p)) wr) (fun _ i _ => q.cons.length - (intOf i).toNat)
        case atStart => exact ⟨0, m, by omega, rfl, rfl, by omega, hx⟩
        case round =>
          obtain ⟨k', m', hk', rfl, rfl, hm', hx⟩ := hrel
          obtain ⟨f0, f1, f2, f3, f4⟩ := probBox hx rfl
          by_cases hgo : k' < q.cons.length ∧ (m' : Int) < 2000
          · obtain ⟨hlt', hm2'⟩ := hgo
            obtain ⟨ad, B, b, C, cc, hpc, hlt0, hB, hC, hok, h0, h1, h2, h3, h4, h5, h6, h7, h8⟩ := (h.cons.to (x0.tr hx)).consLoad k' hlt'
            have hBl := hB.len
            have hCl := hC.len
            obtain ⟨pa, pac, pb, pbc, pc, pcc⟩ := p
            dsimp only at hpc
            subst hpc
            clear h0 h2 h3 h4 h5 h7 h8 hok
            go_wp2_with fail
            go_quiet (fail)
            go_wp2_with fail
            go_roundw
            case rel => exact ⟨k' + 1, m' + (q.cons[k'].cells.length + q.cons[k'].runs.length), by omega, by go_num, by go_num, by omega, hx.drN _⟩
            case measure => simp [intOf]; omega
          · by_cases hlt' : k' < q.cons.length
            all_goals
              first
                | have hm2' : (2000 : Int) ≤ m' := by omega
                | skip
              go_wp2_with fail
              go_ret
              exact ⟨_, rfl, x0.tr hx⟩
end Go.Proofs.Ytjinbjkbchnhpaa
