/- Contract: the nodes that are connected with a node within a set (the reference). -/
import Derived.Deep.DeepCutAuto
import Derived.Test.YtimkijmjbnmcbaaGreatYmGa
namespace Go.Proofs.YtimkijmjbnmcbaaGreat
open Go Go.RowKit
/-- How many nodes are missing, read off the block. -/
def missW (W : World) (g : Nat) : Nat := match W.heap[g]? with | some (.cells cs _ _) => (cs.toList.filter fun v => match v with | .bool false => true | _ => false).length | _ => 0
theorem missW_eq {W : World} {g : Nat} {l : List Bool} (h : BB W g l) : missW W g = miss l := by
  unfold missW
  have : W.heap[g]? = some (.cells (bA l) 4 (0, 0)) := h
  rw [this]
  unfold miss bA
  simp only
  clear h this
  induction l with
  | nil => rfl
  | cons b l ih =>
    simp only [List.map_cons, List.filter_cons] at ih ⊢
    cases b <;> simp at * <;> omega
def isT (v : Value) : Nat := match v with | .bool true => 1 | _ => 0
/-- A round has found something, or nothing has turned. -/
def Went (m0 m : List Bool) (b : Bool) : Prop := if b then miss m < miss m0 else m = m0
theorem Went.start (m : List Bool) : Went m m false := by simp [Went]
theorem Went.go {m0 m : List Bool} {b : Bool} (h : Went m0 m b) {k : Nat} (hk : k < m.length) (hb : bit_ m k = false) : Went m0 (m.set k true) true := by
  have := miss_set hk hb
  unfold Went at *
  cases b <;> simp at * <;> (try subst h) <;> omega
set_option maxRecDepth 100000 in
set_option maxHeartbeats 4000000 in
theorem conn12_ok (w : World) (A : Option Addr) (c : Nat) (g : List (List Int)) (h : RRows w A g) (hg : GR g) (b : Nat) (ins : List Bool) (hb : BB w b ins) (hl : ins.length = g.length) (s : Nat) (hs : s < g.length) (hm : g.length ≤ 256) :
    Calls Tryz.prog 101 #[.slice A g.length c, .slice (some ⟨b, 0, none⟩) ins.length ins.length, .int .i64 (s : Int)] w (RetBs w g.length fun l => bit_ l s = true) := by
  have hmk := make_bools g.length (by omega)
  have Hg := hid hg
  have hbl : b < w.heap.size := hb.lt
  have h1 : BB (w.alloc (.cells ((bA (List.replicate g.length false)).setIfInBounds s (.bool true)) 4)) w.heap.size ((List.replicate g.length false).set s true) := by rw [bA_set]; exact Blk.new w _ _
  have hw1 : Ext w (w.alloc (.cells ((bA (List.replicate g.length false)).setIfInBounds s (.bool true)) 4)) := (Ext.rfl' w).al _
  have hcl : (bA (List.replicate g.length false))[s]? = some (.bool false) := by rw [bA_get (by simpa using hs)]; simp [bit_, hs]
  have hs1 : bit_ ((List.replicate g.length false).set s true) s = true := by rw [bit_set (by simpa using hs)]; simp
  have hln : ((List.replicate g.length false).set s true).length = g.length := by simp
  go_enter Tryz.func101, Tryz.ntmps101
  go_upto_region 3 with fail
  obtain ⟨m0, hm0⟩ : ∃ m0, (List.replicate g.length false).set s true = m0 := ⟨_, rfl⟩
  rw [hm0] at h1 hs1 hln
  obtain ⟨W0, hW0⟩ : ∃ W0, w.alloc (.cells ((bA (List.replicate g.length false)).setIfInBounds s (.bool true)) 4) = W0 := ⟨_, rfl⟩
  rw [hW0] at h1 hw1 ⊢
  clear hW0 hm0 hcl hmk
  go_wp2_with fail
  go_loopw [8, 9, 10] (fun m _ _ wr => ∃ (met : List Bool) (bm : Bool), m = .bool bm ∧ met.length = g.length ∧ bit_ met s = true ∧ BB wr w.heap.size met ∧ Ext w wr) (fun m _ _ wr => 2 * missW wr w.heap.size + isT m)
  case atStart => exact ⟨m0, true, rfl, hln, hs1, h1, hw1⟩
  case round =>
    clear h1 hs1 hln hw1
    obtain ⟨met, bm, rfl, hml, hms, hB, hx⟩ := hrel
    obtain ⟨wo, rfl⟩ : ∃ wo : World, wo = wr := ⟨_, rfl⟩
    cases bm
    · go_wp2_with fail
      go_ret
      exact ⟨met, w.heap.size, hml, hms, rfl, hB, Nat.le_refl _, hx⟩
    have hM := missW_eq hB
    go_wp2_with fail
    go_loopw [8, 9, 10] (fun m i _ wr => ∃ (k : Nat) (mt : List Bool) (bm : Bool), k ≤ g.length ∧ i = .int .i64 k ∧ m = .bool bm ∧ mt.length = g.length ∧ bit_ mt s = true ∧ Hid (Went met mt bm) ∧ BB wr w.heap.size mt ∧ Ext w wr) (fun _ i _ _ => g.length - (intOf i).toNat)
    case atStart => exact ⟨0, met, false, Nat.zero_le _, rfl, rfl, hml, hms, hid (Went.start met), hB, hx⟩
    case round =>
      clear hB hx
      obtain ⟨k, mt, bm, hk, rfl, rfl, htl, hts, hw, hB, hx⟩ := hrel
      by_cases hlt : k < g.length
      · go_wp2_with fail
        go_loopw [8, 10] (fun m j wu => ∃ (jj : Nat) (nt : List Bool) (bm : Bool), jj ≤ (row g k).length ∧ j = .int .i64 jj ∧ m = .bool bm ∧ nt.length = g.length ∧ bit_ nt s = true ∧ Hid (Went met nt bm) ∧ BB wu w.heap.size nt ∧ Ext w wu) (fun _ j _ => (row g k).length - (intOf j).toNat)
        case atStart => exact ⟨0, mt, bm, Nat.zero_le _, rfl, rfl, htl, hts, hw, hB, hx⟩
        case round =>
          clear hB hx hw hts htl
          obtain ⟨jj, nt, bn, hj, rfl, rfl, hnl, hns, hw, hB, hx⟩ := hrel
          obtain ⟨ad, B, cb, rfl, hab, hcb, hR⟩ := (h.to hx).rowAt k hlt
          have hrl := hR.len
          by_cases hlt2 : jj < (row g k).length
          · obtain ⟨bd, rfl, hbb, hcc, _⟩ := hR.num (by omega)
            have hc2 := hcc jj hlt2
            obtain ⟨n0, n1⟩ := Hg.out k hlt jj hlt2
            obtain ⟨x, hxn⟩ : ∃ x : Nat, num (row g k) jj = x := ⟨(num (row g k) jj).toNat, by omega⟩
            rw [hxn] at hc2 n0 n1
            have hxl : x < g.length := by omega
            clear hcc
            have q1 := BB.at_ hB (k := k) (by omega)
            have q2 := BB.at_ hB (k := x) (by omega)
            have q3 := BB.at_ (hb.ext hx) (k := x) (by omega)
            have q4 := Blk.frozen hB x
            cases e1 : bit_ nt k
            · rw [e1] at q1
              go_wp2_with fail
              go_roundw
              case rel => exact ⟨jj + 1, nt, bn, by omega, by go_num, rfl, hnl, hns, hw, hB, hx⟩
              case measure => simp [intOf]; omega
            rw [e1] at q1
            cases e2 : bit_ ins x
            · rw [e2] at q3
              go_wp2_with fail
              go_roundw
              case rel => exact ⟨jj + 1, nt, bn, by omega, by go_num, rfl, hnl, hns, hw, hB, hx⟩
              case measure => simp [intOf]; omega
            rw [e2] at q3
            cases e3 : bit_ nt x
            rotate_left
            · rw [e3] at q2
              go_wp2_with fail
              go_roundw
              case rel => exact ⟨jj + 1, nt, bn, by omega, by go_num, rfl, hnl, hns, hw, hB, hx⟩
              case measure => simp [intOf]; omega
            rw [e3] at q2
            have hW2 := hid (hw.out.go (k := x) (by omega) e3)
            have hx2 : Ext w (wr.setCell ⟨w.heap.size, x, none⟩ (.bool true)) := hx.set (Nat.le_refl _) _
            have hB2 := BB.put hB x true
            have hs2 : bit_ (nt.set x true) s = true := by rw [bit_set (by omega), hns]; rfl
            go_wp2_with fail
            go_roundw
            case rel => exact ⟨jj + 1, nt.set x true, true, by omega, by go_num, rfl, by simpa using hnl, hs2, hW2, hB2, hx2⟩
            case measure => simp [intOf]; omega
          · go_wp2_with fail
            go_roundw
            case rel => exact ⟨k + 1, nt, bn, by omega, by go_num, rfl, hnl, hns, hw, hB, hx⟩
            case measure => simp [intOf]; omega
      · have hM2 := missW_eq hB
        have hw2 := hw.out
        go_wp2_with fail
        go_roundw
        case rel => exact ⟨mt, bm, rfl, htl, hts, hB, hx⟩
        case measure =>
          rw [hM, hM2]
          unfold Went at hw2
          cases bm <;> simp [isT] at hw2 ⊢ <;> (try subst hw2) <;> omega
end Go.Proofs.YtimkijmjbnmcbaaGreat
