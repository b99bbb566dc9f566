/- Contract: the finished grids that agree with a position (the law's own function). -/
import Derived.Test.YtimkijmjbnmcbaaGreatYmGi
import Derived.Test.YtimkijmjbnmcbaaGreatYmOn
namespace Go.Proofs.YtimkijmjbnmcbaaGreat
open Go Go.RowKit
/-- A grid, one cell longer, by the first m symbols of a set. -/
def spread (s : Int) (x : List Int) (m : Nat) : List (List Int) := (List.range m).flatMap fun i : Nat => if hasS s i then [x ++ [(i : Int)]] else []
theorem spread_succ (s : Int) (x : List Int) (m : Nat) : spread s x (m + 1) = spread s x m ++ if hasS s m then [x ++ [(m : Int)]] else [] := by
  unfold spread; rw [List.range_succ, List.flatMap_append]; simp
theorem spread_len (s : Int) (x : List Int) : ∀ m, (spread s x m).length ≤ m
  | 0 => by simp [spread]
  | m + 1 => by have := spread_len s x m; rw [spread_succ, List.length_append]; split <;> simp <;> omega
def nextG (s : Int) (cs : List (List Int)) (j : Nat) : List (List Int) := (cs.take j).flatMap fun x => spread s x 4
theorem nextG_succ {s : Int} {cs : List (List Int)} {j : Nat} (h : j < cs.length) : nextG s cs (j + 1) = nextG s cs j ++ spread s (row cs j) 4 := by
  unfold nextG; rw [List.take_succ_eq_append_getElem h, List.flatMap_append, row_eq h]; simp
theorem nextG_len {s : Int} {cs : List (List Int)} : ∀ j, (nextG s cs j).length ≤ j * 4
  | 0 => by simp [nextG]
  | j + 1 => by
    by_cases h : j < cs.length
    · rw [nextG_succ h, List.length_append]
      have := nextG_len (s := s) (cs := cs) j
      have := spread_len s (row cs j) 4
      omega
    · have e : nextG s cs (j + 1) = nextG s cs j := by unfold nextG; rw [List.take_of_length_le (by omega), List.take_of_length_le (by omega)]
      rw [e]
      have := nextG_len (s := s) (cs := cs) j
      omega
def gridsTo (pos : List Int) : Nat → List (List Int)
  | 0 => [[]]
  | k + 1 => nextG (num pos k) (gridsTo pos k) (gridsTo pos k).length
def midG (s : Int) (cs : List (List Int)) (j m : Nat) : List (List Int) := nextG s cs j ++ spread s (row cs j) m
theorem midG_zero (s : Int) (cs : List (List Int)) (j : Nat) : midG s cs j 0 = nextG s cs j := by simp [midG, spread]
theorem midG_no {s : Int} {cs : List (List Int)} {j m : Nat} (h : hasS s m = false) : midG s cs j (m + 1) = midG s cs j m := by unfold midG; rw [spread_succ, h]; simp
theorem midG_yes {s : Int} {cs : List (List Int)} {j m : Nat} (h : hasS s m = true) : midG s cs j (m + 1) = midG s cs j m ++ [row cs j ++ [(m : Int)]] := by unfold midG; rw [spread_succ, h]; simp
theorem midG_end {s : Int} {cs : List (List Int)} {j : Nat} (h : j < cs.length) : midG s cs j 4 = nextG s cs (j + 1) := by unfold midG; rw [nextG_succ h]
theorem midG_len {s : Int} {cs : List (List Int)} (hc : cs.length ≤ 512) {j m : Nat} (hj : j < cs.length) (hm : m < 4) : (midG s cs j m).length < 100000 := by
  unfold midG
  rw [List.length_append]
  have h1 := nextG_len (s := s) (cs := cs) j
  have h2 := spread_len s (row cs j) m
  omega
theorem spread_mem {s : Int} {x y : List Int} {m : Nat} (h : y ∈ spread s x m) : ∃ i : Nat, i < m ∧ hasS s i = true ∧ y = x ++ [(i : Int)] := by
  unfold spread at h
  obtain ⟨i, hi, h⟩ := List.mem_flatMap.1 h
  split at h
  · exact ⟨i, List.mem_range.1 hi, by assumption, List.mem_singleton.1 h⟩
  · simp at h
theorem nextG_mem {s : Int} {cs : List (List Int)} {j : Nat} {y : List Int} (h : y ∈ nextG s cs j) : ∃ x ∈ cs, ∃ i : Nat, i < 4 ∧ hasS s i = true ∧ y = x ++ [(i : Int)] := by
  unfold nextG at h
  obtain ⟨x, hx, h⟩ := List.mem_flatMap.1 h
  obtain ⟨i, h1, h2, h3⟩ := spread_mem h
  exact ⟨x, List.mem_of_mem_take hx, i, h1, h2, h3⟩
/-- What the grids are like. -/
theorem gridsTo_mem {pos : List Int} : ∀ {k : Nat} {x : List Int}, x ∈ gridsTo pos k → x.length = k ∧ ∀ i, i < k → (0 ≤ num x i ∧ num x i < 4) ∧ hasS (num pos i) (num x i).toNat = true
  | 0, x, h => by
    unfold gridsTo at h
    obtain rfl := List.mem_singleton.1 h
    exact ⟨rfl, fun i hi => by omega⟩
  | k + 1, x, h => by
    unfold gridsTo at h
    obtain ⟨y, hy, a, ha, hs, rfl⟩ := nextG_mem h
    obtain ⟨h1, h2⟩ := gridsTo_mem hy
    refine ⟨by simp [h1], fun i hi => ?_⟩
    by_cases e : i < k
    · have : num (y ++ [(a : Int)]) i = num y i := by rw [num_eq (by simp; omega), num_eq (by omega), List.getElem_append_left (by omega)]
      rw [this]; exact h2 i e
    · obtain rfl : i = k := by omega
      have : num (y ++ [(a : Int)]) i = a := by rw [num_eq (by simp; omega)]; simp [← h1]
      rw [this]
      exact ⟨by omega, by simpa using hs⟩
def RetGr (w : World) (pos : List Int) (e : Ending) (w' : World) : Prop := ∃ (A : Option Addr) (c : Nat) (L : List (List Int)) (b : Bool), e = .returned (.tuple #[.slice A L.length c, .bool b]) ∧ (b = true → L = gridsTo pos pos.length ∧ RRows w' A L ∧ L.length ≤ 512) ∧ Ext w w'
theorem rows_z {b0 : Nat} {w : World} {A : Option Addr} {l : List (List Int)} (h : RSl 1 (RRowZ b0) w A l) : RRows w A l := by
  refine ⟨h.1, fun hp => ?_⟩
  obtain ⟨ad, e, hb, hc⟩ := h.2 hp
  refine ⟨ad, e, hb, fun i hi => ?_⟩
  obtain ⟨vs, hn, ⟨B, c, rfl, hi2, -⟩, hv⟩ := hc i hi
  exact ⟨_, hn, ⟨B, c, rfl, hi2⟩, hv⟩
theorem shr_nat {x : Int} {k : Nat} (hk : k < 64) : (bits .and .i64 (x / 2 ^ k) 1 == 1) = hasS x k := by
  have := shr_bit (x := x) (s := (k : Int)) (by omega) (by omega)
  simpa using this
set_option maxRecDepth 100000 in
set_option maxHeartbeats 8000000 in
theorem grids33_ok (w : World) (P : Option Addr) (pn : Nat) (pos : List Int) (hP : RInts w P pos) : Calls Tryz.prog 8 #[.slice P pos.length pn] w (RetGr w pos) := by
  have b0 := Blk.new w 22 #[.slice none 0 0]
  have r0 : RSl 1 (RRowZ w.heap.size) (w.alloc (.cells #[.slice none 0 0] 22)) (some ⟨w.heap.size, 0, none⟩) (gridsTo pos 0) := RSl.one b0 _ _ rfl rfl ⟨none, 0, rfl, RInts.nil _ _, fun _ => rfl, Nat.le_refl _, fun _ e => by cases e⟩ (by decide)
  have R0 := hid r0; clear r0 b0
  have hpl := hP.len
  go_enter Tryz.func8, Tryz.ntmps8
  go_wp2_with fail
  go_loopw [2, 5, 6, 8, 9, 13] (fun o _ _ _ _ i wr => ∃ (m : Nat) (A : Option Addr) (c : Nat), m ≤ pos.length ∧ i = .int .i64 m ∧ o = .slice A (gridsTo pos m).length c ∧ RSl 1 (RRowZ w.heap.size) wr A (gridsTo pos m) ∧ Hid ((gridsTo pos m).length ≤ 512) ∧ Ext w wr) (fun _ _ _ _ _ i _ => pos.length - (intOf i).toNat)
  case atStart => exact ⟨0, _, 1, Nat.zero_le _, rfl, rfl, R0.out, hid (by simp [gridsTo]), (Ext.rfl' _).al _⟩
  case round =>
    clear R0
    obtain ⟨m, A, c, hm, rfl, rfl, hL, hL5, hx⟩ := hrel
    obtain ⟨wo, rfl⟩ : ∃ wo : World, wo = wr := ⟨_, rfl⟩
    by_cases hlt : m < pos.length
    · obtain ⟨pd, rfl, hpb, hpc, hpi⟩ := (hP.to hx).num (by omega)
      have hp1 := hpc m hlt
      clear hpc hpi
      have e0 : gridsTo pos (m + 1) = nextG (num pos m) (gridsTo pos m) (gridsTo pos m).length := rfl
      have hlong : ∀ j, j < (gridsTo pos m).length → (row (gridsTo pos m) j).length = m := fun j hj => by rw [row_eq hj]; exact (gridsTo_mem (List.getElem_mem hj)).1
      have E0 := hid e0; have Hlong := hid hlong; clear e0 hlong
      generalize gridsTo pos m = cs at *
      obtain ⟨s, hs⟩ : ∃ s, num pos m = s := ⟨_, rfl⟩
      rw [hs] at hp1 E0
      clear hs
      have hl5 := hL5.out
      go_wp2_with fail
      go_loopw [6, 8, 9, 19] (fun nx _ _ j wv => ∃ (jj : Nat) (A' : Option Addr) (c' : Nat), jj ≤ cs.length ∧ j = .int .i64 jj ∧ nx = .slice A' (nextG s cs jj).length c' ∧ OwnG (ERowZ w.heap.size) wv wo.heap.size noT A' (nextG s cs jj).length c' (nextG s cs jj) ∧ Ext wo wv) (fun _ _ _ j _ => cs.length - (intOf j).toNat)
      case atStart => exact ⟨0, none, 0, Nat.zero_le _, rfl, by simp [nextG], (OwnG.nil (ERowZ w.heap.size) _ _ _).as (by simp [nextG]) (by simp [nextG]), Ext.rfl' _⟩
      case round =>
        obtain ⟨jj, A1, c1, hj, rfl, rfl, ho1, hx1⟩ := hrel
        by_cases hlt2 : jj < cs.length
        · obtain ⟨ad, B, b, rfl, hab, hcb, hB, hz, hbc, -⟩ := rowzAt hL jj hlt2
          rw [← row_eq hlt2] at hcb hB hbc
          replace hcb := cellE hx1 hcb (by rw [block_of_add]; exact hab)
          have hBl := Hlong.out jj hlt2
          have HBl := hid hBl; clear hBl
          go_wp2_with fail
          clear hcb
          go_loopw [6, 9] (fun nx a wu => ∃ (aa : Nat) (A' : Option Addr) (c' : Nat), aa ≤ 4 ∧ a = .int .i64 aa ∧ nx = .slice A' (midG s cs jj aa).length c' ∧ OwnG (ERowZ w.heap.size) wu wo.heap.size noT A' (midG s cs jj aa).length c' (midG s cs jj aa) ∧ Ext wo wu) (fun _ a _ => 4 - (intOf a).toNat)
          case atStart => exact ⟨0, A1, c1, Nat.zero_le _, rfl, by rw [midG_zero], ho1.as (by rw [midG_zero]) (by rw [midG_zero]), hx1⟩
          case round =>
            clear ho1 hx1
            obtain ⟨aa, A2, c2, ha, rfl, rfl, ho, hx2⟩ := hrel
            obtain ⟨wu, rfl⟩ : ∃ wu : World, wu = wr := ⟨_, rfl⟩
            by_cases hlt3 : aa < 4
            · have hw9 : IntKind.u64.wrap (aa : Int) = aa := IntWalk.u64_in _ ⟨by omega, by omega⟩
              have hsb := shr_nat (x := s) (k := aa) (by omega)
              cases e1 : hasS s aa
              · rw [e1] at hsb
                have Hm := hid (midG_no (cs := cs) (j := jj) e1)
                go_wp2_with fail
                go_roundw
                case rel => exact ⟨aa + 1, A2, c2, by omega, by go_num, by rw [Hm.out], ho.as (by rw [Hm.out]) (by rw [Hm.out]), hx2⟩
                case measure => simp [intOf]; omega
              · rw [e1] at hsb
                have Hm := hid (midG_yes (cs := cs) (j := jj) e1)
                have hml := midG_len (s := s) hl5 hlt2 hlt3
                have hem := OwnI.empty wu
                have hB0 := (hB.to hx2).to ((Ext.rfl' wu).al (.cells #[] 3))
                have hx0 := (Ext.rfl' wu).al (.cells #[] 3)
                have hrl := HBl.out
                have hrb : (row cs jj).length + 1 ≤ 17592186044416 := by omega
                have Hrl := hid hrb; clear hrl hrb
                go_wp2_with (first
                  | (at_builtin; refine app_src wu hx0 rfl _ _ rfl (some ⟨wu.heap.size, 0, none⟩) 0 0 [] rfl hem B (row cs jj).length b rfl hz (row cs jj) rfl hB0 (by have := Hrl.out; simp; omega) ?_; intro X xc w1 hX hx3 _; rw [List.nil_append] at hX; rw [Nat.zero_add] at hX ⊢)
                  | (at_builtin; refine app_one wu hx3 rfl _ _ rfl X (row cs jj).length xc (row cs jj) rfl hX _ (aa : Int) rfl ⟨by omega, by omega⟩ (by have := Hrl.out; omega) ?_; intro Y yc w2 hY hx5 _; have hnew := newRow (b0 := w.heap.size) (A2 := A2) (by have := hx.size; have := hx2.size; omega) (fun g hg => (ho.lt g hg).2) hY (Nat.succ_pos _))
                  | (at_builtin; refine app_g (ERowZ w.heap.size) wo.heap.size (by have := hx2.size; have := hx5.size; simp; omega) rfl _ _ rfl noT A2 (midG s cs jj aa).length c2 (midG s cs jj aa) rfl ((ho.to hx5).to ((Ext.rfl' _).al _)) ⟨w2.heap.size, 0, none⟩ 1 1 rfl [row cs jj ++ [(aa : Int)]] [[.slice Y ((row cs jj).length + 1) yc]] rfl hnew.1 hnew.2 (by show (_ + 1) * 24 ≤ _; omega) (by simp [maxLen]; omega) ?_; intro Z zc w3 hg3))
                have hx6 : Ext wo w3 := OwnG.ext ((hx2.tr hx5).al _) ((ho.to hx5).to ((Ext.rfl' _).al _)) hg3.grown
                have hown3 := hg3.own
                go_roundw
                case rel => exact ⟨aa + 1, Z, zc, by omega, by go_num, by rw [Hm.out, List.length_append]; rfl, by have h9 := hown3; rw [← Hm.out] at h9; exact h9.as (by rw [Hm.out, List.length_append]; rfl) rfl, hx6⟩
                case measure => simp [intOf]; omega
            · obtain rfl : aa = 4 := by omega
              have Hm := hid (midG_end (s := s) hlt2)
              rw [Hm.out] at ho
              rw [Hm.out]
              go_wp2_with fail
              go_roundw
              case rel => exact ⟨jj + 1, A2, c2, by omega, by go_num, rfl, ho, hx2⟩
              case measure => simp [intOf]; omega
        · obtain rfl : jj = cs.length := by omega
          have hnl := nextG_len (s := s) (cs := cs) cs.length
          have hr := ho1.rsl (E := ERowZ w.heap.size) (by show _ * 8 ≤ _; omega)
          rw [← E0.out] at hr hnl
          rw [← E0.out]
          by_cases h5 : (512 : Int) < ((gridsTo pos (m + 1)).length : Int)
          · go_wp2_with fail
            go_ret2
            exact ⟨none, 0, [], false, rfl, fun e => (by cases e), hx.tr hx1⟩
          · have hl6 := hid (show (gridsTo pos (m + 1)).length ≤ 512 by omega)
            go_wp2_with fail
            go_roundw
            case rel => exact ⟨m + 1, A1, c1, by omega, by go_num, rfl, hr, hl6, hx.tr hx1⟩
            case measure => simp [intOf]; omega
    · obtain rfl : m = pos.length := by omega
      go_wp2_with fail
      go_ret2
      exact ⟨A, c, _, true, rfl, fun _ => ⟨rfl, rows_z hL, hL5.out⟩, hx⟩
end Go.Proofs.YtimkijmjbnmcbaaGreat
