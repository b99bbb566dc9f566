/- Contracts: the reference's check of graphs, and of different numbers. -/
import Derived.Test.YtjinbjkbchnhpaaCc
namespace Go.Proofs.Ytjinbjkbchnhpaa
open Go.RowKit

set_option maxHeartbeats 1000000 in
theorem check12_ok (w : World) (A : Option Addr) (c : Nat) (g : List (List Int)) (h : RRows w A g) :
    Calls Try.prog 41 #[.slice A g.length c] w fun e w' => e = .returned (.int .i64 (gErr g)) ∧ w = w' := by
  have hl := h.len
  by_cases hbig : 256 < g.length
  · go_enter Try.func41, Try.ntmps41
    go_wp2_with fail
    go_ret
    exact ⟨ret_int (gErr_long hbig).symm, rfl⟩
  go_enter Try.func41, Try.ntmps41
  go_wp2_with fail
  go_loop [3] (fun i => ∃ k : Nat, k ≤ g.length ∧ i = .int .i64 k ∧ Hid ((List.range k).all (gRow g) = true)) (fun i => g.length - (intOf i).toNat)
  case atStart => exact ⟨0, Nat.zero_le _, rfl, rfl⟩
  case round =>
    obtain ⟨i, hi, rfl, hno⟩ := hrel
    by_cases hlt : i < g.length
    · obtain ⟨ad, Bi, ci, rfl, _, hci, hBi⟩ := h.rowAt i hlt
      have hBl := hBi.len
      go_wp2_with fail
      go_loop [4] (fun i' => ∃ k : Nat, k ≤ (row g i).length ∧ i' = .int .i64 k ∧ Hid ((List.range k).all (gEdge g i) = true)) (fun i' => (row g i).length - (intOf i').toNat)
      case atStart => exact ⟨0, Nat.zero_le _, rfl, rfl⟩
      case round =>
        obtain ⟨k, hk, rfl, hno2⟩ := hrel
        by_cases hlt2 : k < (row g i).length
        · obtain ⟨bd, rfl, _, hd, _⟩ := hBi.num (by omega)
          have hkk : 0 < k → k - 1 < (row g i).length := fun _ => by omega
          obtain ⟨B, cB, hc, hB⟩ := h.rowOf (by omega)
          have hcn : 0 ≤ num (row g i) k → num (row g i) k < g.length → w.cell? (ad.add (num (row g i) k).toNat) = some (.slice (B (num (row g i) k).toNat) (row g (num (row g i) k).toNat).length (cB (num (row g i) k).toNat)) := fun _ _ => hc _ (by omega)
          clear hc
          have HB := hid hB; clear hB
          go_wp2_with (go_at_call 49; refine (has12_ok _ _ _ _ (HB.out _ (by omega)) _).mono ?_; rintro e w1 ⟨rfl, rfl⟩)
          all_goals first
            | (go_ret; exact ⟨ret_int (gErr_bad hlt hlt2 (by grind [gEdge])).symm, rfl⟩)
            | (go_round
               case rel => exact ⟨k + 1, by omega, by go_num, rall_on hno2 (by grind [gEdge])⟩
               case measure => simp [intOf]; omega)
        · go_wp2_with fail
          go_round
          case rel => exact ⟨i + 1, by omega, by go_num, rall_on hno (rall_end hno2 hk hlt2)⟩
          case measure => simp [intOf]; omega
    · go_wp2_with fail
      go_ret
      exact ⟨ret_int (gErr_good (by omega) (rall_end hno hi hlt)).symm, rfl⟩

/-- No number stands twice. -/
def distinct (l : List Int) : Bool := (List.range l.length).all fun i => (List.range i).all fun k => !(num l i == num l k)

set_option maxHeartbeats 1000000 in
theorem diff19_ok (w : World) (A : Option Addr) (c : Nat) (l : List Int) (h : RInts w A l) :
    Calls Try.prog 50 #[.slice A l.length c] w fun e w' => e = .returned (.bool (distinct l)) ∧ ∃ n, w' = w.drewN n := by
  have hl := h.len
  go_enter Try.func50, Try.ntmps50
  go_wp2_with fail
  go_loopw [3] (fun i wr => ∃ k n : Nat, k ≤ l.length ∧ i = .int .i64 k ∧ Hid ((List.range k).all (fun i => (List.range i).all fun k => !(num l i == num l k)) = true) ∧ wr = w.drewN n) (fun i _ => l.length - (intOf i).toNat)
  case atStart => exact ⟨0, 0, Nat.zero_le _, rfl, rfl, rfl⟩
  case round =>
    obtain ⟨i, n, hi, rfl, hno, rfl⟩ := hrel
    by_cases hlt : i < l.length
    · obtain ⟨ad, rfl, _, hc, _⟩ := h.num (by omega)
      go_wp2_with fail
      go_loopw [4] (fun i' wr => ∃ k m : Nat, k ≤ i ∧ i' = .int .i64 k ∧ Hid ((List.range k).all (fun k => !(num l i == num l k)) = true) ∧ wr = w.drewN m) (fun i' _ => i - (intOf i').toNat)
      case atStart => exact ⟨0, n, Nat.zero_le _, rfl, rfl, rfl⟩
      case round =>
        obtain ⟨k, m, hk, rfl, hno2, rfl⟩ := hrel
        by_cases hlt2 : k < i
        · have hkl : k < l.length := by omega
          go_wp2_with fail
          go_quiet (fail)
          go_wp2_with fail
          · have hz : (num l i == num l k) = true := by assumption
            go_ret
            exact ⟨ret_bool (rall_bad hlt (rall_bad hlt2 (by rw [hz]; rfl))).symm, _, by first | rfl | exact World.drewN_drewN _ _ _⟩
          · have hz : (num l i == num l k) = false := by assumption
            go_roundw
            case rel => exact ⟨k + 1, _, by omega, by go_num, rall_on hno2 (by rw [hz]; rfl), by first | rfl | exact World.drewN_drewN _ _ _⟩
            case measure => simp [intOf]; omega
        · go_wp2_with fail
          go_roundw
          case rel => exact ⟨i + 1, m, by omega, by go_num, rall_on hno (rall_end hno2 hk hlt2), rfl⟩
          case measure => simp [intOf]; omega
    · go_wp2_with fail
      go_ret
      exact ⟨ret_bool (rall_end hno hi hlt).symm, n, rfl⟩
end Go.Proofs.Ytjinbjkbchnhpaa
