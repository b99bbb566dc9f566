/- Contracts: searching lists of integers, comparing lists, ranges, in both texts. -/
import Derived.Test.YtjinbjkbchnhpaaCa
import Derived.Deep.QuietTactic
import Derived.BigQuiet
namespace Go.Proofs.Ytjinbjkbchnhpaa
open Go.RowKit

set_option maxHeartbeats 400000 in
theorem indexInt_ok (w : World) (A : Option Addr) (c : Nat) (l : List Int) (h : RInts w A l) (n : Int) :
    Calls Try.prog 53 #[.slice A l.length c, .int .i64 n] w fun e w' => e = .returned (.int .i64 (idx (n == ·) l)) ∧ w = w' := by
  have hl := h.len
  go_enter Try.func53, Try.ntmps53
  go_wp2_with fail
  go_loop [8] (fun i => ∃ k : Nat, k ≤ l.length ∧ i = .int .i64 k ∧ Hid ((l.take k).any (n == ·) = false)) (fun i => l.length - (intOf i).toNat)
  case atStart => exact ⟨0, Nat.zero_le _, rfl, rfl⟩
  case round =>
    obtain ⟨k, hk, rfl, hno⟩ := hrel
    by_cases hlt : k < l.length
    · obtain ⟨ad, rfl, _, hc, _⟩ := h.at_ k hlt
      go_wp2_with fail
      · have hz : (n == l[k]) = true := by assumption
        go_ret
        exact ⟨ret_int (idx_found hlt hno hz).symm, rfl⟩
      · have hz : (n == l[k]) = false := by assumption
        go_round
        case rel => exact ⟨k + 1, by omega, by go_num, any_on hlt hno hz⟩
        case measure => simp [intOf]; omega
    · go_wp2_with fail
      go_ret
      exact ⟨ret_int (idx_none (any_end hno hlt)).symm, rfl⟩

set_option maxHeartbeats 400000 in
theorem containsInt_ok (w : World) (A : Option Addr) (c : Nat) (l : List Int) (h : RInts w A l) (n : Int) :
    Calls Try.prog 47 #[.slice A l.length c, .int .i64 n] w fun e w' => e = .returned (.bool (l.any (n == ·))) ∧ w = w' := by
  go_enter Try.func47, Try.ntmps47
  go_wp2_with fail
  refine (indexInt_ok w A c l h n).mono ?_
  rintro e w1 ⟨rfl, rfl⟩
  go_wp2_with fail
  go_ret
  exact ⟨ret_bool (idx_nonneg _ l), rfl⟩

set_option maxHeartbeats 400000 in
theorem has12_ok (w : World) (A : Option Addr) (c : Nat) (l : List Int) (h : RInts w A l) (n : Int) :
    Calls Try.prog 49 #[.slice A l.length c, .int .i64 n] w fun e w' => e = .returned (.bool (l.any (· == n))) ∧ w = w' := by
  have hl := h.len
  go_enter Try.func49, Try.ntmps49
  go_wp2_with fail
  go_loop [5] (fun i => ∃ k : Nat, k ≤ l.length ∧ i = .int .i64 k ∧ Hid ((l.take k).any (· == n) = false)) (fun i => l.length - (intOf i).toNat)
  case atStart => exact ⟨0, Nat.zero_le _, rfl, rfl⟩
  case round =>
    obtain ⟨k, hk, rfl, hno⟩ := hrel
    by_cases hlt : k < l.length
    · obtain ⟨ad, rfl, _, hc, _⟩ := h.at_ k hlt
      go_wp2_with fail
      · have hz : (l[k] == n) = true := by assumption
        go_ret
        exact ⟨ret_bool (any_of_at k hlt hz).symm, rfl⟩
      · have hz : (l[k] == n) = false := by assumption
        go_round
        case rel => exact ⟨k + 1, by omega, by go_num, any_on hlt hno hz⟩
        case measure => simp [intOf]; omega
    · go_wp2_with fail
      go_ret
      exact ⟨ret_bool (any_end hno hlt).symm, rfl⟩

set_option maxHeartbeats 400000 in
theorem between19_ok (w : World) (A : Option Addr) (c : Nat) (l : List Int) (h : RInts w A l) (lo hi : Int) :
    Calls Try.prog 40 #[.slice A l.length c, .int .i64 lo, .int .i64 hi] w fun e w' => e = .returned (.bool (inB lo hi l)) ∧ w = w' := by
  have hl := h.len
  go_enter Try.func40, Try.ntmps40
  go_wp2_with fail
  go_loop [7] (fun i => ∃ k : Nat, k ≤ l.length ∧ i = .int .i64 k ∧ Hid (inB lo hi (l.take k) = true)) (fun i => l.length - (intOf i).toNat)
  case atStart => exact ⟨0, Nat.zero_le _, rfl, rfl⟩
  case round =>
    obtain ⟨k, hk, rfl, hno⟩ := hrel
    by_cases hlt : k < l.length
    · obtain ⟨ad, rfl, _, hc, _⟩ := h.at_ k hlt
      by_cases h1 : l[k] < lo
      · go_wp2_with fail
        go_ret
        exact ⟨ret_bool (all_of_at k hlt (by simp; omega)).symm, rfl⟩
      · have h1' : decide (l[k] < lo) = false := by simpa using h1
        by_cases h2 : hi < l[k]
        · go_wp2_with fail
          go_ret
          exact ⟨ret_bool (all_of_at k hlt (by simp; omega)).symm, rfl⟩
        · have h2' : decide (hi < l[k]) = false := by simpa using h2
          go_wp2_with fail
          go_round
          case rel => exact ⟨k + 1, by omega, by go_num, all_on hlt hno (by simp; omega)⟩
          case measure => simp [intOf]; omega
    · go_wp2_with fail
      go_ret
      exact ⟨ret_bool (all_end hno hlt).symm, rfl⟩

theorem same_step (l m : List Int) (hlen : l.length = m.length) (k : Nat) (hk : k < l.length) (h : l.take k = m.take k) (he : l[k] = m[k]'(by omega)) : l.take (k + 1) = m.take (k + 1) := by
  rw [List.take_succ_eq_append_getElem hk, List.take_succ_eq_append_getElem (by omega : k < m.length), h, he]

set_option maxHeartbeats 400000 in
theorem same13_ok (w : World) (A B : Option Addr) (c d : Nat) (l m : List Int) (h : RInts w A l) (g : RInts w B m) :
    Calls Try.prog 12 #[.slice A l.length c, .slice B m.length d] w fun e w' => e = .returned (.bool (l == m)) ∧ ∃ n, w' = w.drewN n := by
  have hl := h.len
  have gl := g.len
  by_cases hne : l.length = m.length
  · have hb : ((l.length : Int) != (m.length : Int)) = false := by simp [hne]
    have hlen := hid hne; clear hne
    go_enter Try.func12, Try.ntmps12
    go_wp2_with fail
    go_loopw [5] (fun i wr => ∃ k n : Nat, k ≤ l.length ∧ i = .int .i64 k ∧ Hid (l.take k = m.take k) ∧ wr = w.drewN n) (fun i _ => l.length - (intOf i).toNat)
    case atStart => exact ⟨0, 0, Nat.zero_le _, rfl, rfl, rfl⟩
    case round =>
      obtain ⟨k, n, hk, rfl, hno, rfl⟩ := hrel
      by_cases hlt : k < l.length
      · have hlt2 : k < m.length := by have := hlen.out; omega
        obtain ⟨ad, rfl, _, hc, _⟩ := h.at_ k hlt
        obtain ⟨bd, rfl, _, gc, _⟩ := g.at_ k hlt2
        go_wp2_with fail
        go_quiet (fail)
        go_wp2_with fail
        · have hz : (l[k] != m[k]) = true := by assumption
          go_ret
          refine ⟨ret_bool ?_, _, World.drewN_drewN _ _ _⟩
          symm; rw [beq_eq_false_iff_ne]; intro e; subst e; simp at hz
        · have hz : (l[k] != m[k]) = false := by assumption
          go_roundw
          case rel => exact ⟨k + 1, _, by omega, by go_num, same_step l m hlen.out k hlt hno (by simpa using hz), rfl⟩
          case measure => simp [intOf]; omega
      · go_wp2_with fail
        go_ret
        refine ⟨ret_bool ?_, _, rfl⟩
        have e : l = m := by
          have := hno.out
          rwa [List.take_of_length_le (by omega), List.take_of_length_le (by have := hlen.out; omega)] at this
        symm; rw [beq_iff_eq]; exact e
  · have hb : ((l.length : Int) != (m.length : Int)) = true := by simp; omega
    go_enter Try.func12, Try.ntmps12
    go_wp2_with fail
    go_ret
    exact ⟨ret_bool (by symm; simp; intro e; exact hne (by rw [e])), 0, rfl⟩
end Go.Proofs.Ytjinbjkbchnhpaa
