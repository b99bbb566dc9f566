/- Contracts: graphs are checked alike by both texts; lists of different numbers. -/
import Derived.Test.YtjinbjkbchnhpaaCb
namespace Go.Proofs.Ytjinbjkbchnhpaa
open Go.RowKit

/-- The k-th neighbor of node i is right. -/
def gEdge (g : List (List Int)) (i k : Nat) : Bool :=
  decide (0 ≤ num (row g i) k) && decide (num (row g i) k < g.length) && !(num (row g i) k == (i : Int)) && !(decide (0 < k) && decide (num (row g i) k ≤ num (row g i) (k - 1))) && (row g (num (row g i) k).toNat).any (· == (i : Int))
def gRow (g : List (List Int)) (i : Nat) : Bool := (List.range (row g i).length).all (gEdge g i)
def gOk (g : List (List Int)) : Bool := decide (g.length ≤ 256) && (List.range g.length).all (gRow g)
def gErr (g : List (List Int)) : Int := if gOk g then 0 else 120

theorem gErr_bad {g : List (List Int)} {i k : Nat} (hi : i < g.length) (hk : k < (row g i).length) (h : gEdge g i k = false) : gErr g = 120 := by
  have h1 : gRow g i = false := rall_bad hk h
  have h2 : (List.range g.length).all (gRow g) = false := rall_bad hi h1
  simp [gErr, gOk, h2]
theorem gErr_long {g : List (List Int)} (h : 256 < g.length) : gErr g = 120 := by
  have : decide (g.length ≤ 256) = false := by simp; omega
  simp [gErr, gOk, this]
theorem gErr_good {g : List (List Int)} (h : g.length ≤ 256) (h2 : (List.range g.length).all (gRow g) = true) : gErr g = 0 := by
  have : decide (g.length ≤ 256) = true := by simp; omega
  simp only [gErr, gOk, this, h2]; rfl
theorem any_flip (l : List Int) (n : Int) : l.any (n == ·) = l.any (· == n) := by congr 1; funext x; exact Bool.eq_iff_iff.2 (by simp; exact eq_comm)

set_option maxHeartbeats 1000000 in
theorem gcheck_ok (w : World) (A : Option Addr) (c : Nat) (g : List (List Int)) (h : RRows w A g) :
    Calls Try.prog 36 #[.slice A g.length c] w fun e w' => e = .returned (.int .i64 (gErr g)) ∧ w = w' := by
  have hl := h.len
  by_cases hbig : 256 < g.length
  · go_enter Try.func36, Try.ntmps36
    go_wp2_with fail
    go_ret
    exact ⟨ret_int (gErr_long hbig).symm, rfl⟩
  go_enter Try.func36, Try.ntmps36
  go_wp2_with fail
  go_loop [12] (fun i => ∃ k : Nat, k ≤ g.length ∧ i = .int .i64 k ∧ Hid ((List.range k).all (gRow g) = true)) (fun i => g.length - (intOf i).toNat)
  case atStart => exact ⟨0, Nat.zero_le _, rfl, rfl⟩
  case round =>
    obtain ⟨i, hi, rfl, hno⟩ := hrel
    by_cases hlt : i < g.length
    · obtain ⟨ad, Bi, ci, rfl, _, hci, hBi⟩ := h.rowAt i hlt
      have hBl := hBi.len
      go_wp2_with fail
      go_loop [19] (fun i' => ∃ k : Nat, k ≤ (row g i).length ∧ i' = .int .i64 k ∧ Hid ((List.range k).all (gEdge g i) = true)) (fun i' => (row g i).length - (intOf i').toNat)
      case atStart => exact ⟨0, Nat.zero_le _, rfl, rfl⟩
      case round =>
        obtain ⟨k, hk, rfl, hno2⟩ := hrel
        by_cases hlt2 : k < (row g i).length
        · obtain ⟨bd, rfl, _, hd, _⟩ := hBi.num (by omega)
          have hkk : 0 < k → k - 1 < (row g i).length := fun _ => by omega
          clear hci
          obtain ⟨B, cB, hc, hB⟩ := h.rowOf (by omega)
          have HB := hid hB; clear hB
          go_wp2_with (go_at_call 47; refine (containsInt_ok _ _ _ _ (HB.out _ (by omega)) _).mono ?_; rintro e w1 ⟨rfl, rfl⟩)
          all_goals first
            | (go_ret; exact ⟨ret_int (gErr_bad hlt hlt2 (by (try simp only [any_flip] at *); grind [gEdge])).symm, rfl⟩)
            | (go_round
               case rel => exact ⟨k + 1, by omega, by go_num, rall_on hno2 (by (try simp only [any_flip] at *); grind [gEdge])⟩
               case measure => simp [intOf]; omega)
        · go_wp2_with fail
          go_round
          case rel => exact ⟨i + 1, by omega, by go_num, rall_on hno (rall_end hno2 hk hlt2)⟩
          case measure => simp [intOf]; omega
    · go_wp2_with fail
      go_ret
      exact ⟨ret_int (gErr_good (by omega) (rall_end hno hi hlt)).symm, rfl⟩
end Go.Proofs.Ytjinbjkbchnhpaa
