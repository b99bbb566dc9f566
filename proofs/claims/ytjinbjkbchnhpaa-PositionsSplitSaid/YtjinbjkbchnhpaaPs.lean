/- Plain laws of positions: a cell's symbols divide the grids that agree. No code is walked here. -/
import Derived.Test.YtjinbjkbchnhpaaPo
namespace Go.Proofs.Ytjinbjkbchnhpaa
open Go.RowKit

theorem hasS_only (n x : Int) (hn : 0 ≤ n ∧ n < 16) (j : Nat) : hasS (only n x) j = (hasS x j && decide ((j : Int) = n)) := by
  unfold only
  rw [hasS_toInt, BitVec.getLsbD_and, BitVec.getLsbD_twoPow]
  congr 1
  rw [Bool.eq_iff_iff]
  simp
  omega
theorem hasS_without (n x : Int) (hn : 0 ≤ n ∧ n < 16) (j : Nat) : hasS (without n x) j = (hasS x j && !decide ((j : Int) = n)) := by
  unfold without
  rw [hasS_toInt, BitVec.getLsbD_and, BitVec.getLsbD_not, BitVec.getLsbD_twoPow]
  by_cases hj : j < 64
  · simp only [hj, decide_true, Bool.true_and]
    congr 2
    rw [Bool.eq_iff_iff]
    simp
    omega
  · have : (bv x).getLsbD j = false := BitVec.getLsbD_of_ge _ _ (by omega)
    simp [hj, this, hasS]
theorem upon_agree {pos g : List Int} {c : Nat} (hc : c < pos.length) (f : Int → Int) : agreeB (upon pos c f) g = true ↔ (pos.length = g.length ∧ (∀ k, k < g.length → k ≠ c → (0 ≤ num g k ∧ num g k ≤ 15) ∧ hasS (num pos k) (num g k).toNat = true) ∧ (0 ≤ num g c ∧ num g c ≤ 15) ∧ hasS (f (num pos c)) (num g c).toNat = true) := by
  unfold upon
  rw [agree_norm, agreeB_iff, List.length_set]
  constructor
  · rintro ⟨h1, h2⟩
    refine ⟨h1, fun k hk hne => ?_, ?_⟩
    · have := h2 k hk; rwa [num_set _ _ _ _ hc, if_neg hne] at this
    · have := h2 c (by omega); rwa [num_set _ _ _ _ hc, if_pos rfl] at this
  · rintro ⟨h1, h2, h3⟩
    refine ⟨h1, fun k hk => ?_⟩
    rw [num_set _ _ _ _ hc]
    by_cases e : k = c
    · subst e; rw [if_pos rfl]; exact h3
    · rw [if_neg e]; exact h2 k hk e
theorem agree_at {pos g : List Int} {c : Nat} (hc : c < pos.length) : agreeB pos g = true ↔ (pos.length = g.length ∧ (∀ k, k < g.length → k ≠ c → (0 ≤ num g k ∧ num g k ≤ 15) ∧ hasS (num pos k) (num g k).toNat = true) ∧ (0 ≤ num g c ∧ num g c ≤ 15) ∧ hasS (num pos c) (num g c).toNat = true) := by
  rw [agreeB_iff]
  constructor
  · rintro ⟨h1, h2⟩
    exact ⟨h1, fun k hk _ => h2 k hk, h2 c (by omega)⟩
  · rintro ⟨h1, h2, h3⟩
    refine ⟨h1, fun k hk => ?_⟩
    by_cases e : k = c
    · subst e; exact h3
    · exact h2 k hk e
/-- What agrees behind a change agreed before. -/
theorem agree_only {pos g : List Int} {c : Nat} (hc : c < pos.length) {n : Int} (hn : 0 ≤ n ∧ n < 16) : agreeB (upon pos c (only n)) g = (agreeB pos g && decide (num g c = n)) := by
  rw [Bool.eq_iff_iff, Bool.and_eq_true, upon_agree hc, agree_at hc, hasS_only _ _ hn, Bool.and_eq_true, decide_eq_true_eq, decide_eq_true_eq]
  constructor
  · rintro ⟨h1, h2, h3, h4, h5⟩
    exact ⟨⟨h1, h2, h3, h4⟩, by omega⟩
  · rintro ⟨⟨h1, h2, h3, h4⟩, h5⟩
    exact ⟨h1, h2, h3, h4, by omega⟩
theorem agree_without {pos g : List Int} {c : Nat} (hc : c < pos.length) {n : Int} (hn : 0 ≤ n ∧ n < 16) : agreeB (upon pos c (without n)) g = (agreeB pos g && !decide (num g c = n)) := by
  rw [Bool.eq_iff_iff, Bool.and_eq_true, upon_agree hc, agree_at hc, hasS_without _ _ hn, Bool.and_eq_true, Bool.not_eq_true', decide_eq_false_iff_not, Bool.not_eq_true', decide_eq_false_iff_not]
  constructor
  · rintro ⟨h1, h2, h3, h4, h5⟩
    exact ⟨⟨h1, h2, h3, h4⟩, by omega⟩
  · rintro ⟨⟨h1, h2, h3, h4⟩, h5⟩
    exact ⟨h1, h2, h3, h4, by omega⟩
/-- How many of the first symbols agree when they are fixed. -/
def manyTo (pos g : List Int) (c : Nat) (k : Nat) : Nat := ((List.range k).filter fun n : Nat => agreeB (upon pos c (only (n : Int))) g).length
theorem manyTo_succ (pos g : List Int) (c k : Nat) : manyTo pos g c (k + 1) = manyTo pos g c k + if agreeB (upon pos c (only (k : Int))) g then 1 else 0 := by
  unfold manyTo
  rw [List.range_succ, List.filter_append, List.length_append]
  congr 1
  cases h : agreeB (upon pos c (only (k : Int))) g <;> simp [h]
theorem manyTo_le (pos g : List Int) (c k : Nat) : manyTo pos g c k ≤ k := by
  unfold manyTo; exact Nat.le_trans (List.length_filter_le _ _) (by simp)
theorem manyTo_eq {pos g : List Int} {c : Nat} (hc : c < pos.length) : ∀ k, k ≤ 16 → manyTo pos g c k = if agreeB pos g ∧ 0 ≤ num g c ∧ num g c < k then 1 else 0
  | 0, _ => by
    rw [if_neg (by omega)]; rfl
  | k + 1, hk => by
    rw [manyTo_succ, manyTo_eq hc k (by omega), agree_only hc (by omega)]
    cases agreeB pos g
    · simp
    · simp only [true_and, Bool.true_and, decide_eq_true_eq]
      split <;> split <;> split <;> omega
/-- The symbols of a problem's cells. -/
theorem hasS_lt {x : Int} {n : Nat} {j : Nat} (h0 : 0 ≤ x) (h1 : x < 2 ^ n) (hj : j < 64) (h : hasS x j = true) : j < n := by
  rw [hasS_shift _ _ hj, decide_eq_true_eq] at h
  by_cases hlt : j < n
  · exact hlt
  · have : x / 2 ^ j = 0 := Int.ediv_eq_zero_of_lt h0 (Int.lt_of_lt_of_le h1 (by
      have : (2 : Int) ^ j = 2 ^ n * 2 ^ (j - n) := by rw [← Int.pow_add]; congr 1; omega
      rw [this]
      have h2 : (1 : Int) ≤ 2 ^ (j - n) := Int.pow_pos (by decide)
      have h3 : (0 : Int) ≤ 2 ^ n := Int.le_of_lt (Int.pow_pos (by decide))
      have := Int.mul_le_mul_of_nonneg_left h2 h3
      omega))
    rw [this] at h
    simp at h
theorem many_all {q : Problem} {pos g : List Int} {c : Nat} (hc : c < pos.length) (hB : checkB q pos = true) : manyTo pos g c q.symbols.toNat = if agreeB pos g then 1 else 0 := by
  have hbd := checkB_bd hB
  rw [manyTo_eq hc _ (by omega)]
  cases ha : agreeB pos g
  · simp
  · obtain ⟨_, _, h3, h4⟩ := (agree_at hc).1 ha
    simp only [checkB, okPos, Bool.and_eq_true, decide_eq_true_eq] at hB
    have h5 := inB_num.1 hB.2.2 c hc
    have := hasS_lt h5.1 (n := q.symbols.toNat) (by unfold fullS at h5; omega) (by omega) h4
    rw [if_pos ⟨rfl, h3.1, by omega⟩]; rfl
end Go.Proofs.Ytjinbjkbchnhpaa
