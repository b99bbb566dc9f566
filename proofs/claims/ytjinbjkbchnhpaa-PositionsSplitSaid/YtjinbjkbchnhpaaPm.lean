/- Plain laws of positions: what they have in common. No code is walked here. -/
import Derived.Test.YtjinbjkbchnhpaaCm
namespace Go.Proofs.Ytjinbjkbchnhpaa
open Go.RowKit

theorem ext_num {l m : List Int} (hl : l.length = m.length) (h : ∀ k, k < l.length → num l k = num m k) : l = m := by
  apply List.ext_getElem hl
  intro i h1 h2
  have := h i h1
  rwa [num_eq h1, num_eq h2] at this
theorem meetTo_len (a b : List Int) (k : Nat) : (meetTo a b k).length = k := by simp [meetTo]
theorem num_meetTo (a b : List Int) (n k : Nat) (h : k < n) : num (meetTo a b n) k = bits .and .i64 (num a k) (num b k) := by
  rw [num_eq (by rw [meetTo_len]; exact h)]; simp [meetTo]
theorem num_zeros (n k : Nat) : num (List.replicate n 0) k = 0 := by
  unfold num
  by_cases h : k < n
  · rw [getD_at _ _ _ (by simpa using h)]; simp
  · rw [List.getD_eq_getElem?_getD, List.getElem?_eq_none (by simpa using h)]; rfl
theorem iand_comm (x y : Int) : bits .and .i64 x y = bits .and .i64 y x := by rw [bits_and, bits_and, BitVec.and_comm]
theorem iand_zero (y : Int) : bits .and .i64 0 y = 0 := by rw [bits_and, bv_zero]; simp
theorem iand_again (x y : Int) : bits .and .i64 (bits .and .i64 x y) x = bits .and .i64 x y := by
  rw [bits_and, bits_and, bv_toInt, BitVec.and_assoc, BitVec.and_comm (bv y), ← BitVec.and_assoc, BitVec.and_self]
theorem inot_left (x y : Int) : bits .andNot .i64 (bits .and .i64 x y) x = 0 := by
  rw [bits_andNot, bits_and, bv_toInt, BitVec.and_comm (bv x), BitVec.and_assoc, BitVec.and_not_self]; simp
theorem inot_zero (y : Int) : bits .andNot .i64 0 y = 0 := by rw [bits_andNot, bv_zero]; simp
theorem hasS_and (x y : Int) (k : Nat) : hasS (bits .and .i64 x y) k = (hasS x k && hasS y k) := by rw [bits_and, hasS_toInt, BitVec.getLsbD_and]; rfl
theorem hasS_zero (k : Nat) : hasS 0 k = false := by unfold hasS; rw [bv_zero]; simp
theorem iand_within {x y : Int} (hx : I64 x) (h : bits .andNot .i64 x y = 0) : bits .and .i64 x y = x := by
  rw [bits_andNot] at h
  have h0 : bv x &&& ~~~ bv y = 0#64 := toInt_inj (by rw [h]; rfl)
  have h1 : bv x &&& bv y = bv x := by
    have e : bv x = (bv x &&& bv y) ||| (bv x &&& ~~~ bv y) := by
      apply BitVec.eq_of_getLsbD_eq
      intro i hi
      simp only [BitVec.getLsbD_or, BitVec.getLsbD_and, BitVec.getLsbD_not, hi]
      cases (bv x).getLsbD i <;> cases (bv y).getLsbD i <;> rfl
    rw [h0, BitVec.or_zero] at e
    exact e.symm
  rw [bits_and, h1, toInt_bv hx]

theorem deadB_iff (l : List Int) : deadB l = true ↔ ∃ k, k < l.length ∧ num l k = 0 := by
  unfold deadB
  rw [List.any_eq_true]
  constructor
  · rintro ⟨x, hx, h⟩
    obtain ⟨k, hk, rfl⟩ := List.getElem_of_mem hx
    exact ⟨k, hk, by rw [num_eq hk]; simpa using h⟩
  · rintro ⟨k, hk, h⟩
    rw [num_eq hk] at h
    exact ⟨_, List.getElem_mem hk, by simp [h]⟩
theorem deadB_no (l : List Int) : deadB l = false ↔ ∀ k, k < l.length → num l k ≠ 0 := by
  constructor
  · intro h k hk h0
    have := (deadB_iff l).2 ⟨k, hk, h0⟩
    rw [h] at this; cases this
  · intro h
    cases hd : deadB l
    · rfl
    · obtain ⟨k, hk, h0⟩ := (deadB_iff l).1 hd
      exact absurd h0 (h k hk)
theorem normL_zeros (n : Nat) : normL (List.replicate n 0) = List.replicate n 0 := by unfold normL; split <;> simp
theorem normL_normL (l : List Int) : normL (normL l) = normL l := by
  cases h : deadB l
  · rw [normL_live h, normL_live h]
  · rw [normL_dead h, normL_zeros]
theorem meetL_comm (a b : List Int) (h : a.length = b.length) : meetL b a = meetL a b := by
  unfold meetL
  rw [if_pos h, if_pos h.symm, h]
  congr 1
  unfold meetTo
  congr 1
  funext i
  exact iand_comm _ _
theorem meetL_len {a b : List Int} (h : a.length = b.length) : (meetL a b).length = a.length := by
  unfold meetL; rw [if_pos h, normL_len, meetTo_len]
theorem meetTo_zeros (a : List Int) (n : Nat) : meetTo (List.replicate n 0) a n = List.replicate n 0 := by
  apply ext_num
  · rw [meetTo_len]; simp
  · intro k hk
    rw [meetTo_len] at hk
    rw [num_meetTo _ _ _ _ hk, num_zeros, iand_zero]
theorem meetL_again {a b : List Int} (h : a.length = b.length) : meetL (meetL a b) a = meetL a b := by
  have hl := meetL_len h
  rw [meetL, if_pos hl, hl]
  unfold meetL
  rw [if_pos h]
  cases hd : deadB (meetTo a b a.length)
  · rw [normL_live hd]
    have : meetTo (meetTo a b a.length) a a.length = meetTo a b a.length := by
      apply ext_num
      · rw [meetTo_len, meetTo_len]
      · intro k hk
        rw [meetTo_len] at hk
        rw [num_meetTo _ _ _ _ hk, num_meetTo _ _ _ _ hk, iand_again]
    rw [this, normL_live hd]
  · rw [normL_dead hd, meetTo_len, meetTo_zeros, normL_zeros]
theorem withinB_iff (a b : List Int) : withinB a b = true ↔ a.length = b.length ∧ ∀ k, k < a.length → bits .andNot .i64 (num a k) (num b k) = 0 := by
  unfold withinB
  simp only [Bool.and_eq_true, decide_eq_true_eq, List.all_eq_true, List.mem_range, beq_iff_eq]
theorem within_norm {a b : List Int} (h : withinB a b = true) : withinB (normL a) b = true := by
  cases hd : deadB a
  · rw [normL_live hd]; exact h
  · rw [normL_dead hd]
    obtain ⟨h1, -⟩ := (withinB_iff a b).1 h
    exact (withinB_iff _ _).2 ⟨by simpa using h1, fun k _ => by rw [num_zeros, inot_zero]⟩
theorem meet_within {a b : List Int} (h : a.length = b.length) : withinB (meetL a b) a = true := by
  unfold meetL
  rw [if_pos h]
  refine within_norm ((withinB_iff _ _).2 ⟨meetTo_len _ _ _, fun k hk => ?_⟩)
  rw [meetTo_len] at hk
  rw [num_meetTo _ _ _ _ hk, inot_left]
theorem meet_within2 {a b : List Int} (h : a.length = b.length) : withinB (meetL a b) b = true := by
  rw [← meetL_comm a b h]; exact meet_within h.symm
theorem meet_self {a b : List Int} (hi : ∀ x ∈ a, I64 x) (h : withinB a b = true) (hd : deadB a = false) : meetL a b = a := by
  obtain ⟨h1, h2⟩ := (withinB_iff a b).1 h
  have : meetTo a b a.length = a := by
    apply ext_num
    · rw [meetTo_len]
    · intro k hk
      rw [meetTo_len] at hk
      rw [num_meetTo _ _ _ _ hk]
      exact iand_within (by rw [num_eq hk]; exact hi _ (List.getElem_mem hk)) (h2 k hk)
  unfold meetL
  rw [if_pos h1, this, normL_live hd]
theorem agreeB_iff (p g : List Int) : agreeB p g = true ↔ p.length = g.length ∧ ∀ k, k < g.length → (0 ≤ num g k ∧ num g k ≤ 15) ∧ hasS (num p k) (num g k).toNat = true := by
  unfold agreeB
  simp only [Bool.and_eq_true, decide_eq_true_eq, List.all_eq_true, List.mem_range]
theorem agree_norm (p g : List Int) : agreeB (normL p) g = agreeB p g := by
  cases hd : deadB p
  · rw [normL_live hd]
  · rw [normL_dead hd]
    obtain ⟨k, hk, h0⟩ := (deadB_iff p).1 hd
    rw [Bool.eq_iff_iff, agreeB_iff, agreeB_iff]
    constructor
    · rintro ⟨h1, h2⟩
      rw [List.length_replicate] at h1
      have := (h2 k (by omega)).2
      rw [num_zeros, hasS_zero] at this; cases this
    · rintro ⟨h1, h2⟩
      have := (h2 k (by omega)).2
      rw [h0, hasS_zero] at this; cases this
theorem meet_agree {a b g : List Int} (h : a.length = b.length) (hg : g.length = a.length) : agreeB (meetL a b) g = (agreeB a g && agreeB b g) := by
  unfold meetL
  rw [if_pos h, agree_norm, Bool.eq_iff_iff, Bool.and_eq_true, agreeB_iff, agreeB_iff, agreeB_iff, meetTo_len]
  constructor
  · rintro ⟨h1, h2⟩
    refine ⟨⟨h1, fun k hk => ?_⟩, ⟨by omega, fun k hk => ?_⟩⟩
    all_goals
      have := h2 k hk
      rw [num_meetTo _ _ _ _ (by omega), hasS_and, Bool.and_eq_true] at this
      exact ⟨this.1, by first | exact this.2.1 | exact this.2.2⟩
  · rintro ⟨⟨h1, h2⟩, -, h3⟩
    refine ⟨h1, fun k hk => ?_⟩
    rw [num_meetTo _ _ _ _ (by omega), hasS_and, (h2 k hk).2, (h3 k hk).2]
    exact ⟨(h2 k hk).1, rfl⟩
end Go.Proofs.Ytjinbjkbchnhpaa
