/- Plain laws of positions: symbols removed and fixed. No code is walked here. -/
import Derived.Test.YtjinbjkbchnhpaaPm
namespace Go.Proofs.Ytjinbjkbchnhpaa
open Go.RowKit

theorem and_bd {x : Int} (h : 0 ≤ x) (h2 : x ≤ 9223372036854775807) (m : BitVec 64) : 0 ≤ (bv x &&& m).toInt ∧ (bv x &&& m).toInt ≤ x := by
  have e : (bv x).toNat = x.toNat := by
    unfold bv
    rw [BitVec.toNat_ofInt]
    congr 1
    exact Int.emod_eq_of_lt h (by omega)
  have h3 : (bv x &&& m).toNat ≤ x.toNat := by rw [BitVec.toNat_and, e]; exact Nat.and_le_left
  have h4 : (bv x &&& m).toInt = ((bv x &&& m).toNat : Int) := by
    rw [BitVec.toInt_eq_toNat_of_lt (by omega)]
  omega
/-- A method on sets that keeps within the set. -/
structure Keep (f : Int → Int) : Prop where
  zero : f 0 = 0
  bd : ∀ x, 0 ≤ x → x ≤ 9223372036854775807 → 0 ≤ f x ∧ f x ≤ x
  sub : ∀ x, bits .andNot .i64 (f x) x = 0
theorem keep_without (n : Int) : Keep (without n) :=
  ⟨by unfold without; rw [bv_zero]; simp, fun x h h2 => and_bd h h2 _, fun x => by unfold without; rw [bits_andNot, bv_toInt, BitVec.and_comm (bv x), BitVec.and_assoc, BitVec.and_not_self]; simp⟩
theorem keep_only (n : Int) : Keep (only n) :=
  ⟨by unfold only; rw [bv_zero]; simp, fun x h h2 => and_bd h h2 _, fun x => by unfold only; rw [bits_andNot, bv_toInt, BitVec.and_comm (bv x), BitVec.and_assoc, BitVec.and_not_self]; simp⟩

theorem num_set (l : List Int) (c k : Nat) (v : Int) (h : c < l.length) : num (l.set c v) k = if k = c then v else num l k := by
  unfold num
  by_cases hk : k < l.length
  · rw [getD_at _ _ _ (by simpa using hk), List.getElem_set]
    by_cases e : c = k
    · subst e; simp
    · rw [if_neg e, if_neg (fun h => e h.symm), getD_at _ _ _ hk]
  · rw [List.getD_eq_getElem?_getD, List.getElem?_eq_none (by simpa using hk), if_neg (by omega), List.getD_eq_getElem?_getD, List.getElem?_eq_none (by omega)]
/-- A cell's set changed. -/
def upon (l : List Int) (c : Nat) (f : Int → Int) : List Int := normL (l.set c (f (num l c)))
theorem upon_len (l : List Int) (c : Nat) (f : Int → Int) : (upon l c f).length = l.length := by unfold upon; rw [normL_len, List.length_set]
theorem chgL_upon {q : Problem} {pos : List Int} {cell symbol : Int} (h : checkB q pos = true) (h2 : 0 ≤ cell ∧ cell < q.cells ∧ 0 ≤ symbol ∧ symbol < q.symbols) (f : Int → Int) : chgE q pos cell symbol = 0 ∧ chgL q pos cell symbol f = upon pos cell.toNat f := chg_good h h2 f
/-- It does not matter whether a dead position was put in the place of one that is dead. -/
theorem upon_norm {f : Int → Int} (h0 : f 0 = 0) {l : List Int} {d : Nat} (hd : d < l.length) : upon (normL l) d f = upon l d f := by
  cases h : deadB l
  · rw [normL_live h]
  · rw [normL_dead h]
    unfold upon
    rw [num_zeros, h0]
    have e1 : (List.replicate l.length (0 : Int)).set d 0 = List.replicate l.length 0 := by
      apply ext_num (by simp)
      intro k _
      rw [num_set _ _ _ _ (by simpa using hd), num_zeros]; simp
    rw [e1, normL_zeros]
    have hdead : deadB (l.set d (f (num l d))) = true := by
      obtain ⟨k, hk, hz⟩ := (deadB_iff l).1 h
      refine (deadB_iff _).2 ⟨k, by simpa using hk, ?_⟩
      rw [num_set _ _ _ _ hd]
      by_cases e : k = d
      · subst e; rw [if_pos rfl, hz, h0]
      · rw [if_neg e, hz]
    rw [normL_dead hdead, List.length_set]
theorem set_set_ne {l : List Int} {c d : Nat} (h : c ≠ d) (u v : Int) : (l.set c u).set d v = (l.set d v).set c u := List.set_comm u v h
theorem upon_comm {f g : Int → Int} (hf : f 0 = 0) (hg : g 0 = 0) (hc : ∀ x, f (g x) = g (f x)) {l : List Int} {c d : Nat} (h1 : c < l.length) (h2 : d < l.length) : upon (upon l c f) d g = upon (upon l d g) c f := by
  have e1 : upon (upon l c f) d g = upon (l.set c (f (num l c))) d g := upon_norm hg (by simpa using h2)
  have e2 : upon (upon l d g) c f = upon (l.set d (g (num l d))) c f := upon_norm hf (by simpa using h1)
  rw [e1, e2]
  unfold upon
  rw [num_set _ _ _ _ h1, num_set _ _ _ _ h2]
  by_cases e : c = d
  · subst e
    simp only [if_true, List.set_set]
    rw [hc]
  · rw [if_neg (fun h => e h.symm), if_neg e, set_set_ne e]
theorem upon_again {f : Int → Int} (hf : f 0 = 0) (hi : ∀ x, f (f x) = f x) {l : List Int} {c : Nat} (h1 : c < l.length) : upon (upon l c f) c f = upon l c f := by
  have e1 : upon (upon l c f) c f = upon (l.set c (f (num l c))) c f := upon_norm hf (by simpa using h1)
  rw [e1]
  unfold upon
  rw [num_set _ _ _ _ h1, if_pos rfl, hi, List.set_set]
theorem upon_gone {f g : Int → Int} (hg : g 0 = 0) (hi : ∀ x, g (f x) = 0) {l : List Int} {c : Nat} (h1 : c < l.length) : upon (upon l c f) c g = List.replicate l.length 0 := by
  have e1 : upon (upon l c f) c g = upon (l.set c (f (num l c))) c g := upon_norm hg (by simpa using h1)
  rw [e1]
  unfold upon
  rw [num_set _ _ _ _ h1, if_pos rfl, hi, List.set_set]
  rw [normL_dead ((deadB_iff _).2 ⟨c, by simpa using h1, by rw [num_set _ _ _ _ h1, if_pos rfl]⟩), List.length_set]
theorem upon_within {f : Int → Int} (hf : ∀ x, bits .andNot .i64 (f x) x = 0) {l : List Int} {c : Nat} (h1 : c < l.length) : withinB (upon l c f) l = true := by
  refine within_norm ((withinB_iff _ _).2 ⟨by simp, fun k hk => ?_⟩)
  rw [num_set _ _ _ _ h1]
  by_cases e : k = c
  · subst e; rw [if_pos rfl, hf]
  · rw [if_neg e, bits_andNot, BitVec.and_not_self]; simp
theorem inB_num {lo hi : Int} {l : List Int} : inB lo hi l = true ↔ ∀ k, k < l.length → lo ≤ num l k ∧ num l k ≤ hi := inB_iff lo hi l
theorem okPos_norm {q : Problem} {l : List Int} (h0 : 0 ≤ fullS q) (h : okPos q l = true) : okPos q (normL l) = true := by
  cases hd : deadB l
  · rw [normL_live hd]; exact h
  · rw [normL_dead hd]
    simp only [okPos, Bool.and_eq_true, decide_eq_true_eq] at h ⊢
    exact ⟨by simpa using h.1, inB_num.2 fun k _ => by rw [num_zeros]; omega⟩
theorem upon_ok {q : Problem} {f : Int → Int} (hf : Keep f) {l : List Int} {c : Nat} (h1 : c < l.length) (h : checkB q l = true) : checkB q (upon l c f) = true := by
  have hbd := checkB_bd h
  have hp := pow_bd q.symbols (by omega) (by omega)
  simp only [checkB, Bool.and_eq_true] at h ⊢
  refine ⟨h.1, okPos_norm (by unfold fullS; omega) ?_⟩
  have h2 := h.2
  simp only [okPos, Bool.and_eq_true, decide_eq_true_eq] at h2 ⊢
  refine ⟨by simpa using h2.1, inB_num.2 fun k hk => ?_⟩
  have hk' : k < l.length := by simpa using hk
  have h3 := inB_num.1 h2.2
  rw [num_set _ _ _ _ h1]
  by_cases e : k = c
  · subst e
    rw [if_pos rfl]
    have := h3 k hk'
    have := hf.bd (num l k) (by omega) (by unfold fullS at this; omega)
    omega
  · rw [if_neg e]; exact h3 k hk'
theorem without_comm (m n x : Int) : without m (without n x) = without n (without m x) := by
  unfold without
  rw [bv_toInt, bv_toInt, BitVec.and_assoc, BitVec.and_assoc, BitVec.and_comm (~~~ _)]
theorem without_again (n x : Int) : without n (without n x) = without n x := by
  unfold without
  rw [bv_toInt, BitVec.and_assoc, BitVec.and_self]
theorem only_without (n x : Int) : only n (without n x) = 0 := by
  unfold only without
  rw [bv_toInt, BitVec.and_assoc, BitVec.and_comm (~~~ _), BitVec.and_not_self]; simp
end Go.Proofs.Ytjinbjkbchnhpaa
