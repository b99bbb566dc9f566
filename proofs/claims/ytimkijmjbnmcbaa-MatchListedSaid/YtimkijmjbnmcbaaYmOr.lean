/- Plain law: what the lists of instances hold, and in which order. No code is walked here. -/
import Derived.Test.YtimkijmjbnmcbaaYmOm
import Derived.Test.YtimkijmjbnmcbaaYmOq
import Derived.Test.YtimkijmjbnmcbaaYm13
namespace Go.Proofs.Ytimkijmjbnmcbaa
open Go.RowKit
/-- The lexicographic order. -/
def lexB : List Int → List Int → Bool
  | [], [] => false
  | [], _ :: _ => true
  | _ :: _, [] => false
  | a :: x, b :: y => if a = b then lexB x y else decide (a < b)
theorem lexB_pre : ∀ (x u v : List Int), lexB (x ++ u) (x ++ v) = lexB u v
  | [], _, _ => rfl
  | a :: x, u, v => by
    show (if a = a then lexB (x ++ u) (x ++ v) else _) = _
    rw [if_pos rfl, lexB_pre x u v]
theorem lexB_app : ∀ {x y : List Int} (u v : List Int), x.length = y.length → lexB x y = true → lexB (x ++ u) (y ++ v) = true
  | [], [], _, _, _, h => by cases h
  | [], _ :: _, _, _, h, _ => by cases h
  | _ :: _, [], _, _, h, _ => by cases h
  | a :: x, b :: y, u, v, hl, h => by
    unfold lexB at h
    show (if a = b then lexB (x ++ u) (y ++ v) else decide (a < b)) = true
    split at h
    · rename_i e; rw [if_pos e]; exact lexB_app u v (by simpa using hl) h
    · rename_i e; rw [if_neg e]; exact h
theorem lexB_one {a b : Int} (h : a < b) : lexB [a] [b] = true := by
  show (if a = b then lexB [] [] else decide (a < b)) = true
  rw [if_neg (by omega)]; simpa using h
theorem stepC_lex (n : Int) (l : List Int) : (stepC n l).Pairwise fun x y => lexB x y = true := by
  unfold stepC
  rw [List.pairwise_flatMap]
  refine ⟨fun a _ => by split <;> simp, ?_⟩
  refine List.Pairwise.imp ?_ List.pairwise_lt_range
  intro a b hab x hx y hy
  split at hx
  · simp at hx
  · split at hy
    · simp at hy
    · obtain rfl := List.mem_singleton.1 hx
      obtain rfl := List.mem_singleton.1 hy
      rw [lexB_pre]; exact lexB_one (by omega)
theorem stepC_form {n : Int} {l x : List Int} (h : x ∈ stepC n l) : ∃ a : Int, x = l ++ [a] := by
  unfold stepC at h
  obtain ⟨a, -, h⟩ := List.mem_flatMap.1 h
  split at h
  · simp at h
  · exact ⟨_, List.mem_singleton.1 h⟩
theorem choicesR_size {n : Int} : ∀ {k : Nat} {x : List Int}, x ∈ choicesR n k → x.length = k
  | 0, x, h => by unfold choicesR at h; obtain rfl := List.mem_singleton.1 h; rfl
  | k + 1, x, h => by
    unfold choicesR at h
    obtain ⟨y, hy, h⟩ := List.mem_flatMap.1 h
    obtain ⟨a, rfl⟩ := stepC_form h
    rw [List.length_append, choicesR_size hy]; rfl
theorem choicesR_lex (n : Int) : ∀ k, (choicesR n k).Pairwise fun x y => lexB x y = true
  | 0 => by unfold choicesR; simp
  | k + 1 => by
    unfold choicesR
    rw [List.pairwise_flatMap]
    refine ⟨fun a _ => stepC_lex n a, ?_⟩
    refine List.Pairwise.imp_of_mem ?_ (choicesR_lex n k)
    intro x y hx hy h u hu v hv
    obtain ⟨a, rfl⟩ := stepC_form hu
    obtain ⟨b, rfl⟩ := stepC_form hv
    exact lexB_app _ _ (by rw [choicesR_size hx, choicesR_size hy]) h
theorem diffB_init {l : List Int} {n x : Int} (h : diffB (l ++ [x]) n = true) : diffB l n = true ∧ 0 ≤ x ∧ x < n ∧ memB l x = false := by
  unfold diffB at *
  rw [List.all_eq_true] at *
  have hn : ∀ k, k < l.length → num (l ++ [x]) k = num l k := fun k hk => by rw [num_eq (by simp; omega), num_eq hk, List.getElem_append_left hk]
  have e1 : num (l ++ [x]) l.length = x := by rw [num_eq (by simp)]; simp
  refine ⟨fun i hi => ?_, ?_⟩
  · have hi2 := List.mem_range.1 hi
    have := h i (List.mem_range.2 (by simp; omega))
    unfold diffAt met at *
    rw [hn i hi2] at this
    simp only [Bool.and_eq_true, Bool.not_eq_true'] at *
    refine ⟨this.1, ?_⟩
    rw [List.any_eq_false] at *
    intro k hk
    have hk2 := List.mem_range.1 hk
    have := this.2 k hk
    rw [hn k (by omega)] at this
    exact this
  · have := h l.length (List.mem_range.2 (by simp))
    unfold diffAt met at this
    rw [e1] at this
    simp only [Bool.and_eq_true, Bool.not_eq_true', decide_eq_true_eq] at this
    refine ⟨this.1.1, this.1.2, ?_⟩
    unfold memB
    rw [List.any_eq_false]
    intro y hy
    obtain ⟨k, hk, rfl⟩ := List.getElem_of_mem hy
    have h2 := List.any_eq_false.1 this.2 k (List.mem_range.2 hk)
    rw [hn k hk, num_eq hk] at h2
    exact h2
theorem choicesR_mem {n : Int} : ∀ {k : Nat} {x : List Int}, x.length = k → diffB x n = true → x ∈ choicesR n k
  | 0, x, h, _ => by obtain rfl := List.length_eq_zero_iff.1 h; simp [choicesR]
  | k + 1, x, h, hd => by
    have hne : x ≠ [] := by intro e; subst e; cases h
    have hx := List.dropLast_concat_getLast hne
    rw [← hx] at hd
    obtain ⟨d1, d2, d3, d4⟩ := diffB_init hd
    unfold choicesR
    refine List.mem_flatMap.2 ⟨x.dropLast, choicesR_mem (by simp; omega) d1, ?_⟩
    unfold stepC
    refine List.mem_flatMap.2 ⟨(x.getLast hne).toNat, List.mem_range.2 (by omega), ?_⟩
    rw [show (((x.getLast hne).toNat : Nat) : Int) = x.getLast hne by omega, d4]
    simp [hx]
theorem choicesR_diff2 {n : Int} {k : Nat} {x : List Int} (h : x ∈ choicesR n k) : diffB x n = true := by
  rw [← chR_true] at h
  exact (chR_in (List.prefix_rfl) h).2
theorem diffB_within {l : List Int} {n : Int} (h : diffB l n = true) : withinN l n = true := by rw [diffB_split, Bool.and_eq_true] at h; exact h.1
/-- One instance comes before another one. -/
def beforeB (i j : Inst) : Bool := if i.rule = j.rule then lexB (i.cells ++ i.symbols) (j.cells ++ j.symbols) else decide (i.rule < j.rule)
theorem refIn_form {q : Problem} {pos : List Int} {x : Rule} {j : Int} {c : List Int} {ss : List (List Int)} {i : Inst} (h : i ∈ refIn q pos x j c ss) : ∃ s ∈ ss, i = ⟨j, c, s⟩ ∧ keepB q pos x j c s = true := by
  unfold refIn at h
  obtain ⟨s, hs, rfl⟩ := List.mem_map.1 h
  obtain ⟨h1, h2⟩ := List.mem_filter.1 hs
  exact ⟨s, h1, rfl, h2⟩
theorem refOut_form {q : Problem} {pos : List Int} {x : Rule} {j : Int} {cs : List (List Int)} {i : Inst} (h : i ∈ refOut q pos x j cs) : ∃ c ∈ cs, ∃ s ∈ choicesR q.symbols x.letters.length, i = ⟨j, c, s⟩ ∧ keepB q pos x j c s = true := by
  unfold refOut at h
  obtain ⟨c, hc, h⟩ := List.mem_flatMap.1 h
  obtain ⟨s, hs, e, hk⟩ := refIn_form h
  exact ⟨c, hc, s, hs, e, hk⟩
theorem refRule_form {q : Problem} {pos : List Int} {x : Rule} {level j : Int} {i : Inst} (h : i ∈ refRule q pos x level j) : x.level ≤ level ∧ ∃ c ∈ choicesR q.cells x.cells.length, ∃ s ∈ choicesR q.symbols x.letters.length, i = ⟨j, c, s⟩ ∧ keepB q pos x j c s = true := by
  unfold refRule at h
  split at h
  · simp at h
  · exact ⟨by omega, refOut_form h⟩
theorem refOut_lex (q : Problem) (pos : List Int) (x : Rule) (j : Int) {k : Nat} {n : Int} : (refOut q pos x j (choicesR n k)).Pairwise fun a b => beforeB a b = true := by
  unfold refOut
  rw [List.pairwise_flatMap]
  constructor
  · intro c _
    unfold refIn
    rw [List.pairwise_map]
    refine List.Pairwise.imp ?_ ((choicesR_lex q.symbols x.letters.length).filter _)
    intro s t h
    unfold beforeB
    rw [if_pos rfl, lexB_pre]; exact h
  · refine List.Pairwise.imp_of_mem ?_ (choicesR_lex n k)
    intro c d hc hd h a ha b hb
    obtain ⟨s, hs, rfl, -⟩ := refIn_form ha
    obtain ⟨t, ht, rfl, -⟩ := refIn_form hb
    unfold beforeB
    rw [if_pos rfl]
    exact lexB_app _ _ (by rw [choicesR_size hc, choicesR_size hd]) h
theorem refTo_lex (q : Problem) (pos : List Int) (l : List Rule) (level : Int) (k : Nat) : (refTo q pos l level k).Pairwise fun a b => beforeB a b = true := by
  unfold refTo
  rw [List.pairwise_flatMap]
  constructor
  · intro j _
    unfold refRule
    split
    · simp
    · exact refOut_lex q pos _ _
  · refine List.Pairwise.imp ?_ List.pairwise_lt_range
    intro j m hjm a ha b hb
    obtain ⟨-, c, -, s, -, rfl, -⟩ := refRule_form ha
    obtain ⟨-, d, -, t, -, rfl, -⟩ := refRule_form hb
    unfold beforeB
    rw [if_neg (show ¬ (j : Int) = (m : Int) by omega)]
    show decide ((j : Int) < (m : Int)) = true
    simpa using hjm
/-- An instance of a lemma up to a level fits, and removes something. -/
def remvB (q : Problem) (l : List Rule) (pos : List Int) (level : Int) (i : Inst) : Bool :=
  (fitsR q l pos i).1 && (decide ((ruleN l i.rule.toNat).level ≤ level) && remB pos (ruleN l i.rule.toNat) i.cells i.symbols)
theorem list_mem {q : Problem} {l : List Rule} {pos : List Int} {level : Int} (h : libB q l pos = true) (i : Inst) : i ∈ (listR q l pos level).1 ↔ remvB q l pos level i = true := by
  rw [list_eq]
  unfold refListR
  rw [if_pos h]
  unfold remvB
  simp only [Bool.and_eq_true, decide_eq_true_eq]
  unfold refTo
  constructor
  · intro hi
    obtain ⟨j, hj, hi⟩ := List.mem_flatMap.1 hi
    have hj2 := List.mem_range.1 hj
    obtain ⟨hv, c, hc, s, hs, rfl, hk⟩ := refRule_form hi
    dsimp only
    rw [show ((j : Int).toNat) = j by omega]
    unfold keepB at hk
    rw [Bool.and_eq_true] at hk
    refine ⟨?_, hv, hk.2⟩
    rw [fitsR_in h hj2 rfl, ← ruleN_eq hj2, if_pos]
    · exact hk.1
    · unfold instB
      dsimp only
      rw [choicesR_size hc, choicesR_size hs, diffB_within (choicesR_diff2 hc), diffB_within (choicesR_diff2 hs)]
      simp
  · rintro ⟨hf, hv, hr⟩
    obtain ⟨-, h2, h3, h4, -⟩ := fitsR_yes rfl hf
    refine List.mem_flatMap.2 ⟨i.rule.toNat, List.mem_range.2 (by omega), ?_⟩
    unfold refRule
    rw [if_neg (by omega)]
    obtain ⟨t, ci, si⟩ := i
    dsimp only at *
    have h5 := h4
    unfold fitB at h5
    simp only [Bool.and_eq_true] at h5
    unfold instB at h3
    simp only [Bool.and_eq_true, Bool.not_eq_true', bne_eq_false_iff_eq] at h3
    unfold refOut
    refine List.mem_flatMap.2 ⟨ci, choicesR_mem (by have := h3.1.1; omega) h5.1.1.1.2, ?_⟩
    unfold refIn
    refine List.mem_map.2 ⟨si, List.mem_filter.2 ⟨choicesR_mem (by have := h3.2.1; omega) h5.1.1.2, ?_⟩, by rw [show ((t.toNat : Nat) : Int) = t by omega]⟩
    unfold keepB
    rw [Bool.and_eq_true]
    refine ⟨?_, hr⟩
    rw [show ((t.toNat : Nat) : Int) = t by omega]
    exact h4
theorem list_lex (q : Problem) (l : List Rule) (pos : List Int) (level : Int) : (listR q l pos level).1.Pairwise fun a b => beforeB a b = true := by
  rw [list_eq]
  unfold refListR
  split
  · exact refTo_lex _ _ _ _ _
  · simp
end Go.Proofs.Ytimkijmjbnmcbaa
