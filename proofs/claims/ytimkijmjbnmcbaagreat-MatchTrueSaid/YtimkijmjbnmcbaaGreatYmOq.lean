/- Plain law: what fits a position fits every position within it that is not dead. No code is walked here. -/
import Derived.Test.YtimkijmjbnmcbaaGreatYm19
namespace Go.Proofs.YtimkijmjbnmcbaaGreat
open Go.RowKit
/-- A cell's symbols, narrowed (where some are left). -/
def nar (p s : Int) : Int := if andI p s = 0 then p else andI p s
def narTo (pos less : List Int) (k : Nat) : List Int := (List.range k).map fun i => nar (num pos i) (num less i)
def narL (pos less : List Int) : List Int := narTo pos less pos.length
theorem narTo_len (pos less : List Int) (k : Nat) : (narTo pos less k).length = k := by simp [narTo]
theorem narTo_succ (pos less : List Int) (k : Nat) : narTo pos less (k + 1) = narTo pos less k ++ [nar (num pos k) (num less k)] := by simp [narTo, List.range_succ]
/-- A smaller set of symbols, empty only where the greater is. -/
def Sub1 (p x : Int) : Prop := I64 p ∧ I64 x ∧ bv x &&& bv p = bv x ∧ (x = 0 ↔ p = 0)
theorem i64_and (x y : Int) : I64 (andI x y) := by unfold andI; rw [bits_and]; exact i64_toInt _
theorem bv_andI (x y : Int) : bv (andI x y) = bv x &&& bv y := by unfold andI; rw [bits_and, bv_toInt]
theorem andI_zero {x y : Int} : andI x y = 0 ↔ bv x &&& bv y = 0#64 := by
  rw [zero_iff (i64_and x y), bv_andI]
theorem andI_self {x y : Int} (h : I64 x) : andI x y = x ↔ bv x &&& bv y = bv x := by
  rw [← bv_andI]
  exact ⟨fun e => by rw [e], fun e => bv_inj (i64_and x y) h e⟩
theorem nar_i64 {p s : Int} (h : I64 p) : I64 (nar p s) := by
  unfold nar; split
  · exact h
  · exact i64_and _ _
theorem nar_sub {p s : Int} (h : I64 p) : Sub1 p (nar p s) := by
  refine ⟨h, nar_i64 h, ?_, ?_⟩
  · unfold nar; split
    · exact BitVec.and_self
    · rw [bv_andI, BitVec.and_assoc, BitVec.and_comm (bv s), ← BitVec.and_assoc, BitVec.and_self]
  · unfold nar; split
    · exact Iff.rfl
    · rename_i hz
      constructor
      · intro e; exact absurd e hz
      · intro e; exact absurd (by rw [e, andI_zero, bv_zero, BitVec.zero_and]) hz
theorem sub_zero : Sub1 0 0 := ⟨⟨by decide, by decide⟩, ⟨by decide, by decide⟩, BitVec.and_self, Iff.rfl⟩
theorem sub_at {pos less : List Int} (h : ∀ x ∈ pos, I64 x) (k : Nat) : Sub1 (num pos k) (num (narL pos less) k) := by
  by_cases hk : k < pos.length
  · have e : num (narL pos less) k = nar (num pos k) (num less k) := by
      rw [num_eq (by rw [narL, narTo_len]; exact hk)]
      simp [narL, narTo]
    rw [e]
    exact nar_sub (h _ (by rw [num_eq hk]; exact List.getElem_mem hk))
  · have e1 : num pos k = 0 := by unfold num; rw [List.getD_eq_getElem?_getD, List.getElem?_eq_none (by omega)]; rfl
    have e2 : num (narL pos less) k = 0 := by unfold num; rw [List.getD_eq_getElem?_getD, List.getElem?_eq_none (by rw [narL, narTo_len]; omega)]; rfl
    rw [e1, e2]; exact sub_zero
/-- One position is within another, dead where the other is. -/
def SubP (pos x : List Int) : Prop := ∀ k, Sub1 (num pos k) (num x k)
theorem Sub1.has {p x : Int} (h : Sub1 p x) {k : Nat} (hk : hasS x k = true) : hasS p k = true := by
  unfold hasS at *
  rw [← h.2.2.1, BitVec.getLsbD_and, Bool.and_eq_true] at hk
  exact hk.2
theorem Sub1.zero {p x s : Int} (h : Sub1 p x) (e : andI p s = 0) : andI x s = 0 := by
  rw [andI_zero] at *
  rw [← h.2.2.1, BitVec.and_assoc, e, BitVec.and_zero]
theorem Sub1.self {p x s : Int} (h : Sub1 p x) (e : andI p s = p) : andI x s = x := by
  rw [andI_self h.1] at e
  rw [andI_self h.2.1]
  conv => lhs; rw [← h.2.2.1, BitVec.and_assoc, e]
  exact h.2.2.1
theorem homeAt_sub {pos x cells : List Int} (h : SubP pos x) {s y : Int} (e : homeAt pos cells s y = true) : homeAt x cells s y = true := by
  unfold homeAt at *
  rw [Bool.or_eq_true] at *
  rcases e with e | e
  · exact .inl e
  · refine .inr ?_
    rw [Bool.not_eq_true'] at *
    cases hc : hasS (num x y.toNat) s.toNat
    · rfl
    · rw [(h y.toNat).has hc] at e; cases e
theorem homeB_sub {q : Problem} {pos x : List Int} (h : SubP pos x) {c : Cons} {cells : List Int} {s : Int} (e : homeB q pos c cells s = true) : homeB q x c cells s = true := by
  unfold homeB at *
  rw [Bool.and_eq_true] at *
  exact ⟨e.1, List.all_eq_true.2 fun y hy => homeAt_sub h (List.all_eq_true.1 e.2 y hy)⟩
theorem quotaAt_sub {pos x cells : List Int} (h : SubP pos x) {set y : Int} (e : quotaAt pos cells set y = true) : quotaAt x cells set y = true ∧ quotaIn x cells set y = quotaIn pos cells set y := by
  unfold quotaAt quotaIn at *
  have hs := h y.toNat
  cases hm : memB cells y
  · rw [hm] at e
    simp only [Bool.false_or, Bool.or_eq_true, beq_iff_eq] at e
    rcases e with e | e
    · have e2 := hs.zero e
      rw [e, e2]
      refine ⟨by simp, ?_⟩
      have := hs.2.2.2
      simp only [Bool.not_false, Bool.true_and]
      rw [Bool.eq_iff_iff, beq_iff_eq, beq_iff_eq]
      exact ⟨fun a => (this.1 a.symm).symm, fun a => (this.2 a.symm).symm⟩
    · have e2 := hs.self e
      rw [e, e2]
      simp
  · simp
theorem quotaB_sub {pos x : List Int} (h : SubP pos x) {c : Cons} {cells : List Int} {set n : Int} (e : quotaB pos c cells set n = true) : quotaB x c cells set n = true := by
  unfold quotaB at *
  rw [Bool.and_eq_true, Bool.and_eq_true] at *
  obtain ⟨⟨e1, e2⟩, e3⟩ := e
  have k := fun y hy => quotaAt_sub h (List.all_eq_true.1 e2 y hy)
  refine ⟨⟨e1, List.all_eq_true.2 fun y hy => (k y hy).1⟩, ?_⟩
  unfold leftN at *
  rw [filter_congr' fun y hy => (k y hy).2]
  exact e3
theorem metC_sub {q : Problem} {pos x : List Int} (h : SubP pos x) {kind n : Int} {own letters : List Int} (e : metC q pos kind n own letters = true) : metC q x kind n own letters = true := by
  unfold metC at *
  split
  · rename_i hk; rw [if_pos hk] at e; exact e
  · rename_i h1
    rw [if_neg h1] at e
    split
    · rename_i hk; rw [if_pos hk] at e; exact e
    · rename_i h5
      rw [if_neg h5] at e
      rw [List.any_eq_true] at *
      obtain ⟨c, hc, e⟩ := e
      refine ⟨c, hc, ?_⟩
      unfold metOne at *
      split
      · rename_i hk; rw [if_pos hk] at e; exact homeB_sub h e
      · rename_i h2
        rw [if_neg h2] at e
        split
        · rename_i hk; rw [if_pos hk] at e; exact e
        · rename_i h3
          rw [if_neg h3] at e
          split
          · rename_i hk; rw [if_pos hk] at e; exact e
          · rename_i h4
            rw [if_neg h4] at e
            split
            · rename_i hk; rw [if_pos hk] at e; exact quotaB_sub h e
            · rename_i h6; rw [if_neg h6] at e; exact e
theorem dead_num {l : List Int} : deadB l = false ↔ ∀ k, k < l.length → num l k ≠ 0 := by
  unfold deadB
  rw [List.any_eq_false]
  constructor
  · intro h k hk e
    rw [num_eq hk] at e
    exact h _ (List.getElem_mem hk) (by simp [e])
  · intro h x hx
    obtain ⟨k, hk, rfl⟩ := List.getElem_of_mem hx
    have := h k hk
    rw [num_eq hk] at this
    simpa using this
theorem dead_sub {pos x : List Int} (h : SubP pos x) (hl : x.length = pos.length) (e : deadB pos = false) : deadB x = false := by
  rw [dead_num] at *
  intro k hk h0
  exact e k (by omega) ((h k).2.2.2.1 h0)
theorem premB1_sub {pos x cells symbols : List Int} (h : SubP pos x) {y : Premise} (e : premB1 pos cells symbols y = true) : premB1 x cells symbols y = true := by
  unfold premB1 at *
  rw [beq_iff_eq] at *
  exact (h _).self e
theorem fitB_sub {q : Problem} {pos x : List Int} (h : SubP pos x) (hl : x.length = pos.length) {r : Rule} {i : Inst} (e : fitB q pos r i = true) : fitB q x r i = true := by
  unfold fitB at *
  simp only [Bool.and_eq_true, Bool.not_eq_true', List.all_eq_true] at *
  obtain ⟨⟨⟨⟨e1, e2⟩, e3⟩, e4⟩, e5⟩ := e
  refine ⟨⟨⟨⟨dead_sub h hl e1, e2⟩, e3⟩, fun c hc => ?_⟩, fun c hc => premB1_sub h (e5 c hc)⟩
  have := e4 c hc
  unfold metB at *
  rw [Bool.and_eq_true, Bool.not_eq_true'] at *
  exact ⟨dead_sub h hl this.1, metC_sub h this.2⟩
theorem sub_le {p x : Int} (h : Sub1 p x) (hp : 0 ≤ p) : 0 ≤ x ∧ x ≤ p := by
  have e1 := toInt_bv h.1
  have e2 := toInt_bv h.2.1
  have hn : (bv p).toNat < 2 ^ 63 := by
    rcases Nat.lt_or_ge (bv p).toNat (2 ^ 63) with hn | hn
    · exact hn
    · rw [BitVec.toInt_eq_toNat_cond, if_neg (by omega)] at e1
      have := (bv p).isLt
      omega
  have hle : (bv x).toNat ≤ (bv p).toNat := by
    rw [← h.2.2.1, BitVec.toNat_and]; exact Nat.and_le_right
  rw [BitVec.toInt_eq_toNat_cond, if_pos (by omega)] at e1 e2
  omega
theorem check_sub {q : Problem} {pos x : List Int} (h : SubP pos x) (hl : x.length = pos.length) (e : checkB q pos = true) : checkB q x = true := by
  unfold checkB okPos at *
  simp only [Bool.and_eq_true, decide_eq_true_eq] at *
  refine ⟨e.1, by rw [hl]; exact e.2.1, ?_⟩
  unfold inB at *
  rw [List.all_eq_true]
  intro y hy
  obtain ⟨k, hk, rfl⟩ := List.getElem_of_mem hy
  have h1 := List.all_eq_true.1 e.2.2 _ (List.getElem_mem (n := k) (by omega))
  have h2 := h k
  rw [num_eq hk, num_eq (by omega)] at h2
  simp only [Bool.and_eq_true, decide_eq_true_eq] at *
  have h3 := sub_le h2 h1.1
  exact ⟨h3.1, by omega⟩
theorem fitsR_yes {q : Problem} {l : List Rule} {pos : List Int} {i : Inst} {r : Bool × Int} (e : fitsR q l pos i = r) (h : r.1 = true) : libB q l pos = true ∧ (0 ≤ i.rule ∧ i.rule < l.length) ∧ instB q (ruleN l i.rule.toNat) i = true ∧ fitB q pos (ruleN l i.rule.toNat) i = true ∧ r.2 = 0 := by
  unfold fitsR at e
  split at e
  · rename_i h1
    split at e
    · rename_i h2
      split at e
      · rename_i h3
        subst e
        exact ⟨h1, h2, h3, h, rfl⟩
      · subst e; cases h
    · subst e; cases h
  · subst e; cases h
theorem fitsR_dead {q : Problem} {l : List Rule} {pos : List Int} {i : Inst} (h : (fitsR q l pos i).1 = true) : deadB pos = false := by
  have := (fitsR_yes rfl h).2.2.2.1
  unfold fitB at this
  simp only [Bool.and_eq_true, Bool.not_eq_true'] at this
  exact this.1.1.1.1
theorem fitsR_sub {q : Problem} {l : List Rule} {pos x : List Int} {i : Inst} (hs : SubP pos x) (hl : x.length = pos.length) (h : (fitsR q l pos i).1 = true) : fitsR q l x i = (true, 0) := by
  obtain ⟨h1, h2, h3, h4, -⟩ := fitsR_yes rfl h
  have h5 : libB q l x = true := by
    unfold libB at *
    simp only [Bool.and_eq_true] at *
    exact ⟨⟨check_sub hs hl h1.1.1, h1.1.2⟩, h1.2⟩
  unfold fitsR
  rw [if_pos h5, if_pos h2, if_pos h3, fitB_sub hs hl h4]
theorem fitsR_nar {q : Problem} {l : List Rule} {pos less : List Int} {i : Inst} (hi : ∀ x ∈ pos, I64 x) (h : (fitsR q l pos i).1 = true) : fitsR q l (narL pos less) i = (true, 0) :=
  fitsR_sub (sub_at hi) (narTo_len _ _ _) h
theorem fitsR_zero {q : Problem} {l : List Rule} {pos : List Int} {i : Inst} (h : (fitsR q l pos i).1 = true) : (fitsR q l pos i).2 = 0 := (fitsR_yes rfl h).2.2.2.2
end Go.Proofs.YtimkijmjbnmcbaaGreat
