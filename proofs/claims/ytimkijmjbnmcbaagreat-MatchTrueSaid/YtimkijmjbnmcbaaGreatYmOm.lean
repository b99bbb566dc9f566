/- Plain law: the two texts list the same. No code is walked here. -/
import Derived.Test.YtimkijmjbnmcbaaGreatYm24
namespace Go.Proofs.YtimkijmjbnmcbaaGreat
open Go.RowKit
/-- One number more, in whatever way. -/
def stepC (n : Int) (l : List Int) : List (List Int) := (List.range n.toNat).flatMap fun a : Nat => if memB l (a : Int) then [] else [l ++ [(a : Int)]]
/-- What the reference's Choices gives. -/
def choicesR (n : Int) : Nat → List (List Int)
  | 0 => [[]]
  | k + 1 => (choicesR n k).flatMap (stepC n)
/-- d numbers more. -/
def fromC (n : Int) : Nat → List Int → List (List Int)
  | 0, l => [l]
  | d + 1, l => (stepC n l).flatMap (fromC n d)
theorem fromC_snoc (n : Int) : ∀ (d : Nat) (l : List Int), fromC n (d + 1) l = (fromC n d l).flatMap (stepC n)
  | 0, l => by simp [fromC]
  | d + 1, l => by
    show (stepC n l).flatMap (fromC n (d + 1)) = ((stepC n l).flatMap (fromC n d)).flatMap (stepC n)
    rw [List.flatMap_assoc]
    congr 1
    funext m
    exact fromC_snoc n d m
theorem choicesR_eq (n : Int) : ∀ k, choicesR n k = fromC n k []
  | 0 => rfl
  | k + 1 => by rw [choicesR, choicesR_eq n k, fromC_snoc]
theorem fromC_prefix {n : Int} : ∀ {d : Nat} {l x : List Int}, x ∈ fromC n d l → l <+: x
  | 0, l, x, h => by
    obtain rfl : x = l := by simpa [fromC] using h
    exact List.prefix_rfl
  | d + 1, l, x, h => by
    obtain ⟨m, hm, hx⟩ := List.mem_flatMap.1 h
    obtain ⟨a, _, ha⟩ := List.mem_flatMap.1 hm
    have h1 := fromC_prefix hx
    cases hb : memB l (a : Int)
    · rw [hb] at ha
      obtain rfl : m = l ++ [(a : Int)] := by simpa using ha
      exact (List.prefix_append _ _).trans h1
    · rw [hb] at ha; simp at ha
/-- All beginnings from a on are permitted. -/
def allB (may : List Int → Bool) (a d : Nat) (x : List Int) : Bool := (List.range (d + 1)).all fun j => may (x.take (a + j))
theorem allB_zero (may : List Int → Bool) (a : Nat) (x : List Int) : allB may a 0 x = may (x.take a) := by simp [allB]
theorem allB_succ (may : List Int → Bool) (a d : Nat) (x : List Int) : allB may a (d + 1) x = (may (x.take a) && allB may (a + 1) d x) := by
  unfold allB
  rw [List.range_succ_eq_map, List.all_cons, List.all_map]
  congr 1
  congr 1
  funext j
  simp only [Function.comp]
  congr 2
  omega
theorem filter_congr2 {α : Type} {p r : α → Bool} {l : List α} (h : ∀ x ∈ l, p x = r x) : l.filter p = l.filter r := filter_congr' h
theorem chR_filter (n : Int) (may : List Int → Bool) : ∀ (d : Nat) (l : List Int), chR n may d l = (fromC n d l).filter fun x => allB may l.length d x
  | 0, l => by
    simp only [chR, fromC, List.filter_cons, List.filter_nil, allB_zero, List.take_length]
  | d + 1, l => by
    have key : ∀ a : Nat, ((if memB l (a : Int) then ([] : List (List Int)) else [l ++ [(a : Int)]]).flatMap (fromC n d)).filter (fun x => allB may l.length (d + 1) x) = if may l then (if memB l (a : Int) then [] else chR n may d (l ++ [(a : Int)])) else [] := by
      intro a
      cases hb : memB l (a : Int)
      · simp only [Bool.false_eq_true, if_false, List.flatMap_cons, List.flatMap_nil, List.append_nil]
        have hp : ∀ x ∈ fromC n d (l ++ [(a : Int)]), allB may l.length (d + 1) x = (may l && allB may (l ++ [(a : Int)]).length d x) := by
          intro x hx
          obtain ⟨t, rfl⟩ := (List.prefix_append l [(a : Int)]).trans (fromC_prefix hx)
          rw [allB_succ, List.take_left, List.length_append, List.length_singleton]
        rw [filter_congr2 hp]
        cases hm : may l
        · simp
        · simp only [Bool.true_and, if_true]
          rw [chR_filter n may d]
      · simp
    rw [fromC]
    unfold stepC
    rw [List.flatMap_assoc, List.filter_flatMap]
    rw [show (fun a : Nat => ((if memB l (a : Int) then ([] : List (List Int)) else [l ++ [(a : Int)]]).flatMap (fromC n d)).filter (fun x => allB may l.length (d + 1) x)) = fun a : Nat => if may l then (if memB l (a : Int) then [] else chR n may d (l ++ [(a : Int)])) else [] from funext key]
    rw [chR]
    cases hm : may l
    · simp
    · simp
theorem chR_true (n : Int) (k : Nat) : chR n (fun _ => true) k [] = choicesR n k := by
  rw [chR_filter, choicesR_eq]
  refine List.filter_eq_self.2 fun x _ => ?_
  simp [allB]
/-! ### Conditions without letters are decided on the beginning. -/
theorem chosen_take {x s : List Int} {m : Nat} (h : ∀ i ∈ s, 0 ≤ i ∧ i < (m : Int)) : chosen (x.take m) s = chosen x s := by
  unfold chosen
  refine List.map_congr_left fun i hi => ?_
  have := h i hi
  unfold num
  simp only [List.getD_eq_getElem?_getD]
  rw [List.getElem?_take]
  rw [if_pos (by omega)]
theorem metB_none {q : Problem} {pos : List Int} {c : Cond} {cells s t : List Int} (h : c.letters.length = 0) : metB q pos c cells s = metB q pos c cells t := by
  have e := List.length_eq_zero_iff.1 h
  unfold metB
  rw [e]; rfl
theorem maxL_mem {l : List Int} (h : 0 < l.length) : maxL l ∈ l := by
  have key : ∀ (l : List Int) (a : Int), l.foldl max a = a ∨ l.foldl max a ∈ l := by
    intro l
    induction l with
    | nil => intro a; exact .inl rfl
    | cons y l ih =>
      intro a
      rw [List.foldl_cons]
      rcases ih (max a y) with h | h
      · rw [h]
        by_cases e : a ≤ y
        · right; rw [show max a y = y by omega]; simp
        · left; omega
      · right; exact List.mem_cons_of_mem _ h
  cases l with
  | nil => simp at h
  | cons y l =>
    rcases key l y with h | h
    · simp only [maxL]; rw [h]; simp
    · simp only [maxL]; exact List.mem_cons_of_mem _ h
/-- A condition without letters is met by the cells. -/
def freeB (q : Problem) (pos cells : List Int) (c : Cond) : Bool := !((c.letters.length : Int) == 0) || metB q pos c cells []
theorem free_eq {q : Problem} {pos : List Int} {r : Rule} (hv : validR r = true) {x : List Int} (hx : x.length = r.cells.length) : allB (mayB q pos r) 0 r.cells.length x = r.conds.all (freeB q pos x) := by
  rw [Bool.eq_iff_iff]
  unfold allB mayB
  simp only [List.all_eq_true, Nat.zero_add]
  have one : ∀ c ∈ r.conds, ((∀ j ∈ List.range (r.cells.length + 1), (!(barB q pos (x.take j) c)) = true) ↔ freeB q pos x c = true) := by
    intro c hc
    have hcond := valid_cond hv hc
    unfold condB at hcond
    simp only [Bool.and_eq_true, decide_eq_true_eq] at hcond
    have hpos := cond_some hv hc
    have hidx := diff_iff hcond.1.1.1
    cases h0 : ((c.letters.length : Int) == 0)
    · unfold freeB barB
      simp [h0]
    · have hm := hidx _ (maxL_mem hpos)
      have hmet : ∀ j, j ≤ r.cells.length → maxL c.cells = ((x.take j).length : Int) - 1 → metB q pos c (x.take j) [] = metB q pos c x [] := by
        intro j hj he
        unfold metB
        rw [chosen_take fun i hi => ⟨(hidx i hi).1, ?_⟩]
        have h1 := maxL_ge i hi
        rw [List.length_take] at he
        omega
      unfold freeB
      rw [h0]
      simp only [Bool.not_true, Bool.false_or]
      constructor
      · intro h
        have h1 := h ((maxL c.cells).toNat + 1) (List.mem_range.2 (by omega))
        have he : maxL c.cells = ((x.take ((maxL c.cells).toNat + 1)).length : Int) - 1 := by rw [List.length_take]; omega
        rw [← hmet _ (by omega) he]
        unfold barB at h1
        rw [h0, show (maxL c.cells == ((x.take ((maxL c.cells).toNat + 1)).length : Int) - 1) = true from beq_iff_eq.2 he] at h1
        simpa using h1
      · intro h j hj
        have hj2 := List.mem_range.1 hj
        unfold barB
        cases hb : (maxL c.cells == ((x.take j).length : Int) - 1)
        · simp
        · rw [hmet j (by omega) (beq_iff_eq.1 hb), h]; simp
  constructor
  · intro h c hc
    exact (one c hc).1 fun j hj => h j hj c hc
  · intro h j hj c hc
    exact (one c hc).2 (h c hc) j hj
/-! ### What the reference lists. -/
/-- An instance removes something. -/
def remB (pos : List Int) (x : Rule) (cells symbols : List Int) : Bool := hasS (num pos (num cells x.cell.toNat).toNat) (num symbols x.letter.toNat).toNat
def keepB (q : Problem) (pos : List Int) (x : Rule) (j : Int) (c s : List Int) : Bool := fitB q pos x ⟨j, c, s⟩ && remB pos x c s
def refIn (q : Problem) (pos : List Int) (x : Rule) (j : Int) (c : List Int) (ss : List (List Int)) : List Inst := (ss.filter (keepB q pos x j c)).map fun s => ⟨j, c, s⟩
def refOut (q : Problem) (pos : List Int) (x : Rule) (j : Int) (cs : List (List Int)) : List Inst := cs.flatMap fun c => refIn q pos x j c (choicesR q.symbols x.letters.length)
def refRule (q : Problem) (pos : List Int) (x : Rule) (level j : Int) : List Inst := if level < x.level then [] else refOut q pos x j (choicesR q.cells x.cells.length)
def refTo (q : Problem) (pos : List Int) (l : List Rule) (level : Int) (k : Nat) : List Inst := (List.range k).flatMap fun j => refRule q pos (ruleN l j) level j
def refListR (q : Problem) (l : List Rule) (pos : List Int) (level : Int) : List Inst × Int := if libB q l pos then (refTo q pos l level l.length, 0) else ([], libE q l pos)
theorem conds_split {q : Problem} {pos : List Int} (cs : List Cond) (c s : List Int) : (cs.all (freeB q pos c) && !(cs.any (lackB q pos c s))) = cs.all fun d => metB q pos d c s := by
  induction cs with
  | nil => rfl
  | cons d cs ih =>
    rw [List.all_cons, List.all_cons, List.any_cons, ← ih]
    have one : (freeB q pos c d && !(lackB q pos c s d)) = metB q pos d c s := by
      unfold freeB lackB
      by_cases h : d.letters.length = 0
      · rw [show ((d.letters.length : Int) == 0) = true from beq_iff_eq.2 (by omega), show decide (0 < (d.letters.length : Int)) = false from decide_eq_false (by omega), metB_none (s := []) (t := s) h]
        simp
      · rw [show ((d.letters.length : Int) == 0) = false from beq_eq_false_iff_ne.2 (by omega), show decide (0 < (d.letters.length : Int)) = true from decide_eq_true (by omega)]
        simp
    rw [← one]
    cases freeB q pos c d <;> cases lackB q pos c s d <;> cases cs.all (freeB q pos c) <;> cases cs.any (lackB q pos c s) <;> rfl
theorem keep_take {q : Problem} {pos : List Int} {x : Rule} {j : Int} {c s : List Int} (hd : deadB pos = false) (hc : diffB c q.cells = true) (hs : diffB s q.symbols = true) : keepB q pos x j c s = (x.conds.all (freeB q pos c) && takeB q pos x c s) := by
  have h := conds_split (q := q) (pos := pos) x.conds c s
  unfold keepB fitB takeB remB
  rw [hd, hc, hs, ← h]
  cases x.conds.all (freeB q pos c) <;> cases x.conds.any (lackB q pos c s) <;> cases x.premises.all (premB1 pos c s) <;> simp
theorem rule_eq {q : Problem} {pos : List Int} {x : Rule} {level j : Int} (hd : deadB pos = false) (hv : validR x = true) : ruleL q pos x level j = refRule q pos x level j := by
  unfold ruleL refRule
  split
  · rfl
  unfold outL refOut cellC symC
  rw [chR_true, chR_filter, ← choicesR_eq]
  simp only [List.length_nil]
  rw [filter_congr2 (r := fun c => x.conds.all (freeB q pos c)) fun c hc => free_eq hv (by
    rw [← chR_true] at hc
    exact (chR_in List.prefix_rfl hc).1)]
  have hm : ∀ c ∈ choicesR q.cells x.cells.length, diffB c q.cells = true := fun c hc => by
    rw [← chR_true] at hc; exact (chR_in List.prefix_rfl hc).2
  have hs : ∀ s ∈ choicesR q.symbols x.letters.length, diffB s q.symbols = true := fun s hs => by
    rw [← chR_true] at hs; exact (chR_in List.prefix_rfl hs).2
  generalize choicesR q.cells x.cells.length = cs at hm
  generalize choicesR q.symbols x.letters.length = ss at hs
  induction cs with
  | nil => rfl
  | cons c cs ih =>
    have ih2 := ih fun d hd => hm d (List.mem_cons_of_mem _ hd)
    rw [List.filter_cons, List.flatMap_cons, ← ih2]
    have e : refIn q pos x j c ss = if x.conds.all (freeB q pos c) then inL q pos x j c ss else [] := by
      unfold refIn inL
      rw [filter_congr2 fun s h => keep_take (x := x) (j := j) hd (hm c (by simp)) (hs s h)]
      cases x.conds.all (freeB q pos c) <;> simp
    rw [e]
    cases x.conds.all (freeB q pos c) <;> simp
theorem keep_dead {q : Problem} {pos : List Int} {x : Rule} {j : Int} {c s : List Int} (hd : deadB pos = true) : keepB q pos x j c s = false := by unfold keepB fitB; rw [hd]; rfl
theorem flat_congr {α β : Type} {l : List α} {f g : α → List β} (h : ∀ x ∈ l, f x = g x) : l.flatMap f = l.flatMap g := by
  induction l with
  | nil => rfl
  | cons x l ih => rw [List.flatMap_cons, List.flatMap_cons, h x (by simp), ih fun y hy => h y (List.mem_cons_of_mem _ hy)]
theorem flat_nil {α β : Type} {l : List α} {f : α → List β} (h : ∀ x ∈ l, f x = []) : l.flatMap f = [] := by
  induction l with
  | nil => rfl
  | cons x l ih => rw [List.flatMap_cons, h x (by simp), ih fun y hy => h y (List.mem_cons_of_mem _ hy)]; rfl
theorem ref_dead {q : Problem} {pos : List Int} (hd : deadB pos = true) (l : List Rule) (level : Int) (k : Nat) : refTo q pos l level k = [] := by
  refine flat_nil fun j _ => ?_
  unfold refRule
  split
  · rfl
  · refine flat_nil fun c _ => ?_
    unfold refIn
    rw [filter_congr2 (r := fun _ => false) fun s _ => keep_dead hd]
    simp
theorem lib_rule {q : Problem} {l : List Rule} {pos : List Int} (h : libB q l pos = true) {k : Nat} (hk : k < l.length) : validR l[k] = true := by
  simp only [libB, Bool.and_eq_true] at h
  exact List.all_eq_true.1 h.2 _ (List.getElem_mem hk)
/-- The program and the reference list the same. -/
theorem list_eq (q : Problem) (l : List Rule) (pos : List Int) (level : Int) : listR q l pos level = refListR q l pos level := by
  unfold listR refListR
  split
  · rename_i h
    cases hd : deadB pos
    · simp only [Bool.false_eq_true, if_false]
      congr 1
      unfold listTo refTo
      refine flat_congr fun j hj => ?_
      have hj2 := List.mem_range.1 hj
      rw [ruleN_eq hj2]
      exact rule_eq hd (lib_rule h hj2)
    · simp only [if_true]
      rw [ref_dead hd]
  · rfl
end Go.Proofs.YtimkijmjbnmcbaaGreat
