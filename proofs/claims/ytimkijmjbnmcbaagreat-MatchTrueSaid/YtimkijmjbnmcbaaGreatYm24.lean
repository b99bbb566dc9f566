/- List: what it keeps in memory, and what it lists, as data. Contract: match.List. Contract: the chapter's examples hold. -/
import Derived.Test.YtimkijmjbnmcbaaGreatYm19
import Derived.Test.YtimkijmjbnmcbaaGreatYm22
import Derived.Test.YtimkijmjbnmcbaaGreatYm23
import Derived.Test.YtimkijmjbnmcbaaGreatYm20
namespace Go.Proofs.YtimkijmjbnmcbaaGreat
open Go Go.RowKit
/-! ### Instances in memory. -/
theorem RInts.kb {K : Nat → Prop} {w w' : World} {A : Option Addr} {l : List Int} (h : RInts w A l) (hk : KB K w w') (hA : ∀ ad, A = some ad → 0 < l.length → K ad.block) : RInts w' A l := by
  refine ⟨h.1, fun hp => ?_⟩
  obtain ⟨ad, e, hlt, hc⟩ := h.2 hp
  refine ⟨ad, e, Nat.lt_of_lt_of_le hlt hk.size, fun i hi => ?_⟩
  obtain ⟨vs, h1, h2, h3⟩ := hc i hi
  exact ⟨vs, h1, h2, fun j hj => hk.cell (by rw [block_of_add]; exact hA ad e hp) (h3 j hj)⟩
def EInst : ETy Inst where
  et := 32
  st := 59
  size := 3
  bytes := 56
  z := .agg #[.int .i64 0, .slice none 0 0, .slice none 0 0]
  R := RInst
  under := by kernel_rfl
  info := by
    obtain ⟨i, h1, h2, h3, h4⟩ := info_parts (P := Tryz.prog) (e := 32) (z := .agg #[.int .i64 0, .slice none 0 0, .slice none 0 0]) (size := 3) (bytes := 56) (by kernel_rfl)
    exact ⟨i, h1, h2, h3, h4⟩
  zsize := rfl
  pos := by decide
  len := by rintro w vs x ⟨p, rfl, -⟩; exact ⟨rfl, by simp [Value.oneCell']⟩
  keep := RInst.keeps
theorem instLie {O : TSet} {w : World} {i : Inst} {p : IPtr} (h : RInstP w i p) (ha : ∀ ad, p.a = some ad → 0 < i.cells.length → ¬ O ad.block) (hb : ∀ ad, p.b = some ad → 0 < i.symbols.length → ¬ O ad.block) : LieOff EInst O w [instCells i p] [i] :=
  fun _ hk => ⟨⟨p, rfl, h.cells.kb hk ha, h.symbols.kb hk hb, h.rule, h.capc, h.caps⟩, trivial⟩
theorem OwnG.not_int {w : World} {base : Nat} {T : TSet} {A : Option Addr} {n c : Nat} {l : List Inst} (h : OwnG EInst w base T A n c l) {b : Nat} (hb : IntBlk w b) : blockOf A ≠ some b := by
  obtain ⟨hn, vss, h1, h2⟩ := h
  intro hA
  rcases h2.2 with ⟨e, h0⟩ | ⟨g, cap, cur, e, hb', hg, -, -, -, -⟩
  · injection e with e1 e2 e3; subst e1; cases hA
  · injection e with e1 e2 e3; subst e1
    injection hA with hA
    dsimp only at hA
    subst hA
    obtain ⟨cs, r, hc⟩ := hb
    rw [hc] at hg
    injection hg with hg
    injection hg with h3 h4
    exact absurd h4 (by decide)
/-! ### What stays while a loop runs. -/
/-- The blocks that a loop keeps: those that lay before, but the result's box and its list. -/
def Kx (W0 : World) (bx : Nat) (A0 : Option Addr) : TSet := fun b => b < W0.heap.size ∧ b ≠ bx ∧ blockOf A0 ≠ some b
/-- The blocks that may turn under the list's elements. -/
def TT (Told T : TSet) (bx : Nat) : TSet := fun k => Told k ∨ T k ∨ k = bx
structure LI (Told : TSet) (W0 : World) (A0 : Option Addr) (bx base : Nat) (L : List Inst) (T : TSet) (W : World) : Prop where
  tb : TB W0.heap.size T W
  own : ∃ A c, Blk W bx 59 #[.slice A L.length c] ∧ OwnG EInst W base (TT Told T bx) A L.length c L ∧ ∀ g, blockOf A = some g → ¬ Told g ∧ ¬ T g ∧ (W0.heap.size ≤ g ∨ blockOf A0 = some g)
  kb : KB (Kx W0 bx A0) W0 W
theorem LI.stays {β : Type} {Told : TSet} {W0 : World} {A0 : Option Addr} {bx base : Nat} (mk : β → List Inst) (hbx : bx < W0.heap.size) (hbase : bx < base) : Stays (fun s T W => LI Told W0 A0 bx base (mk s) T W) := by
  intro s T T' W W' ⟨⟨t1, t2⟩, ⟨A, c, b1, ho, hA⟩, hk⟩ k1 k2 k3
  have off : ∀ k, k < W0.heap.size → ¬ T k := fun k hk ht => by have := t2 k ht; omega
  have z := k1.size
  refine ⟨⟨Nat.le_trans t1 z, fun k hk => ?_⟩, ⟨A, c, b1.kb k1 (off _ hbx), ?_, fun g hg => ⟨(hA g hg).1, fun ht => ?_, (hA g hg).2.2⟩⟩, hk.tr (k1.mono fun k _ h => off k h.1)⟩
  · rcases k3 k hk with h | h
    · have := t2 k h; omega
    · omega
  · refine ho.stay (k1.mono fun k _ h ht => h (.inr (.inl ht))) (fun k hl ht => ht.imp id fun ht => ht.imp (fun h => (k3 k h).elim id fun h => by omega) id) fun k hk => ?_
    have h1 := hA k hk
    have h2 := (ho.lt k hk).1
    rintro (h | h | h)
    · exact h1.1 h
    · exact h1.2.1 h
    · omega
  · rcases k3 g ht with h | h
    · exact (hA g hg).2.1 h
    · have := (ho.lt g hg).2; omega
/-- One instance more. -/
theorem LI.push {Told : TSet} {W0 : World} {A0 : Option Addr} {bx base : Nat} {L : List Inst} {T : TSet} {V Va V2 : World} {A A' : Option Addr} {c c' : Nat} {i : Inst} (h : LI Told W0 A0 bx base L T V) (hbx : bx < W0.heap.size) (hbase : bx < base) (hT : ∀ k, Told k → k ≠ bx ∧ k < V.heap.size)
    (hb : Blk V bx 59 #[.slice A L.length c]) (ho : OwnG EInst V base (TT Told T bx) A L.length c L) (hA : ∀ g, blockOf A = some g → ¬ Told g ∧ ¬ T g ∧ (W0.heap.size ≤ g ∨ blockOf A0 = some g))
    (x : Ext V Va) (hg : Grew EInst Va base (TT Told T bx) A A' (L.length + 1) c' (L ++ [i]) V2) :
    LI Told W0 A0 bx base (L ++ [i]) T (V2.setCell ⟨bx, 0, none⟩ (.slice A' (L.length + 1) c')) ∧ KB (fun k => Kx W0 bx A0 k ∨ T k ∨ Told k) V (V2.setCell ⟨bx, 0, none⟩ (.slice A' (L.length + 1) c')) := by
  have hbA : blockOf A ≠ some bx := fun e => by have := (ho.lt bx e).1; omega
  have hbA' : blockOf A' ≠ some bx := fun e => by have := (hg.own.lt bx e).1; omega
  have t2 := h.tb.2
  have kk : KB (fun k => k ≠ bx ∧ blockOf A ≠ some k) V (V2.setCell ⟨bx, 0, none⟩ (.slice A' (L.length + 1) c')) :=
    ((KB.of_ext x).tr (hg.kb fun k hk h => h.2 hk)).set (.inr fun h => h.1 rfl) _
  have z := kk.size
  have z2 := x.size
  have off : ∀ k, (Kx W0 bx A0 k ∨ T k ∨ Told k) → k ≠ bx ∧ blockOf A ≠ some k := by
    rintro k (⟨k1, k2, k3⟩ | hk | hk)
    · refine ⟨k2, fun e => ?_⟩
      rcases (hA k e).2.2 with h | h
      · omega
      · exact k3 h
    · exact ⟨by have := t2 k hk; omega, fun e => (hA k e).2.1 hk⟩
    · exact ⟨(hT k hk).1, fun e => (hA k e).1 hk⟩
  have hbV : Blk Va bx 59 #[.slice A L.length c] := hb.ext x
  have hb2 : Blk V2 bx 59 #[.slice A L.length c] := hbV.kb (hg.kb (K := fun k => blockOf A ≠ some k) fun k hk h => h hk) hbA
  have hA' : ∀ g, blockOf A' = some g → ¬ Told g ∧ ¬ T g ∧ (W0.heap.size ≤ g ∨ blockOf A0 = some g) := by
    intro g hgb
    rcases hg.where_ with e | ⟨g', e, hge⟩
    · rw [e] at hgb; exact hA g hgb
    · rw [e] at hgb
      have e2 : g' = g := by simpa using hgb
      subst e2
      exact ⟨fun ht => by have := (hT g' ht).2; omega, fun ht => by have := t2 g' ht; omega, .inl (by have := h.tb.1; omega)⟩
  refine ⟨⟨⟨Nat.le_trans h.tb.1 z, fun k hk => ?_⟩, ⟨A', c', by have := hb2.set 0 (.slice A' (L.length + 1) c'); simpa using this, ?_, hA'⟩, h.kb.tr (kk.mono fun k _ hk => off k (.inl hk))⟩, kk.mono fun k _ hk => off k hk⟩
  · have := t2 k hk; omega
  · have ko : KB (fun k => ¬ TT Told T bx k) V2 (V2.setCell ⟨bx, 0, none⟩ (.slice A' (L.length + 1) c')) := (KB.refl _ V2).set (.inr fun h => h (.inr (.inr rfl))) _
    refine (hg.own.stay ko (fun _ _ h => h) fun k hk => ?_).as (by simp) rfl
    have h1 := hA' k hk
    rintro (h | h | h)
    · exact h1.1 h
    · exact h1.2.1 h
    · exact hbA' (h ▸ hk)
/-- The loop's list, outside the loop. -/
theorem LI.leave {Told T : TSet} {W0 W : World} {A0 : Option Addr} {bx base : Nat} {L : List Inst} (h : LI Told W0 A0 bx base L T W) : ∃ A c, Blk W bx 59 #[.slice A L.length c] ∧ OwnG EInst W base (TT Told noT bx) A L.length c L ∧ ∀ g, blockOf A = some g → ¬ Told g ∧ (W0.heap.size ≤ g ∨ blockOf A0 = some g) := by
  obtain ⟨A, c, b1, ho, hA⟩ := h.own
  refine ⟨A, c, b1, ?_, fun g hg => ⟨(hA g hg).1, (hA g hg).2.2⟩⟩
  obtain ⟨hn, vss, h1, h2⟩ := ho
  exact ⟨hn, vss, h1.to (KB.refl _ _) fun k _ hk => hk.imp (fun h => h.imp id fun h => h.imp (fun h => h.elim) id) id, h2⟩

/-! ### What is listed. -/
/-- An instance of chosen cells and symbols is taken. -/
def takeB (q : Problem) (pos : List Int) (x : Rule) (cells symbols : List Int) : Bool :=
  hasS (num pos (num cells x.cell.toNat).toNat) (num symbols x.letter.toNat).toNat && (x.premises.all (premB1 pos cells symbols) && !(x.conds.any (lackB q pos cells symbols)))
def inL (q : Problem) (pos : List Int) (x : Rule) (j : Int) (cells : List Int) (ss : List (List Int)) : List Inst := (ss.filter (takeB q pos x cells)).map fun s => ⟨j, cells, s⟩
def symC (q : Problem) (x : Rule) : List (List Int) := chR q.symbols (fun _ => true) x.letters.length []
def cellC (q : Problem) (pos : List Int) (x : Rule) : List (List Int) := chR q.cells (mayB q pos x) x.cells.length []
def outL (q : Problem) (pos : List Int) (x : Rule) (j : Int) (cs : List (List Int)) : List Inst := cs.flatMap fun c => inL q pos x j c (symC q x)
def ruleL (q : Problem) (pos : List Int) (x : Rule) (level j : Int) : List Inst := if level < x.level then [] else outL q pos x j (cellC q pos x)
def listTo (q : Problem) (pos : List Int) (l : List Rule) (level : Int) (k : Nat) : List Inst := (List.range k).flatMap fun j => ruleL q pos (ruleN l j) level j
/-- What List answers. -/
def listR (q : Problem) (l : List Rule) (pos : List Int) (level : Int) : List Inst × Int := if libB q l pos then (if deadB pos then [] else listTo q pos l level l.length, 0) else ([], libE q l pos)
theorem inL_snoc (q : Problem) (pos : List Int) (x : Rule) (j : Int) (cells : List Int) (ss : List (List Int)) (s : List Int) : inL q pos x j cells (ss ++ [s]) = inL q pos x j cells ss ++ if takeB q pos x cells s then [⟨j, cells, s⟩] else [] := by
  unfold inL; rw [List.filter_append, List.map_append]
  cases h : takeB q pos x cells s <;> simp [h]
theorem outL_snoc (q : Problem) (pos : List Int) (x : Rule) (j : Int) (cs : List (List Int)) (c : List Int) : outL q pos x j (cs ++ [c]) = outL q pos x j cs ++ inL q pos x j c (symC q x) := by
  unfold outL; rw [List.flatMap_append]; simp
theorem listTo_succ {q : Problem} {pos : List Int} {l : List Rule} {level : Int} {k : Nat} (h : k < l.length) : listTo q pos l level (k + 1) = listTo q pos l level k ++ ruleL q pos l[k] level k := by
  unfold listTo; rw [List.range_succ, List.flatMap_append]; simp [ruleN_eq h]
/-- A number more. -/
theorem diffB_snoc {l : List Int} {n x : Int} (h : diffB l n = true) (h0 : 0 ≤ x) (h1 : x < n) (h2 : memB l x = false) : diffB (l ++ [x]) n = true := by
  unfold diffB at *
  rw [List.all_eq_true] at *
  intro i hi
  rw [List.mem_range, List.length_append, List.length_singleton] at hi
  have hn : ∀ k, k < l.length → num (l ++ [x]) k = num l k := fun k hk => by rw [num_eq (by simp; omega), num_eq hk, List.getElem_append_left hk]
  by_cases e : i < l.length
  · have := h i (List.mem_range.2 e)
    unfold diffAt met at *
    rw [hn i e]
    simp only [Bool.and_eq_true, Bool.not_eq_true'] at *
    refine ⟨this.1, ?_⟩
    rw [List.any_eq_false] at *
    intro k hk
    have hk2 := List.mem_range.1 hk
    rw [hn k (by omega)]
    exact this.2 k hk
  · obtain rfl : i = l.length := by omega
    have e1 : num (l ++ [x]) l.length = x := by rw [num_eq (by simp)]; simp
    unfold diffAt met
    rw [e1]
    simp only [Bool.and_eq_true, Bool.not_eq_true', decide_eq_true_eq]
    refine ⟨⟨h0, h1⟩, ?_⟩
    rw [List.any_eq_false]
    intro k hk
    have hk2 := List.mem_range.1 hk
    rw [hn k hk2, num_eq hk2]
    have := List.any_eq_false.1 h2 l[k] (List.getElem_mem hk2)
    simpa using this
theorem chR_mem {n : Int} {may : List Int → Bool} : ∀ {d : Nat} {l x : List Int}, diffB l n = true → x ∈ chR n may d l → x.length = l.length + d ∧ diffB x n = true
  | 0, l, x, h, hx => by
    unfold chR at hx
    split at hx
    · obtain rfl := List.mem_singleton.1 hx; exact ⟨rfl, h⟩
    · simp at hx
  | d + 1, l, x, h, hx => by
    unfold chR at hx
    split at hx
    · obtain ⟨y, hy, hx⟩ := List.mem_flatMap.1 hx
      have hy2 := List.mem_range.1 hy
      cases hm : memB l (y : Int)
      · rw [hm] at hx
        have := chR_mem (diffB_snoc h (by omega) (by omega) hm) hx
        rw [List.length_append, List.length_singleton] at this
        exact ⟨by omega, this.2⟩
      · rw [hm] at hx; simp at hx
    · simp at hx
theorem chR_in {n : Int} {may : List Int → Bool} {k : Nat} {xs : List (List Int)} (h : xs <+: chR n may k []) {x : List Int} (hx : x ∈ xs) : x.length = k ∧ diffB x n = true := by
  have := chR_mem (n := n) (l := []) (by simp [diffB]) (h.subset hx)
  simpa using this
theorem outL_prefix (q : Problem) (pos : List Int) (x : Rule) (j : Int) {cs ds : List (List Int)} (h : cs <+: ds) : outL q pos x j cs <+: outL q pos x j ds := by
  obtain ⟨t, rfl⟩ := h
  unfold outL; rw [List.flatMap_append]; exact List.prefix_append _ _
theorem inL_prefix (q : Problem) (pos : List Int) (x : Rule) (j : Int) (c : List Int) {cs ds : List (List Int)} (h : cs <+: ds) : inL q pos x j c cs <+: inL q pos x j c ds := by
  obtain ⟨t, rfl⟩ := h
  unfold inL; rw [List.filter_append, List.map_append]; exact List.prefix_append _ _
theorem listTo_prefix (q : Problem) (pos : List Int) (l : List Rule) (level : Int) {k n : Nat} (h : k ≤ n) : listTo q pos l level k <+: listTo q pos l level n := by
  obtain ⟨d, rfl⟩ := Nat.exists_eq_add_of_le h
  unfold listTo
  rw [List.range_add, List.flatMap_append]
  exact List.prefix_append _ _
/-- How long the list is within a loop. -/
theorem len_bd {q : Problem} {pos : List Int} {l : List Rule} {level : Int} {k : Nat} (hk : k < l.length) (hv : ¬ level < l[k].level) {cs : List (List Int)} {c : List Int} {ss : List (List Int)} (hc : cs ++ [c] <+: cellC q pos l[k]) (hs : ss <+: symC q l[k]) :
    (listTo q pos l level k ++ outL q pos l[k] k cs ++ inL q pos l[k] k c ss).length ≤ (listTo q pos l level l.length).length := by
  have h1 := (inL_prefix q pos l[k] k c hs).length_le
  have h2 := (outL_prefix q pos l[k] k hc).length_le
  have h3 := (listTo_prefix q pos l level (show k + 1 ≤ l.length by omega)).length_le
  rw [outL_snoc, List.length_append] at h2
  rw [listTo_succ hk, List.length_append] at h3
  have e : ruleL q pos l[k] level k = outL q pos l[k] k (cellC q pos l[k]) := by unfold ruleL; rw [if_neg hv]
  rw [e] at h3
  rw [List.length_append, List.length_append]
  omega
/-- A list of instances. -/
theorem OwnG.insts {w : World} {base : Nat} {T : TSet} {A : Option Addr} {n c : Nat} {l : List Inst} (h : OwnG EInst w base T A n c l) (hl : n ≤ 1000000000000) : RInsts w A l ∧ l.length ≤ c := by
  obtain ⟨hn, vss, h1, h2⟩ := h
  have hL := h1.lie
  rcases h2.2 with ⟨e, h0⟩ | ⟨g, cap, cur, e, hb, hg, hnc, -, -, -⟩
  · obtain rfl : l = [] := List.length_eq_zero_iff.1 (by omega)
    exact ⟨⟨by simp, fun h => absurd h (by simp)⟩, by simp⟩
  · injection e with e1 e2 e3
    subst e1 e3
    refine ⟨⟨by omega, fun hp => ⟨_, rfl, (Array.getElem?_eq_some_iff.1 hg).1, fun i hi => ?_⟩⟩, by omega⟩
    obtain ⟨vs, hr, hv⟩ := hL.at_ i hi
    have hlen := (EInst.len _ _ _ hr).1
    refine ⟨vs, hlen, hr, fun j hj => ?_⟩
    have hx := hv j hj
    have hc := h2.cells (g := g) rfl (i * EInst.size + j) vs[j] hx
    exact hc
/-- What List answers, in memory. -/
def RetList (w : World) (r : List Inst × Int) (e : Ending) (w' : World) : Prop := ∃ A c, e = .returned (.tuple #[.slice A r.1.length c, .int .i64 r.2]) ∧ RInsts w' A r.1 ∧ r.1.length ≤ c ∧ Ext w w'
theorem listR_lib {q : Problem} {l : List Rule} {pos : List Int} {level : Int} (h : libB q l pos = false) : listR q l pos level = ([], libE q l pos) := by unfold listR; rw [h]; rfl
theorem listR_dead {q : Problem} {l : List Rule} {pos : List Int} {level : Int} (h : libB q l pos = true) (hd : deadB pos = true) : listR q l pos level = ([], 0) := by unfold listR; rw [h, hd]; rfl
theorem listR_live {q : Problem} {l : List Rule} {pos : List Int} {level : Int} (h : libB q l pos = true) (hd : deadB pos = false) : listR q l pos level = (listTo q pos l level l.length, 0) := by unfold listR; rw [h, hd]; rfl
theorem valid_pre {x : Rule} (hv : validR x = true) : x.cells.length ≤ 4 ∧ x.letters.length ≤ 3 ∧ (0 ≤ x.cell ∧ x.cell < (x.cells.length : Int)) ∧ (0 ≤ x.letter ∧ x.letter < (x.letters.length : Int)) ∧ x.level ≤ 8 ∧ 1 ≤ x.level := by
  unfold validR preR1 preR2 namesB at hv
  simp only [Bool.and_eq_true, decide_eq_true_eq] at hv
  obtain ⟨⟨⟨⟨⟨⟨⟨⟨⟨-, h1⟩, h2⟩, ⟨-, h3⟩⟩, ⟨-, h4⟩⟩, -⟩, ⟨h5, h6⟩⟩, -⟩, -⟩, -⟩ := hv
  exact ⟨by omega, by omega, h5, h6, h2, h1⟩
end Go.Proofs.YtimkijmjbnmcbaaGreat
namespace Go.Proofs.YtimkijmjbnmcbaaGreat
open Go Go.RowKit Go.Shelf
attribute [local go_sem] Oper.semAt_some
theorem RInsts.nil (w : World) (A : Option Addr) : RInsts w A [] := ⟨by simp, fun h => absurd h (by simp)⟩
/-- What List's boxes hold. -/
def ListBox (W : World) (g : Nat) (q : Problem) (p : PPtr) (n : Nat) (A : Option Addr) (a : Nat) (B : Option Addr) (bn bc : Nat) (P : Option Addr) (pn pl : Nat) : Prop :=
  (W.cell? ⟨g, 0, none⟩ = some (.int .i64 q.cells) ∧ W.cell? ⟨g, 1, none⟩ = some (.int .i64 q.symbols) ∧ W.cell? ⟨g, 2, none⟩ = some (.slice p.a q.values.length p.ac) ∧ W.cell? ⟨g, 3, none⟩ = some (.slice p.b q.neighbors.length p.bc) ∧ W.cell? ⟨g, 4, none⟩ = some (.slice p.c q.cons.length p.cc)) ∧
  W.cell? ⟨g + 1, 0, none⟩ = some (.slice A n a) ∧ W.cell? ⟨g + 1, 1, none⟩ = some (.slice B bn bc) ∧ W.cell? ⟨g + 1 + 1, 0, none⟩ = some (.slice P pl pn)
/-! ### What an iterator hands over, while loops open and close. -/
theorem IntBlk.off {W W' : World} {b l : Nat} (h : IntBlk W b) (hl : ∃ o, W.heap[l]? = some (.loop o)) (hk : KB (fun k => k ≠ l) W W') : b ≠ l ∧ IntBlk W' b := by
  obtain ⟨cs, r, hc⟩ := h
  obtain ⟨o, ho⟩ := hl
  have hne : b ≠ l := by rintro rfl; rw [hc] at ho; cases ho
  exact ⟨hne, cs, r, (hk.block b (Array.getElem?_eq_some_iff.1 hc).1 hne).trans hc⟩
theorem IntBlk.kb {K : Nat → Prop} {W W' : World} {b : Nat} (h : IntBlk W b) (hk : KB K W W') (hb : K b) : IntBlk W' b := by
  obtain ⟨cs, r, hc⟩ := h
  exact ⟨cs, r, (hk.block b (Array.getElem?_eq_some_iff.1 hc).1 hb).trans hc⟩
theorem RvL.off {Bs : Nat} {T : TSet} {W W' : World} {x : LA} {l : Nat} (hl : ∃ o, W.heap[l]? = some (.loop o)) (h : RvL Bs T W x) (hk : KB (fun k => k ≠ l) W W') : RvL Bs T W' x :=
  ⟨h.1.kb hk fun ad e _ => ((h.2.2 ad e).2.2.2.2.off hl hk).1, h.2.1, fun ad e => by
    obtain ⟨h1, h2, h3, h4, h5⟩ := h.2.2 ad e
    exact ⟨h1, h2, Nat.lt_of_lt_of_le h3 hk.size, h4, (h5.off hl hk).2⟩⟩
theorem RvL.ext {Bs : Nat} {T : TSet} {W W' : World} {x : LA} (h : RvL Bs T W x) (hk : Ext W W') : RvL Bs T W' x :=
  ⟨h.1.to hk, h.2.1, fun ad e => by
    obtain ⟨h1, h2, h3, h4, h5⟩ := h.2.2 ad e
    exact ⟨h1, h2, hk.lt h3, h4, h5.kb (KB.of_ext (K := fun _ => True) hk) trivial⟩⟩
theorem RvL.loop {Bs : Nat} {T : TSet} {W : World} {x : LA} {D l : Nat} (h : RvL Bs T W x) (hl : ∃ o, W.heap[l]? = some (.loop o)) (hD : W.heap[D]? = some (.deferred (some [])) ∨ ∃ o, W.heap[D]? = some (.loop o)) : RvL Bs (withLoop T D l) W x :=
  ⟨h.1, h.2.1, fun ad e => by
    obtain ⟨h1, h2, h3, h4, ⟨cs, r, h5⟩⟩ := h.2.2 ad e
    refine ⟨?_, h2, h3, h4, cs, r, h5⟩
    rintro (ht | ht | ht)
    · exact h1 ht
    · rw [ht] at h5
      rcases hD with hD | ⟨o, hD⟩
      · rw [h5] at hD; cases hD
      · rw [h5] at hD; cases hD
    · rw [ht] at h5
      obtain ⟨o, ho⟩ := hl
      rw [h5] at ho; cases ho⟩
/-- The box of a loop's variable. -/
def BoxAt (Bs : Nat) (x : LA) (b : Nat) (T : TSet) (W : World) : Prop := Blk W b 22 #[.slice x.2.1 x.1.length x.2.2] ∧ ¬ T b ∧ Bs ≤ b ∧ b < W.heap.size
def AxB (Bs : Nat) (Fr : Nat → Act → Prop) (x : LA) (a : Act) (T : TSet) (W : World) : Prop := ∃ b, Fr b a ∧ BoxAt Bs x b T W
theorem AxB.stays (Bs : Nat) (Fr : Nat → Act → Prop) (x : LA) (a : Act) : Stays (fun (_ : Unit) => AxB Bs Fr x a) := by
  rintro s T T' W W' ⟨b, hf, h1, h2, h3, h4⟩ k1 k2 k3
  refine ⟨b, hf, h1.kb k1 h2, fun ht => ?_, h3, Nat.lt_of_lt_of_le h4 k1.size⟩
  rcases k3 b ht with h | h
  · exact h2 h
  · omega
/-- Between two lemmas. -/
structure LL (w8 : World) (bx : Nat) (L : List Inst) (Ds : List Nat) (W : World) : Prop where
  marked : Marked Ds W
  ds : ∀ D ∈ Ds, w8.heap.size ≤ D
  own : ∃ A c, Blk W bx 59 #[.slice A L.length c] ∧ OwnG EInst W w8.heap.size (TT noT noT bx) A L.length c L
  kb : KB (fun b => b < w8.heap.size ∧ b ≠ bx) w8 W
theorem LL.ext {w8 W W' : World} {bx : Nat} {L : List Inst} {Ds : List Nat} (h : LL w8 bx L Ds W) (hb : Ext W W') : LL w8 bx L Ds W' := by
  obtain ⟨A, c, b1, ho⟩ := h.own
  exact ⟨h.marked.kb (KB.of_ext (K := fun _ => True) hb) fun _ _ => trivial, h.ds, ⟨A, c, b1.ext hb, ho.to hb⟩, h.kb.ext hb⟩
theorem LL.as {w8 W : World} {bx : Nat} {L L' : List Inst} {Ds : List Nat} (h : LL w8 bx L Ds W) (e : L = L') : LL w8 bx L' Ds W := e ▸ h
/-- A loop over the choices of a lemma begins. -/
theorem LL.start {w8 W W1 : World} {bx : Nat} {L : List Inst} {Ds : List Nat} (h : LL w8 bx L Ds W) (hb : Ext W W1) : ∃ A0, LI noT W1 A0 bx w8.heap.size L (fun _ => False) W1 ∧ ∀ g, blockOf A0 = some g → w8.heap.size ≤ g ∧ g < W.heap.size ∧ ¬ (∃ o, W1.heap[g]? = some o ∧ o.isCells = false) := by
  obtain ⟨A, c, b1, ho⟩ := (h.ext hb).own
  obtain ⟨A', c', b1', ho'⟩ := h.own
  have e : A' = A := by
    have := b1'.ext hb
    unfold Blk at this b1
    rw [this] at b1
    injection b1 with b1
    injection b1 with b1
    injection b1 with b1
    injection b1 with b1
    injection b1 with b1
  subst e
  exact ⟨A', ⟨⟨Nat.le_refl _, fun _ h => h.elim⟩, ⟨A', c, b1, ho, fun g hg => ⟨id, id, .inr hg⟩⟩, KB.refl _ _⟩, fun g hg => ⟨(ho'.lt g hg).1, (ho'.lt g hg).2, fun ⟨o, h1, h2⟩ => ho.not_at h1 h2 hg⟩⟩
/-- It ends. -/
theorem LI.end_ {w8 W W1 V : World} {bx : Nat} {L L' : List Inst} {Ds : List Nat} {A0 : Option Addr} {T : TSet} {D : Nat} (h : LL w8 bx L Ds W) (hb : Ext W W1) (hbx : bx < w8.heap.size) (hA : ∀ g, blockOf A0 = some g → w8.heap.size ≤ g ∧ g < W.heap.size ∧ ¬ (∃ o, W1.heap[g]? = some o ∧ o.isCells = false))
    (hi : LI noT W1 A0 bx w8.heap.size L' T V) (hD : W1.heap.size ≤ D) (hK : V.heap[D]? = some (.deferred (some []))) : LL w8 bx L' (D :: Ds) V := by
  have h1 := h.ext hb
  have z : w8.heap.size ≤ W1.heap.size := h1.kb.size
  have hDs : ∀ E ∈ Ds, E < W1.heap.size := fun E hE => (Array.getElem?_eq_some_iff.1 (h1.marked.2 E hE)).1
  obtain ⟨A, c, b1, ho, -⟩ := hi.leave
  refine ⟨⟨List.nodup_cons.2 ⟨fun hm => by have := hDs D hm; omega, h.marked.1⟩, fun E hE => ?_⟩, fun E hE => ?_, ⟨A, c, b1, ho⟩, h1.kb.seq hi.kb fun i hi h => ⟨by omega, h.2, fun e => ?_⟩⟩
  · rcases List.mem_cons.1 hE with rfl | hE
    · exact hK
    · refine (hi.kb.block E (hDs E hE) ⟨hDs E hE, fun e => by have := h.ds E hE; omega, fun e => ?_⟩).trans (h1.marked.2 E hE)
      exact (hA E e).2.2 ⟨_, h1.marked.2 E hE, rfl⟩
  · rcases List.mem_cons.1 hE with rfl | hE
    · omega
    · exact h.ds E hE
  · have := (hA i e).1; omega
/-- An inner loop begins. -/
theorem LI.inner {W0 V V2 : World} {A0 : Option Addr} {bx base : Nat} {L : List Inst} {T : TSet} (h : LI noT W0 A0 bx base L T V) (hb : Ext V V2) : ∃ A1, LI T V2 A1 bx base L (fun _ => False) V2 ∧ ∀ g, blockOf A1 = some g → ¬ T g ∧ (W0.heap.size ≤ g ∨ blockOf A0 = some g) ∧ base ≤ g ∧ g < V.heap.size ∧ ∀ t cs r, V2.heap[g]? = some (.cells cs t r) → t = 32 := by
  obtain ⟨A, c, b1, ho, hA⟩ := h.own
  refine ⟨A, ⟨⟨Nat.le_refl _, fun _ h => h.elim⟩, ⟨A, c, b1.ext hb, ?_, fun g hg => ⟨(hA g hg).2.1, id, .inr hg⟩⟩, KB.refl _ _⟩, fun g hg => ⟨(hA g hg).2.1, (hA g hg).2.2, (ho.lt g hg).1, (ho.lt g hg).2, fun t cs r hc => ?_⟩⟩
  · obtain ⟨hn, vss, h1, h2⟩ := ho.to hb
    exact ⟨hn, vss, h1.to (KB.refl _ _) fun k _ hk => hk.imp (fun h => h.elim (fun h => .inr (.inl h)) fun h => h.elim (fun h => h.elim) fun h => .inr (.inr h)) id, h2⟩
  · obtain ⟨hn, vss, h1, h2⟩ := ho.to hb
    rcases h2.2 with ⟨e, h0⟩ | ⟨g', cap, cur, e, hb', hg', -, -, -, -⟩
    · injection e with e1; subst e1; cases hg
    · injection e with e1 e2 e3; subst e1
      injection hg with hg
      dsimp only at hg
      subst hg
      rw [hc] at hg'
      injection hg' with h3
      injection h3
/-- An inner loop ends. -/
theorem LI.outer {W0 V V2 U : World} {A0 A1 : Option Addr} {bx base : Nat} {L L' : List Inst} {T T2 : TSet} (h : LI noT W0 A0 bx base L T V) (hb : Ext V V2) (hbx : bx < W0.heap.size) (hA1 : ∀ g, blockOf A1 = some g → ¬ T g ∧ (W0.heap.size ≤ g ∨ blockOf A0 = some g))
    (h2 : LI T V2 A1 bx base L' T2 U) : KB (fun k => Kx W0 bx A0 k ∨ T k) V U ∧ LI noT W0 A0 bx base L' T U := by
  have t2 := h.tb.2
  have z := hb.size
  have kk : KB (fun k => Kx W0 bx A0 k ∨ T k) V U := (KB.of_ext hb).seq h2.kb fun i hi hk => by
    refine ⟨by omega, ?_, fun e => ?_⟩
    · rcases hk with hk | hk
      · exact hk.2.1
      · have := t2 i hk; omega
    · rcases hk with ⟨k1, k2, k3⟩ | hk
      · rcases (hA1 i e).2 with h | h
        · omega
        · exact k3 h
      · exact (hA1 i e).1 hk
  have z2 := kk.size
  refine ⟨kk, ⟨⟨Nat.le_trans h.tb.1 z2, fun k hk => by have := t2 k hk; omega⟩, ?_, h.kb.tr (kk.mono fun _ _ h => .inl h)⟩⟩
  obtain ⟨A, c, b1, ho, hA⟩ := h2.leave
  refine ⟨A, c, b1, ?_, fun g hg => ⟨id, (hA g hg).1, ?_⟩⟩
  · obtain ⟨hn, vss, h1, h3⟩ := ho
    exact ⟨hn, vss, h1.to (KB.refl _ _) fun k _ hk => hk.imp (fun h => h.elim (fun h => h.elim) fun h => h.elim (fun h => .inl h) fun h => .inr (.inr h)) id, h3⟩
  · rcases (hA g hg).2 with h4 | h4
    · left; have := h.tb.1; omega
    · exact (hA1 g h4).2
theorem RuleBox.kb {K : Nat → Prop} {W V : World} {g : Nat} {x : Rule} {p : RPtr} (h : RuleBox W g x p) (hk : KB K W V) (hg : K g) : RuleBox V g x p := by
  obtain ⟨h0, h1, h2, h3, h4, h5, h6, h7⟩ := h
  exact ⟨hk.cell (p := ⟨g, 0, none⟩) hg h0, hk.cell (p := ⟨g, 1, none⟩) hg h1, hk.cell (p := ⟨g, 2, none⟩) hg h2, hk.cell (p := ⟨g, 3, none⟩) hg h3, hk.cell (p := ⟨g, 4, none⟩) hg h4, hk.cell (p := ⟨g, 5, none⟩) hg h5, hk.cell (p := ⟨g, 6, none⟩) hg h6, hk.cell (p := ⟨g, 7, none⟩) hg h7⟩
/-- Each cell that was there holds what it held. -/
structure CK (W W' : World) : Prop where
  size : W.heap.size ≤ W'.heap.size
  cell : ∀ p v, W.cell? p = some v → W'.cell? p = some v
theorem CK.marks {Ds : List Nat} {W W' : World} (hm : Marked Ds W) (hk : KB (fun k => k ∉ Ds) W W') : CK W W' :=
  ⟨hk.size, fun p v hc => hk.cell (fun hD => by
    have := hm.2 _ hD
    simp [World.cell?, this] at hc) hc⟩
theorem RSl.ck {α : Type} {sz : Nat} {R : World → List Value → α → Prop} {W W' : World} {A : Option Addr} {l : List α} (hR : ∀ vs x, R W vs x → R W' vs x) (h : RSl sz R W A l) (hk : CK W W') : RSl sz R W' A l := by
  refine ⟨h.1, fun hp => ?_⟩
  obtain ⟨ad, e, hlt, hc⟩ := h.2 hp
  refine ⟨ad, e, Nat.lt_of_lt_of_le hlt hk.size, fun i hi => ?_⟩
  obtain ⟨vs, h1, h2, h3⟩ := hc i hi
  exact ⟨vs, h1, hR _ _ h2, fun j hj => hk.cell _ _ (h3 j hj)⟩
theorem RInsts.ck {W W' : World} {A : Option Addr} {l : List Inst} (h : RInsts W A l) (hk : CK W W') : RInsts W' A l :=
  RSl.ck (fun _ _ ⟨p, e, h⟩ => ⟨p, e, RSl.ck (R := RInt) (W := W) (fun _ _ h => h) h.cells hk, RSl.ck (R := RInt) (W := W) (fun _ _ h => h) h.symbols hk, h.rule, h.capc, h.caps⟩) h hk
theorem Blk.same {W : World} {b : Nat} {t : TypeId} {v : Value} (h : Blk W b t #[v]) : Ext W (W.setCell ⟨b, 0, none⟩ v) :=
  ⟨rfl, rfl, rfl, by rw [World.size_setCell]; exact Nat.le_refl _, fun k hk => by
    by_cases e : k = b
    · subst e
      have h2 := h.set 0 v
      have e2 : (#[v] : Array Value).setIfInBounds 0 v = #[v] := by simp
      rw [e2] at h2
      exact Eq.trans h2 h.symm
    · exact Below.heap_setCell W ⟨b, 0, none⟩ v k e⟩
theorem shr_zero {x s : Int} (hs : 0 ≤ s) (hs2 : s < 64) : (bits .and .i64 (x / 2 ^ s.toNat) 1 == 0) = !(hasS x s.toNat) := by
  rw [bits_shift_one _ _ (by omega)]
  cases hasS x s.toNat <;> rfl
theorem LI.ext {Told : TSet} {W0 : World} {A0 : Option Addr} {bx base : Nat} {L : List Inst} {T : TSet} {W W' : World} (h : LI Told W0 A0 bx base L T W) (hbx : bx < W0.heap.size) (hbase : bx < base) (hb : Ext W W') : LI Told W0 A0 bx base L T W' :=
  (LI.stays (fun _ : Unit => L) hbx hbase).ext (s := ()) h hb
theorem takeB_bit {q : Problem} {pos : List Int} {x : Rule} {cells symbols : List Int} (h : hasS (num pos (num cells x.cell.toNat).toNat) (num symbols x.letter.toNat).toNat = false) : takeB q pos x cells symbols = false := by unfold takeB; rw [h]; rfl
theorem takeB_prem {q : Problem} {pos : List Int} {x : Rule} {cells symbols : List Int} (h : x.premises.all (premB1 pos cells symbols) = false) : takeB q pos x cells symbols = false := by unfold takeB; rw [h]; simp
theorem takeB_cond {q : Problem} {pos : List Int} {x : Rule} {cells symbols : List Int} (h : x.conds.any (lackB q pos cells symbols) = true) : takeB q pos x cells symbols = false := by unfold takeB; rw [h]; simp
theorem takeB_yes {q : Problem} {pos : List Int} {x : Rule} {cells symbols : List Int} (h1 : hasS (num pos (num cells x.cell.toNat).toNat) (num symbols x.letter.toNat).toNat = true) (h2 : x.premises.all (premB1 pos cells symbols) = true) (h3 : x.conds.any (lackB q pos cells symbols) = false) : takeB q pos x cells symbols = true := by unfold takeB; rw [h1, h2, h3]; rfl
theorem cell_lt {W : World} {p : Addr} {v : Value} (h : W.cell? p = some v) : p.block < W.heap.size := by
  by_cases hl : p.block < W.heap.size
  · exact hl
  · have : W.heap[p.block]? = none := Array.getElem?_eq_none (by omega)
    simp [World.cell?, this] at h
/-! ### The frames of List's loops: their open slots are told by a function. -/
def FrLoop (w w7 : World) (level : Int) (A : Option Addr) (a n k : Nat) (Ds : List Nat) (act : Act) : Prop := ∃ u : Nat → Value, act = { tmps := #[u 0, u 1, u 2, .int .i64 level, .pointer (some ⟨w.heap.size, 0, none⟩), .pointer (some ⟨w.heap.size + 1, 0, none⟩), .pointer (some ⟨w.heap.size + 1 + 1, 0, none⟩), u 7, .pointer (some ⟨w.heap.size + 1 + 1 + 1, 0, none⟩), u 9, u 10, .pointer (some ⟨w7.heap.size, 0, none⟩), u 12, u 13, u 14, u 15, u 16, u 17, u 18, u 19, u 20, u 21, u 22, u 23, u 24, u 25, u 26, u 27, u 28, u 29, .slice A n a, .int .i64 n, .int .i64 k, u 33, u 34, u 35, u 36, u 37, u 38, u 39, u 40, u 41, u 42, u 43, u 44, u 45, u 46, u 47, u 48, u 49, u 50, u 51, u 52, u 53, u 54, u 55, u 56, u 57, u 58, u 59, u 60, u 61, u 62, u 63, u 64, u 65, u 66, u 67, u 68, u 69, u 70, u 71, u 72, u 73, u 74, u 75, u 76, u 77, u 78, u 79, u 80, u 81, u 82, u 83, u 84, u 85, u 86, u 87, u 88, u 89, u 90, u 91, u 92, u 93, u 94], defers := marks Ds }
theorem FrLoop.mk {w w7 : World} {level : Int} {A : Option Addr} {a n k : Nat} {Ds : List Nat} (t : Array Value) (h : t = #[t.getD 0 undef, t.getD 1 undef, t.getD 2 undef, .int .i64 level, .pointer (some ⟨w.heap.size, 0, none⟩), .pointer (some ⟨w.heap.size + 1, 0, none⟩), .pointer (some ⟨w.heap.size + 1 + 1, 0, none⟩), t.getD 7 undef, .pointer (some ⟨w.heap.size + 1 + 1 + 1, 0, none⟩), t.getD 9 undef, t.getD 10 undef, .pointer (some ⟨w7.heap.size, 0, none⟩), t.getD 12 undef, t.getD 13 undef, t.getD 14 undef, t.getD 15 undef, t.getD 16 undef, t.getD 17 undef, t.getD 18 undef, t.getD 19 undef, t.getD 20 undef, t.getD 21 undef, t.getD 22 undef, t.getD 23 undef, t.getD 24 undef, t.getD 25 undef, t.getD 26 undef, t.getD 27 undef, t.getD 28 undef, t.getD 29 undef, .slice A n a, .int .i64 n, .int .i64 k, t.getD 33 undef, t.getD 34 undef, t.getD 35 undef, t.getD 36 undef, t.getD 37 undef, t.getD 38 undef, t.getD 39 undef, t.getD 40 undef, t.getD 41 undef, t.getD 42 undef, t.getD 43 undef, t.getD 44 undef, t.getD 45 undef, t.getD 46 undef, t.getD 47 undef, t.getD 48 undef, t.getD 49 undef, t.getD 50 undef, t.getD 51 undef, t.getD 52 undef, t.getD 53 undef, t.getD 54 undef, t.getD 55 undef, t.getD 56 undef, t.getD 57 undef, t.getD 58 undef, t.getD 59 undef, t.getD 60 undef, t.getD 61 undef, t.getD 62 undef, t.getD 63 undef, t.getD 64 undef, t.getD 65 undef, t.getD 66 undef, t.getD 67 undef, t.getD 68 undef, t.getD 69 undef, t.getD 70 undef, t.getD 71 undef, t.getD 72 undef, t.getD 73 undef, t.getD 74 undef, t.getD 75 undef, t.getD 76 undef, t.getD 77 undef, t.getD 78 undef, t.getD 79 undef, t.getD 80 undef, t.getD 81 undef, t.getD 82 undef, t.getD 83 undef, t.getD 84 undef, t.getD 85 undef, t.getD 86 undef, t.getD 87 undef, t.getD 88 undef, t.getD 89 undef, t.getD 90 undef, t.getD 91 undef, t.getD 92 undef, t.getD 93 undef, t.getD 94 undef]) : FrLoop w w7 level A a n k Ds { tmps := t, defers := marks Ds } := ⟨fun i => t.getD i undef, by rw [← h]⟩
def FrOut (w w7 W : World) (b15 : Nat) (act : Act) : Prop := ∃ v : Nat → Value, act = { tmps := #[v 0, v 1, v 2, v 3, .pointer (some ⟨w.heap.size, 0, none⟩), v 5, .pointer (some ⟨w.heap.size + 1 + 1, 0, none⟩), v 7, .pointer (some ⟨w.heap.size + 1 + 1 + 1, 0, none⟩), v 9, v 10, .pointer (some ⟨w7.heap.size, 0, none⟩), .pointer (some ⟨W.heap.size, 0, none⟩), .pointer (some ⟨W.heap.size + 1, 0, none⟩), v 14, .pointer (some ⟨b15, 0, none⟩), v 16, v 17, v 18, v 19, v 20, v 21, v 22, v 23, v 24, v 25, v 26, v 27, v 28, v 29, v 30, v 31, v 32, v 33, v 34, v 35, v 36, v 37, v 38, v 39, v 40, v 41, v 42, v 43, v 44, v 45, v 46, v 47, v 48, v 49, v 50, v 51, v 52, v 53, v 54, v 55, v 56, v 57, v 58, v 59, v 60, v 61, v 62, v 63, v 64, v 65, v 66, v 67, v 68, v 69, v 70, v 71, v 72, v 73, v 74, v 75, v 76, v 77, v 78, v 79, v 80, v 81, v 82, v 83, v 84, v 85, v 86, v 87, v 88, v 89, v 90, v 91, v 92, v 93, v 94], defers := [] }
theorem FrOut.mk {w w7 W : World} {b15 : Nat} (t : Array Value) (h : t = #[t.getD 0 undef, t.getD 1 undef, t.getD 2 undef, t.getD 3 undef, .pointer (some ⟨w.heap.size, 0, none⟩), t.getD 5 undef, .pointer (some ⟨w.heap.size + 1 + 1, 0, none⟩), t.getD 7 undef, .pointer (some ⟨w.heap.size + 1 + 1 + 1, 0, none⟩), t.getD 9 undef, t.getD 10 undef, .pointer (some ⟨w7.heap.size, 0, none⟩), .pointer (some ⟨W.heap.size, 0, none⟩), .pointer (some ⟨W.heap.size + 1, 0, none⟩), t.getD 14 undef, .pointer (some ⟨b15, 0, none⟩), t.getD 16 undef, t.getD 17 undef, t.getD 18 undef, t.getD 19 undef, t.getD 20 undef, t.getD 21 undef, t.getD 22 undef, t.getD 23 undef, t.getD 24 undef, t.getD 25 undef, t.getD 26 undef, t.getD 27 undef, t.getD 28 undef, t.getD 29 undef, t.getD 30 undef, t.getD 31 undef, t.getD 32 undef, t.getD 33 undef, t.getD 34 undef, t.getD 35 undef, t.getD 36 undef, t.getD 37 undef, t.getD 38 undef, t.getD 39 undef, t.getD 40 undef, t.getD 41 undef, t.getD 42 undef, t.getD 43 undef, t.getD 44 undef, t.getD 45 undef, t.getD 46 undef, t.getD 47 undef, t.getD 48 undef, t.getD 49 undef, t.getD 50 undef, t.getD 51 undef, t.getD 52 undef, t.getD 53 undef, t.getD 54 undef, t.getD 55 undef, t.getD 56 undef, t.getD 57 undef, t.getD 58 undef, t.getD 59 undef, t.getD 60 undef, t.getD 61 undef, t.getD 62 undef, t.getD 63 undef, t.getD 64 undef, t.getD 65 undef, t.getD 66 undef, t.getD 67 undef, t.getD 68 undef, t.getD 69 undef, t.getD 70 undef, t.getD 71 undef, t.getD 72 undef, t.getD 73 undef, t.getD 74 undef, t.getD 75 undef, t.getD 76 undef, t.getD 77 undef, t.getD 78 undef, t.getD 79 undef, t.getD 80 undef, t.getD 81 undef, t.getD 82 undef, t.getD 83 undef, t.getD 84 undef, t.getD 85 undef, t.getD 86 undef, t.getD 87 undef, t.getD 88 undef, t.getD 89 undef, t.getD 90 undef, t.getD 91 undef, t.getD 92 undef, t.getD 93 undef, t.getD 94 undef]) : FrOut w w7 W b15 { tmps := t, defers := [] } := ⟨fun i => t.getD i undef, by rw [← h]⟩
def FrIn (w w7 W : World) (b15 b16 : Nat) (act : Act) : Prop := ∃ s : Nat → Value, act = { tmps := #[s 0, s 1, s 2, s 3, .pointer (some ⟨w.heap.size, 0, none⟩), s 5, .pointer (some ⟨w.heap.size + 1 + 1, 0, none⟩), s 7, .pointer (some ⟨w.heap.size + 1 + 1 + 1, 0, none⟩), s 9, s 10, .pointer (some ⟨w7.heap.size, 0, none⟩), .pointer (some ⟨W.heap.size, 0, none⟩), .pointer (some ⟨W.heap.size + 1, 0, none⟩), s 14, .pointer (some ⟨b15, 0, none⟩), .pointer (some ⟨b16, 0, none⟩), s 17, s 18, s 19, s 20, s 21, s 22, s 23, s 24, s 25, s 26, s 27, s 28, s 29, s 30, s 31, s 32, s 33, s 34, s 35, s 36, s 37, s 38, s 39, s 40, s 41, s 42, s 43, s 44, s 45, s 46, s 47, s 48, s 49, s 50, s 51, s 52, s 53, s 54, s 55, s 56, s 57, s 58, s 59, s 60, s 61, s 62, s 63, s 64, s 65, s 66, s 67, s 68, s 69, s 70, s 71, s 72, s 73, s 74, s 75, s 76, s 77, s 78, s 79, s 80, s 81, s 82, s 83, s 84, s 85, s 86, s 87, s 88, s 89, s 90, s 91, s 92, s 93, s 94], defers := [] }
theorem FrIn.mk {w w7 W : World} {b15 b16 : Nat} (t : Array Value) (h : t = #[t.getD 0 undef, t.getD 1 undef, t.getD 2 undef, t.getD 3 undef, .pointer (some ⟨w.heap.size, 0, none⟩), t.getD 5 undef, .pointer (some ⟨w.heap.size + 1 + 1, 0, none⟩), t.getD 7 undef, .pointer (some ⟨w.heap.size + 1 + 1 + 1, 0, none⟩), t.getD 9 undef, t.getD 10 undef, .pointer (some ⟨w7.heap.size, 0, none⟩), .pointer (some ⟨W.heap.size, 0, none⟩), .pointer (some ⟨W.heap.size + 1, 0, none⟩), t.getD 14 undef, .pointer (some ⟨b15, 0, none⟩), .pointer (some ⟨b16, 0, none⟩), t.getD 17 undef, t.getD 18 undef, t.getD 19 undef, t.getD 20 undef, t.getD 21 undef, t.getD 22 undef, t.getD 23 undef, t.getD 24 undef, t.getD 25 undef, t.getD 26 undef, t.getD 27 undef, t.getD 28 undef, t.getD 29 undef, t.getD 30 undef, t.getD 31 undef, t.getD 32 undef, t.getD 33 undef, t.getD 34 undef, t.getD 35 undef, t.getD 36 undef, t.getD 37 undef, t.getD 38 undef, t.getD 39 undef, t.getD 40 undef, t.getD 41 undef, t.getD 42 undef, t.getD 43 undef, t.getD 44 undef, t.getD 45 undef, t.getD 46 undef, t.getD 47 undef, t.getD 48 undef, t.getD 49 undef, t.getD 50 undef, t.getD 51 undef, t.getD 52 undef, t.getD 53 undef, t.getD 54 undef, t.getD 55 undef, t.getD 56 undef, t.getD 57 undef, t.getD 58 undef, t.getD 59 undef, t.getD 60 undef, t.getD 61 undef, t.getD 62 undef, t.getD 63 undef, t.getD 64 undef, t.getD 65 undef, t.getD 66 undef, t.getD 67 undef, t.getD 68 undef, t.getD 69 undef, t.getD 70 undef, t.getD 71 undef, t.getD 72 undef, t.getD 73 undef, t.getD 74 undef, t.getD 75 undef, t.getD 76 undef, t.getD 77 undef, t.getD 78 undef, t.getD 79 undef, t.getD 80 undef, t.getD 81 undef, t.getD 82 undef, t.getD 83 undef, t.getD 84 undef, t.getD 85 undef, t.getD 86 undef, t.getD 87 undef, t.getD 88 undef, t.getD 89 undef, t.getD 90 undef, t.getD 91 undef, t.getD 92 undef, t.getD 93 undef, t.getD 94 undef]) : FrIn w w7 W b15 b16 { tmps := t, defers := [] } := ⟨fun i => t.getD i undef, by rw [← h]⟩
set_option maxHeartbeats 8000000 in
set_option maxRecDepth 100000 in
theorem mList_ok (w : World) (q : Problem) (p : PPtr) (l : List Rule) (A : Option Addr) (a : Nat) (B : Option Addr) (bn bc : Nat) (P : Option Addr) (pn : Nat) (pos : List Int) (level : Int) (hq : RProb w q p) (hl : RRules w A l) (hP : RInts w P pos) (hlev : I64 level)
    (hN : (listTo q pos l level l.length).length ≤ 100000000) :
    Calls Tryz.prog 15 #[probV q p, libW l A a B bn bc, .slice P pos.length pn, .int .i64 level] w (RetList w (listR q l pos level)) := by
  obtain ⟨pa, pac, pb, pbc, pc, pcc⟩ := p
  obtain ⟨w4, hw4⟩ : ∃ w4, (((w.alloc (probO q ⟨pa, pac, pb, pbc, pc, pcc⟩)).alloc (libO l A a B bn bc)).alloc (.cells #[.slice P pos.length pn] 22)).alloc (.cells #[.slice none 0 0] 59) = w4 := ⟨_, rfl⟩
  have x4 : Ext w w4 := by rw [← hw4]; exact ((((Ext.rfl' w).al _).al _).al _).al _
  have z4 : w4.heap.size = w.heap.size + 4 := by rw [← hw4]; simp
  have F : ∀ V, KB (fun b => b < w4.heap.size ∧ b ≠ w.heap.size + 3) w4 V → ListBox V w.heap.size q ⟨pa, pac, pb, pbc, pc, pcc⟩ l.length A a B bn bc P pn pos.length := fun V hV => by
    have e1 := World.size_alloc w (probO q ⟨pa, pac, pb, pbc, pc, pcc⟩)
    have e2 := World.size_alloc (w.alloc (probO q ⟨pa, pac, pb, pbc, pc, pcc⟩)) (libO l A a B bn bc)
    rw [e1] at e2
    have y3 := (Ext.rfl' (((w.alloc (probO q ⟨pa, pac, pb, pbc, pc, pcc⟩)).alloc (libO l A a B bn bc)).alloc (.cells #[.slice P pos.length pn] 22))).al (.cells #[.slice none 0 0] 59)
    have y2 := ((Ext.rfl' ((w.alloc (probO q ⟨pa, pac, pb, pbc, pc, pcc⟩)).alloc (libO l A a B bn bc))).al (.cells #[.slice P pos.length pn] 22)).tr y3
    have y1 := ((Ext.rfl' (w.alloc (probO q ⟨pa, pac, pb, pbc, pc, pcc⟩))).al (libO l A a B bn bc)).tr y2
    rw [hw4] at y1 y2 y3
    have k : ∀ g i v, g < w.heap.size + 3 → w4.cell? ⟨g, i, none⟩ = some v → V.cell? ⟨g, i, none⟩ = some v := fun g i v hg h => hV.cell (p := ⟨g, i, none⟩) ⟨by show g < _; omega, by show g ≠ _; omega⟩ h
    exact ⟨⟨k _ _ _ (by omega) (boxE y1 rfl 0 _ rfl), k _ _ _ (by omega) (boxE y1 rfl 1 _ rfl), k _ _ _ (by omega) (boxE y1 rfl 2 _ rfl), k _ _ _ (by omega) (boxE y1 rfl 3 _ rfl), k _ _ _ (by omega) (boxE y1 rfl 4 _ rfl)⟩, k _ _ _ (by omega) (boxE y2 e1 0 _ rfl), k _ _ _ (by omega) (boxE y2 e1 1 _ rfl), k _ _ _ (by omega) (boxE y3 e2 0 _ rfl)⟩
  have HF := hid F; clear F
  have b3 : Blk w4 (w.heap.size + 1 + 1 + 1) 59 #[.slice none 0 0] := by
    have := Blk.new (((w.alloc (probO q ⟨pa, pac, pb, pbc, pc, pcc⟩)).alloc (libO l A a B bn bc)).alloc (.cells #[.slice P pos.length pn] 22)) 59 #[.slice none 0 0]
    rw [hw4] at this
    simpa using this
  have hll := hl.len
  have Hlev := hid hlev; clear hlev
  have HN := hid hN; clear hN
  have chk := mcheck_ok w4 q ⟨pa, pac, pb, pbc, pc, pcc⟩ l A a B bn bc P pn pos (hq.to x4) (hl.to x4) (hP.to x4)
  have Hchk := hid chk; clear chk
  have K4 : ∀ V, Ext w4 V → KB (fun b => b < w4.heap.size ∧ b ≠ w.heap.size + 3) w4 V := fun V hV => KB.of_ext hV
  have HK4 := hid K4; clear K4
  have Hb3 := hid b3; clear b3
  obtain ⟨⟨f0, f1, f2, f3, f4⟩, f5, f6, f7⟩ := HF.out w4 (KB.refl _ _)
  dsimp only at f2 f3 f4
  refine (callsIn_wide (n := 1)).1 (callsIn_of_wp_marks Tryz.func15 rfl trivial (wpIn_wide.2 ?_) rfl)
  simp only [Tryz.ntmps15, List.size_toArray, List.length_cons, List.length_nil, Nat.reduceAdd, Nat.reduceSub, Array.replicate_succ, Array.replicate_zero, List.push_toArray, List.append_toArray, List.nil_append, List.cons_append]
  cases hlib : libB q l pos
  · have hne := libE_no hlib
    have Hr := hid (listR_lib (level := level) hlib); clear hlib
    go_upto_region 3 with (go_at_call 22; refine Hchk.out.mono ?_; rintro e w5 ⟨rfl, hx5⟩; clear f0 f1 f2 f3 f4 f5 f6 f7)
    have b5 := Hb3.out.ext hx5
    have c5 := b5.cell 0
    have d5 := b5.frozen 0
    simp only [List.getElem?_toArray, List.getElem?_cons_zero] at c5
    go_wp2_with fail
    have b6 := b5.set 0 (.slice none 0 0)
    refine leaves_marks [] _ ⟨List.nodup_nil, by simp⟩ fun W' hk => ⟨.tuple #[.slice none 0 0, .int .i64 (libE q l pos)], ?_, none, 0, ?_, ?_, ?_, ?_⟩
    · have h1 := (b6.kb hk (by simp)).cell 0
      simp [results, Tryz.f15, go_sem, h1]
    · rw [Hr.out]; rfl
    · rw [Hr.out]; exact RInsts.nil _ _
    · rw [Hr.out]; exact Nat.le_refl _
    · exact ((x4.tr hx5).set (p := ⟨w.heap.size + 1 + 1 + 1, 0, none⟩) (by show _ ≤ w.heap.size + 1 + 1 + 1; omega) _).trans (hk.below (B := w.heap.size) (by have := (x4.tr hx5).size; rw [World.size_setCell]; omega) (by simp))
  have hne : (libE q l pos != 0) = false := by rw [libE_ok hlib]; rfl
  have Hlib := hid hlib; clear hlib
  cases hd : deadB pos
  rotate_left
  · have Hr := hid (listR_dead (level := level) Hlib.out hd)
    go_upto_region 5 with (first
      | (go_at_call 22; refine Hchk.out.mono ?_; rintro e w5 ⟨rfl, hx5⟩; clear f0 f1 f2 f3 f4 f5 f6 f7; obtain ⟨⟨f0, f1, f2, f3, f4⟩, f5, f6, f7⟩ := HF.out w5 (HK4.out w5 hx5); dsimp only at f2 f3 f4)
      | (go_at_call 24; refine (pDead_x _ P pn pos (hP.to (x4.tr hx5)) true hd).mono ?_; rintro e w6 ⟨rfl, hx6⟩; clear f0 f1 f2 f3 f4 f5 f6 f7))
    have b5 := Hb3.out.ext (hx5.tr hx6)
    have c5 := b5.cell 0
    have d5 := b5.frozen 0
    simp only [List.getElem?_toArray, List.getElem?_cons_zero] at c5
    go_wp2_with fail
    have b6 := b5.set 0 (.slice none 0 0)
    refine leaves_marks [] _ ⟨List.nodup_nil, by simp⟩ fun W' hk => ⟨.tuple #[.slice none 0 0, .int .i64 0], ?_, none, 0, ?_, ?_, ?_, ?_⟩
    · have h1 := (b6.kb hk (by simp)).cell 0
      simp [results, Tryz.f15, go_sem, h1]
    · rw [Hr.out]; rfl
    · rw [Hr.out]; exact RInsts.nil _ _
    · rw [Hr.out]; exact Nat.le_refl _
    · exact ((x4.tr (hx5.tr hx6)).set (p := ⟨w.heap.size + 1 + 1 + 1, 0, none⟩) (by show _ ≤ w.heap.size + 1 + 1 + 1; omega) _).trans (hk.below (B := w.heap.size) (by have := (x4.tr (hx5.tr hx6)).size; rw [World.size_setCell]; omega) (by simp))
  have Hr := hid (listR_live (level := level) Hlib.out hd)
  have hpos : checkB q pos = true := by
    have := Hlib.out; simp only [libB, Bool.and_eq_true] at this
    exact this.1.1
  have Hpos := hid hpos; clear hpos
  have hv : validB q = true := by have := Hpos.out; unfold checkB at this; rw [Bool.and_eq_true] at this; exact this.1
  have hmn := fun W hW => mNew_k W q ⟨pa, pac, pb, pbc, pc, pcc⟩ P pn pos (hq.to hW) (hP.to hW) (fun c hc => cons_len hv hc) (valid_cons hv).1
  have Hmn := hid hmn; clear hmn hv
  go_upto_region 7 with (first
    | (go_at_call 22; refine Hchk.out.mono ?_; rintro e w5 ⟨rfl, hx5⟩; clear f0 f1 f2 f3 f4 f5 f6 f7; obtain ⟨⟨f0, f1, f2, f3, f4⟩, f5, f6, f7⟩ := HF.out w5 (HK4.out w5 hx5); dsimp only at f2 f3 f4)
    | (go_at_call 24; refine (pDead_x _ P pn pos (hP.to (x4.tr hx5)) false hd).mono ?_; rintro e w6 ⟨rfl, hx6⟩; clear f0 f1 f2 f3 f4 f5 f6 f7; obtain ⟨⟨f0, f1, f2, f3, f4⟩, f5, f6, f7⟩ := HF.out w6 (HK4.out w6 (hx5.tr hx6)); dsimp only at f2 f3 f4)
    | (go_at_call 25; (with_reducible refine (Hmn.out _ (x4.tr (hx5.tr hx6))).mono ?_); rintro e w7 ⟨gm, mb, rfl, hg1, hg2, hm, hx7⟩; clear f0 f1 f2 f3 f4 f5 f6 f7))
  clear Hmn Hchk
  obtain ⟨w8, hw8⟩ : ∃ w8, w7.alloc (.cells #[.pointer (some ⟨gm, 0, none⟩)] 72) = w8 := ⟨_, rfl⟩
  rw [hw8]
  have x78 : Ext w7 w8 := by rw [← hw8]; exact (Ext.rfl' _).al _
  have bB : Blk w8 w7.heap.size 72 #[.pointer (some ⟨gm, 0, none⟩)] := by rw [← hw8]; exact Blk.new _ _ _
  have z8 : w8.heap.size = w7.heap.size + 1 := by rw [← hw8]; simp
  clear hw8
  have x8 : Ext w4 w8 := (hx5.tr hx6).tr (hx7.tr x78)
  have b8 := Hb3.out.ext x8
  have z47 : w4.heap.size ≤ w6.heap.size := (hx5.tr hx6).size
  have F8 : ∀ W, KB (fun b => b < w8.heap.size ∧ b ≠ w.heap.size + 1 + 1 + 1) w8 W → Ext w W ∧ RMat W q pos gm ⟨⟨pa, pac, pb, pbc, pc, pcc⟩, P, pn, mb⟩ ∧ W.cell? ⟨w7.heap.size, 0, none⟩ = some (.pointer (some ⟨gm, 0, none⟩)) ∧ ListBox W w.heap.size q ⟨pa, pac, pb, pbc, pc, pcc⟩ l.length A a B bn bc P pn pos.length := by
    intro W hW
    have e1 : Ext w W := (x4.tr x8).trans (hW.below (by have := (x4.tr x8).size; omega) fun k hk => ⟨by have := (x4.tr x8).size; omega, by omega⟩)
    have z9 := x78.size
    refine ⟨e1, hm W ((KB.of_ext x78).seq hW fun i hi (h : w6.heap.size ≤ i) => ⟨by omega, by omega⟩) (hq.to e1) (hP.to e1), ?_, HF.out W ((KB.of_ext x8).seq hW fun i hi h => ⟨by have := x8.size; omega, h.2⟩)⟩
    have := hW.cell (p := ⟨w7.heap.size, 0, none⟩) ⟨by show w7.heap.size < w8.heap.size; omega, by show w7.heap.size ≠ _; have := hx7.size; omega⟩ (bB.cell 0)
    simpa using this
  have HF8 := hid F8; clear F8 HF hm HK4
  obtain ⟨-, -, -, ⟨f0, f1, f2, f3, f4⟩, f5, f6, f7⟩ := HF8.out w8 (KB.refl _ _)
  dsimp only at f2 f3 f4
  go_wp2_with fail
  clear f0 f1 f2 f3 f4 f5 f6 f7
  have hbx8 : w.heap.size + 1 + 1 + 1 < w8.heap.size := by have := x8.size; omega
  refine wp_loop (fun act W => ∃ (k : Nat) (Ds : List Nat), k ≤ l.length ∧ FrLoop w w7 level A a l.length k Ds act ∧ LL w8 (w.heap.size + 1 + 1 + 1) (listTo q pos l level k) Ds W)
    (fun act _ => l.length - (intOf (act.tmps.getD 32 undef)).toNat) ?start ?round
  case start =>
    exact ⟨0, [], Nat.zero_le _, FrLoop.mk _ rfl, ⟨List.nodup_nil, by simp⟩, by simp, ⟨none, 0, b8, OwnG.nil _ _ _ _⟩, KB.refl _ _⟩
  case round =>
    clear b8 bB
    rintro a' W ⟨k, Ds, hk, ⟨u, rfl⟩, hLL⟩
    obtain ⟨eW, -, -, ⟨f0, f1, f2, f3, f4⟩, f5, f6, f7⟩ := HF8.out W hLL.kb
    dsimp only at f2 f3 f4
    by_cases hlt : k < l.length
    · obtain ⟨ad, p', rfl, hab, hps, g0, g1, g2, g3, g4, g5, g6, g7⟩ := hl.ruleLoad k hlt
      obtain ⟨g0, g1, g2, g3, g4, g5, g6, g7⟩ := RuleAt.keep eW (by rw [block_of_add]; exact hab) ⟨g0, g1, g2, g3, g4, g5, g6, g7⟩
      go_upto_region 10 with fail
      clear f0 f1 f2 f3 f4 f5 f6 f7 g0 g1 g2 g3 g4 g5 g6 g7
      obtain ⟨Wa, hWa⟩ : ∃ Wa, (W.alloc (.cells #[.int .i64 (k : Int)] 3)).alloc (ruleO l[k] p') = Wa := ⟨_, rfl⟩
      have xa : Ext W Wa := by rw [← hWa]; exact ((Ext.rfl' W).al _).al _
      have za : W.heap.size + 2 ≤ Wa.heap.size ∧ Wa.heap.size ≤ W.heap.size + 2 := by rw [← hWa]; simp
      have bn12 : Blk Wa W.heap.size 3 #[.int .i64 (k : Int)] := by rw [← hWa]; exact (Blk.new _ _ _).ext ((Ext.rfl' _).al _)
      have hrb : RuleBox Wa (W.heap.size + 1) l[k] p' := ruleBox (by rw [hWa]; exact Ext.rfl' _) (by simp)
      rw [hWa]
      clear hWa
      have kWa := hLL.kb.ext xa
      obtain ⟨eWa, -, -, ⟨f0, f1, f2, f3, f4⟩, f5, f6, f7⟩ := HF8.out Wa kWa
      dsimp only at f2 f3 f4
      obtain ⟨g0, g1, g2, g3, g4, g5, g6, g7⟩ := id hrb
      have Hrb := hid hrb; clear hrb
      have zW : w8.heap.size ≤ W.heap.size := hLL.kb.size
      have hvr : validR l[k] = true := by
        have := Hlib.out; simp only [libB, Bool.and_eq_true] at this
        exact List.all_eq_true.1 this.2 _ (List.getElem_mem hlt)
      obtain ⟨v1, v2, ⟨v3, v4⟩, ⟨v5, v6⟩, v7, v8⟩ := valid_pre hvr
      have Hvr := hid hvr; clear hvr
      by_cases hv : level < l[k].level
      · have e1 : listTo q pos l level (k + 1) = listTo q pos l level k := by rw [listTo_succ hlt]; unfold ruleL; rw [if_pos hv, List.append_nil]
        have He1 := hid e1; clear e1
        go_wp2_with fail
        exact ⟨⟨k + 1, Ds, by omega, FrLoop.mk _ rfl, (hLL.ext xa).as He1.out.symm⟩, by simp [intOf]; omega⟩
      go_wp2_with (go_at_call 33; refine (choices_ok _ _ _ _ _).mono ?_; rintro e wb ⟨rfl, rfl⟩)
      clear f0 f1 f2 f3 f4 f5 f6 f7 g0 g1 g2 g3 g4 g5 g6 g7
      obtain ⟨Wb, hWb⟩ : ∃ Wb, ((Wa.alloc (.cells #[.int .i64 q.cells] 3)).alloc (.cells #[.int .i64 (l[k].cells.length : Int)] 3)).alloc (.cells #[.func (.func 31) #[] #[.pointer (some ⟨W.heap.size + 1, 0, none⟩), .pointer (some ⟨w7.heap.size, 0, none⟩)]] 71) = Wb := ⟨_, rfl⟩
      rw [hWb]
      have xb : Ext Wa Wb := by rw [← hWb]; exact (((Ext.rfl' _).al _).al _).al _
      have zb : Wa.heap.size + 3 ≤ Wb.heap.size := by rw [← hWb]; simp
      have cn : Wb.cell? ⟨Wa.heap.size, 0, none⟩ = some (.int .i64 q.cells) := by rw [← hWb]; exact boxE (((Ext.rfl' _).al _).al _) rfl 0 _ rfl
      have ck : Wb.cell? ⟨Wa.heap.size + 1, 0, none⟩ = some (.int .i64 (l[k].cells.length : Int)) := by rw [← hWb]; exact boxE ((Ext.rfl' _).al _) (by simp) 0 _ rfl
      have cm : Wb.cell? ⟨Wa.heap.size + 2, 0, none⟩ = some (.func (.func 31) #[] #[.pointer (some ⟨W.heap.size + 1, 0, none⟩), .pointer (some ⟨w7.heap.size, 0, none⟩)]) := by rw [← hWb]; exact boxE (Ext.rfl' _) (by simp) 0 _ rfl
      clear hWb
      have xab := xa.tr xb
      obtain ⟨A0, hI0, hA0⟩ := hLL.start xab
      have hqb := checkB_bd Hpos.out
      have inK : ∀ g, g < Wb.heap.size → W.heap.size ≤ g → Kx Wb (w.heap.size + 1 + 1 + 1) A0 g := fun g h1 h2 => ⟨h1, by omega, fun e => by have := (hA0 g e).2.1; omega⟩
      have K08 : ∀ V, KB (Kx Wb (w.heap.size + 1 + 1 + 1) A0) Wb V → KB (fun b => b < w8.heap.size ∧ b ≠ w.heap.size + 1 + 1 + 1) w8 V := fun V hV => (hLL.kb.ext xab).seq hV fun i hi h => ⟨by omega, h.2, fun e => by have := (hA0 i e).1; omega⟩
      have HK08 := hid K08; clear K08
      have hmay : ∀ V A' c' l', KB (Kx Wb (w.heap.size + 1 + 1 + 1) A0) Wb V → RInts V A' l' → (∀ v ∈ l', 0 ≤ v ∧ v < q.cells) → l'.length ≤ l[k].cells.length → Calls Tryz.prog 31 (#[.slice A' l'.length c'] ++ #[.pointer (some ⟨W.heap.size + 1, 0, none⟩), .pointer (some ⟨w7.heap.size, 0, none⟩)]) V fun e W' => e = .returned (.bool (mayB q pos l[k] l')) ∧ Ext V W' := by
        intro V A' c' l' hV hl' hr' _
        obtain ⟨eV, mV, cB, -⟩ := HF8.out V (HK08.out V hV)
        obtain ⟨-, -, -, -, g4, -⟩ := (Hrb.out.kb (KB.of_ext (K := fun _ => True) xb) trivial).kb hV (inK (W.heap.size + 1) (by omega) (by omega))
        exact mList1_ok V q pos gm _ mV l[k] p' (hps.to eV) (W.heap.size + 1) w7.heap.size (by have := hV.size; have := x8.size; omega) g4 cB A' c' l' hl' Hpos.out Hvr.out hr'
      have seq := choices1_seq Wb (Kx Wb (w.heap.size + 1 + 1 + 1) A0) (Wa.heap.size + 2) (Wa.heap.size + 1) Wa.heap.size 31 #[.pointer (some ⟨W.heap.size + 1, 0, none⟩), .pointer (some ⟨w7.heap.size, 0, none⟩)] (mayB q pos l[k]) q.cells l[k].cells.length (by omega) (by omega)
        ⟨inK _ (by omega) (by omega), inK _ (by omega) (by omega), inK _ (by omega) (by omega)⟩ (fun _ h => h.1) cm ck cn (fun _ _ => by kernel_rfl) hmay
      have Hinl := hid inK
      clear hmay cm ck cn inK
      refine wp_rangeSeq seq rfl (fun _ _ => by kernel_rfl) (Ext.rfl' _) (fun _ h => h.1) (fun _ => rfl) (fun _ _ _ _ _ hl h hk => RvL.off hl h hk)
        (fun pre T V => LI noT Wb A0 (w.heap.size + 1 + 1 + 1) w8.heap.size (listTo q pos l level k ++ outL q pos l[k] k (pre.map (·.1))) T V) (fun _ _ _ _ => False) (LI.stays (fun pre : List LA => listTo q pos l level k ++ outL q pos l[k] k (pre.map (·.1))) (by omega) hbx8) (fun _ _ _ _ _ _ h _ _ _ => h)
        (by rw [show outL q pos l[k] k (([] : List LA).map (·.1)) = [] from rfl, List.append_nil]; exact hI0)
        (AxB Wb.heap.size (fun b => FrOut w w7 W b)) (AxB.stays _ _) ?assign (fun _ _ _ _ _ h _ _ hl hD => RvL.loop h hl (.inl hD)) ?body ?done ?stop
      case assign =>
        intro lo pre x T V K hi hr hK
        have hn : ¬ T V.heap.size := fun h => by have := (hi.tb.2 _ h).2; omega
        have hz := hi.tb.1
        clear seq
        gi_wp2
        exact hK _ _ ((Ext.rfl' _).al _) (hr.ext ((Ext.rfl' _).al _)) ⟨V.heap.size, FrOut.mk _ rfl, Blk.new _ _ _, hn, hz, by simp⟩
      case body =>
        rintro lo pre x a' T V hlo hT hi ⟨b15, ⟨v, rfl⟩, hb15, hn15, hs15, hl15⟩ hrv hsp
        clear seq
        obtain ⟨eV, mV, cB, ⟨f0, f1, f2, f3, f4⟩, f5, f6, f7⟩ := HF8.out V (HK08.out V hi.kb)
        dsimp only at f2 f3 f4
        have hrbV := (Hrb.out.kb (KB.of_ext (K := fun _ => True) xb) trivial).kb hi.kb (Hinl.out (W.heap.size + 1) (by omega) (by omega))
        obtain ⟨g0, g1, g2, g3, g4, g5, g6, g7⟩ := id hrbV
        have HrbV := hid hrbV; clear hrbV
        gi_wp2
        refine ⟨trivial, rfl, (CallsIn.inRound lo (callsIn_wide.2 (choices_ok V q.symbols (l[k].letters.length : Int) 34 #[]))).mono ?_⟩
        rintro e wc ⟨rfl, rfl⟩
        clear f0 f1 f2 f3 f4 f5 f6 f7 g0 g1 g2 g3 g4 g5 g6 g7
        gi_wp2
        obtain ⟨V2, hV2⟩ : ∃ V2, ((V.alloc (.cells #[.int .i64 q.symbols] 3)).alloc (.cells #[.int .i64 (l[k].letters.length : Int)] 3)).alloc (.cells #[.func (.func 34) #[] #[]] 71) = V2 := ⟨_, rfl⟩
        rw [hV2]
        have xv : Ext V V2 := by rw [← hV2]; exact (((Ext.rfl' _).al _).al _).al _
        have zv : V.heap.size + 3 ≤ V2.heap.size := by rw [← hV2]; simp
        have cn : V2.cell? ⟨V.heap.size, 0, none⟩ = some (.int .i64 q.symbols) := by rw [← hV2]; exact boxE (((Ext.rfl' _).al _).al _) rfl 0 _ rfl
        have ck : V2.cell? ⟨V.heap.size + 1, 0, none⟩ = some (.int .i64 (l[k].letters.length : Int)) := by rw [← hV2]; exact boxE ((Ext.rfl' _).al _) (by simp) 0 _ rfl
        have cm : V2.cell? ⟨V.heap.size + 2, 0, none⟩ = some (.func (.func 34) #[] #[]) := by rw [← hV2]; exact boxE (Ext.rfl' _) (by simp) 0 _ rfl
        clear hV2
        obtain ⟨A1, hI2, hA1⟩ := hi.inner xv
        have hzV := hi.tb.1
        have inK2 : ∀ g, g < V2.heap.size → V.heap.size ≤ g → Kx V2 (w.heap.size + 1 + 1 + 1) A1 g := fun g h1 h2 => ⟨h1, by omega, fun e => by have := (hA1 g e).2.2.2.1; omega⟩
        have seq2 := choices1_seq V2 (Kx V2 (w.heap.size + 1 + 1 + 1) A1) (V.heap.size + 2) (V.heap.size + 1) V.heap.size 34 #[] (fun _ => true) q.symbols l[k].letters.length (by omega) (by omega)
          ⟨inK2 _ (by omega) (by omega), inK2 _ (by omega) (by omega), inK2 _ (by omega) (by omega)⟩ (fun _ h => h.1) cm ck cn (fun _ _ => by kernel_rfl) (fun U A' c' l' _ _ _ _ => mList2_ok U _)
        clear cm ck cn inK2
        have hlo2 : ∃ r, V2.heap[lo]? = some (.loop r) := by
          obtain ⟨o, ho⟩ := hlo
          exact ⟨o, (xv.block lo (Array.getElem?_eq_some_iff.1 ho).1).trans ho⟩
        refine wpIn_rangeSeq hlo2 seq2 rfl (fun _ _ => by kernel_rfl) (Ext.rfl' _) (fun _ h => h.1) (fun _ => rfl) (fun _ _ _ _ _ hl h hk => RvL.off hl h hk)
          (fun pre2 T2 U => LI T V2 A1 (w.heap.size + 1 + 1 + 1) w8.heap.size (listTo q pos l level k ++ outL q pos l[k] k (pre.map (·.1)) ++ inL q pos l[k] k x.1 (pre2.map (·.1))) T2 U) (fun _ _ _ _ => False) (LI.stays (fun pre2 : List LA => listTo q pos l level k ++ outL q pos l[k] k (pre.map (·.1)) ++ inL q pos l[k] k x.1 (pre2.map (·.1))) (by omega) hbx8) (fun _ _ _ _ _ _ h _ _ _ => h)
          (by rw [show inL q pos l[k] k x.1 (([] : List LA).map (·.1)) = [] from rfl, List.append_nil]; exact hI2)
          (AxB V2.heap.size (fun b => FrIn w w7 W b15 b)) (AxB.stays _ _) ?assign2 (fun _ _ _ _ h _ hl => RvL.loop h hl (.inr hl)) ?body2 ?done2 ?stop2
        case assign2 =>
          intro lo2 pre2 y T2 U K hi2 hr hK
          have hn : ¬ T2 U.heap.size := fun h => by have := (hi2.tb.2 _ h).2; omega
          have hz := hi2.tb.1
          clear seq2
          gi_wp2
          exact hK _ _ ((Ext.rfl' _).al _) (hr.ext ((Ext.rfl' _).al _)) ⟨U.heap.size, FrIn.mk _ rfl, Blk.new _ _ _, hn, hz, by simp⟩
        case stop2 =>
          intro c pre2 T2 U _ h
          exact h.elim
        case done2 =>
          intro xs T2 U hS hi2
          obtain ⟨kk, hi3⟩ := hi.outer xv (by omega) (fun g hg => ⟨(hA1 g hg).1, (hA1 g hg).2.1⟩) hi2
          have e2 : listTo q pos l level k ++ outL q pos l[k] k (pre.map (·.1)) ++ inL q pos l[k] k x.1 (xs.map (·.1)) = listTo q pos l level k ++ outL q pos l[k] k ((pre ++ [x]).map (·.1)) := by
            rw [List.map_append, List.map_cons, List.map_nil, outL_snoc, List.append_assoc, hS]; rfl
          rw [e2] at hi3
          exact ⟨kk, hi3⟩
        case body2 =>
          rintro lo2 pre2 y a2 T2 U hlo3 hT2 hi2 ⟨b16, ⟨s, rfl⟩, hb16, hn16, hs16, hl16⟩ hrv2 hsp2
          clear seq2
          obtain ⟨xl, xA, xc⟩ := x
          obtain ⟨yl, yA, yc⟩ := y
          dsimp only [BoxAt] at *
          obtain ⟨kkU, hiU⟩ := hi.outer xv (by omega) (fun g hg => ⟨(hA1 g hg).1, (hA1 g hg).2.1⟩) hi2
          obtain ⟨eU, mU, cBU, ⟨f0, f1, f2, f3, f4⟩, f5, f6, f7⟩ := HF8.out U (HK08.out U hiU.kb)
          clear f0 f1 f2 f3 f4 f5 f6
          have hrU := (Hrb.out.kb (KB.of_ext (K := fun _ => True) xb) trivial).kb hiU.kb (Hinl.out (W.heap.size + 1) (by omega) (by omega))
          have hz2 := hi2.tb.1
          have b12U : Blk U W.heap.size 3 #[.int .i64 (k : Int)] := (bn12.ext xb).kb hiU.kb (Hinl.out W.heap.size (by omega) (by omega))
          have kx15 : Kx V2 (w.heap.size + 1 + 1 + 1) A1 b15 := ⟨by omega, by omega, fun e => by
            have h1 := (hA1 b15 e).2.2.2.2 _ _ _ (hb15.ext xv)
            exact absurd h1 (by decide)⟩
          have b15U := (hb15.ext xv).kb hi2.kb kx15
          have rxU : RInts U xA xl := (hrv.1.to xv).kb hi2.kb fun ad e _ => by
            obtain ⟨h1, h2, h3, h4, h5⟩ := hrv.2.2 ad e
            have h6 := h5.kb (KB.of_ext (K := fun _ => True) xv) trivial
            refine ⟨by omega, fun e2 => ?_, fun e2 => ?_⟩
            · omega
            · obtain ⟨cs, r, h7⟩ := h6
              exact absurd ((hA1 _ e2).2.2.2.2 _ _ _ h7) (by decide)
          have ryU : RInts U yA yl := hrv2.1
          obtain ⟨hxl, hxd⟩ := chR_in hsp (show xl ∈ (pre ++ [(xl, xA, xc)]).map (·.1) by simp)
          obtain ⟨hyl, hyd⟩ := chR_in hsp2 (show yl ∈ (pre2 ++ [(yl, yA, yc)]).map (·.1) by simp)
          have hc0 := diff_iff hxd _ (num_mem (l := xl) (k := l[k].cell.toNat) (by omega))
          have hs0 := diff_iff hyd _ (num_mem (l := yl) (k := l[k].letter.toNat) (by omega))
          obtain ⟨pd, hPe, hpb, hpc, _⟩ := (hP.to eU).num (by omega)
          have hp1 := hpc (num xl l[k].cell.toNat).toNat (by omega)
          obtain ⟨cd, hce, hcb, hcc, _⟩ := rxU.num (by omega)
          have hc1 := hcc l[k].cell.toNat (by omega)
          obtain ⟨sd, hse, hsb, hsc, _⟩ := ryU.num (by omega)
          have hs1 := hsc l[k].letter.toNat (by omega)
          clear hpc hcc hsc
          subst hPe hce hse
          have bc : l[k].cell < (xl.length : Int) := by omega
          have bl : l[k].letter < (yl.length : Int) := by omega
          have bp : num xl l[k].cell.toNat < (pos.length : Int) := by omega
          have Hxl := hid hxl; have Hyl := hid hyl; have Hxd := hid hxd; have Hyd := hid hyd; clear hxl hyl hxd hyd
          have c15 := b15U.cell 0
          have c16 := hb16.cell 0
          simp only [List.getElem?_toArray, List.getElem?_cons_zero] at c15 c16
          have F2 : ∀ Z, Ext U Z → Z.cell? ⟨w.heap.size + 1 + 1, 0, none⟩ = some (.slice (some pd) pos.length pn) ∧ Z.cell? ⟨b15, 0, none⟩ = some (.slice (some cd) xl.length xc) ∧ Z.cell? ⟨b16, 0, none⟩ = some (.slice (some sd) yl.length yc) ∧ Z.cell? ⟨w7.heap.size, 0, none⟩ = some (.pointer (some ⟨gm, 0, none⟩)) ∧ RuleBox Z (W.heap.size + 1) l[k] p' ∧
              Z.cell? (cd.add l[k].cell.toNat) = some (.int .i64 (num xl l[k].cell.toNat)) ∧ Z.cell? (pd.add (num xl l[k].cell.toNat).toNat) = some (.int .i64 (num pos (num xl l[k].cell.toNat).toNat)) ∧ Z.cell? (sd.add l[k].letter.toNat) = some (.int .i64 (num yl l[k].letter.toNat)) := fun Z hZ => by
            exact ⟨cellE hZ f7 (by have := eU.size; have := hiU.tb.1; show w.heap.size + 1 + 1 < _; omega), cellE hZ c15 (by show b15 < _; omega), cellE hZ c16 hl16, cellE hZ cBU (by have := x8.size; have := hiU.tb.1; show w7.heap.size < _; omega), hrU.kb (KB.of_ext (K := fun _ => True) hZ) trivial,
              cellE hZ hc1 (by rw [block_of_add]; exact hcb), cellE hZ hp1 (by rw [block_of_add]; exact hpb), cellE hZ hs1 (by rw [block_of_add]; exact hsb)⟩
          have HF2 := hid F2
          clear F2 hp1 hc1 hs1 c15 c16 f7
          have hb := shr_zero (x := num pos (num xl l[k].cell.toNat).toNat) hs0.1 (by omega)
          have hno : takeB q pos l[k] xl yl = false → inL q pos l[k] k xl ((pre2 ++ [(yl, some sd, yc)]).map (·.1)) = inL q pos l[k] k xl (pre2.map (·.1)) := fun h => by
            rw [List.map_append, List.map_cons, List.map_nil, inL_snoc, h]; simp
          have hyes : takeB q pos l[k] xl yl = true → inL q pos l[k] k xl ((pre2 ++ [(yl, some sd, yc)]).map (·.1)) = inL q pos l[k] k xl (pre2.map (·.1)) ++ [⟨k, xl, yl⟩] := fun h => by
            rw [List.map_append, List.map_cons, List.map_nil, inL_snoc, h]; simp
          have Hno := hid hno; have Hyes := hid hyes; clear hno hyes
          obtain ⟨L, hL⟩ : ∃ L, L = listTo q pos l level k ++ outL q pos l[k] k (pre.map (·.1)) ++ inL q pos l[k] k xl (pre2.map (·.1)) := ⟨_, rfl⟩
          rw [← hL] at hi2
          have HL := hid hL; clear hL
          cases e5 : hasS (num pos (num xl l[k].cell.toNat).toNat) (num yl l[k].letter.toNat).toNat
          · rw [e5] at hb
            have Hno1 := hid (Hno.out (takeB_bit e5)); clear e5
            gi_wp2
            (refine wpIn_region_sf (fun _ => none) (by kernel_rfl) (by kernel_rfl) (by kernel_rfl) ?_); (repeat (first | (refine wpE_skipK ?_ ?_; (focus ((first | refine wanted_notF rfl rfl ?_ | refine wanted_notT rfl rfl ?_); (focus (simp only [List.getElem?_toArray, List.getElem?_cons_succ, List.getElem?_cons_zero]; done)))); intro K hK; go_simp; apply hK; clear hK K; (have hq9 : True := trivial); clear hq9) | (refine wpE_detN rfl rfl (fun K hK => ?_); apply Exists.intro; apply And.intro; (focus (rintro W ⟨hx, -⟩; obtain ⟨f0, f1, f2, f3, ⟨g0, g1, g2, g3, g4, g5, g6, g7⟩, f4, f5, f6⟩ := HF2.out W hx; go_simp; all_goals rfl)); go_simp; apply hK; clear hK K; (have hq9 : True := trivial); clear hq9) | (refine wpE_detK rfl ?_ ?_; (focus (refine wanted_so rfl rfl ?_; (focus (simp only [List.getElem?_toArray, List.getElem?_cons_succ, List.getElem?_cons_zero]; done)))); intro K hK; apply Exists.intro; apply And.intro; (focus (rintro W ⟨hx, -⟩; obtain ⟨f0, f1, f2, f3, ⟨g0, g1, g2, g3, g4, g5, g6, g7⟩, f4, f5, f6⟩ := HF2.out W hx; go_simp; all_goals rfl)); go_simp; apply hK; clear hK K; (have hq9 : True := trivial); clear hq9))); (apply wpE_nil); (rintro W ⟨hW, hG⟩); clear hG
            gi_wp2
            exact ⟨KB.of_ext hW, by have h9 := hi2.ext (by omega) hbx8 hW; rw [HL.out, ← Hno1.out] at h9; exact h9⟩
          · rw [e5] at hb
            have E5 := hid e5; clear e5
            obtain ⟨b, hbp⟩ : ∃ b, l[k].premises.all (premB1 pos xl yl) = b := ⟨_, rfl⟩
            have hpm : ∀ Z, Ext U Z → Calls Tryz.prog 27 #[.pointer (some ⟨gm, 0, none⟩), ruleV l[k] p', .slice (some cd) xl.length xc, .slice (some sd) yl.length yc] Z fun e W' => e = .returned (.bool b) ∧ Ext Z W' := fun Z hZ => by
              rw [← hbp]
              exact mPrem_ok Z q pos gm _ (mU.to hZ) l[k] p' (hps.to (eU.tr hZ)) (some cd) xc (some sd) yc xl yl (rxU.to hZ) (ryU.to hZ) (fun z hz => by rw [Hxl.out, Hyl.out]; exact valid_prem Hvr.out hz) (fun z hz => by have := diff_iff Hxd.out z hz; omega) (fun z hz => by have := diff_iff Hyd.out z hz; omega)
            have Hpm := hid hpm; have Hbp := hid hbp; clear hpm hbp
            gi_wp2
            (refine wpIn_region_sf (fun | 21 => some (SF.val (.bool b)) | _ => none) (by kernel_rfl) (by kernel_rfl) (by kernel_rfl) ?_); (repeat (first | (refine wpE_skipK ?_ ?_; (focus ((first | refine wanted_notF rfl rfl ?_ | refine wanted_notT rfl rfl ?_); (focus (simp only [List.getElem?_toArray, List.getElem?_cons_succ, List.getElem?_cons_zero]; done)))); intro K hK; go_simp; apply hK; clear hK K; (have hq9 : True := trivial); clear hq9) | (refine wpE_detN rfl rfl (fun K hK => ?_); apply Exists.intro; apply And.intro; (focus (rintro W ⟨hx, -⟩; obtain ⟨f0, f1, f2, f3, ⟨g0, g1, g2, g3, g4, g5, g6, g7⟩, f4, f5, f6⟩ := HF2.out W hx; go_simp; all_goals rfl)); go_simp; apply hK; clear hK K; (have hq9 : True := trivial); clear hq9) | (refine wpE_detK rfl ?_ ?_; (focus (refine wanted_so rfl rfl ?_; (focus (simp only [List.getElem?_toArray, List.getElem?_cons_succ, List.getElem?_cons_zero]; done)))); intro K hK; apply Exists.intro; apply And.intro; (focus (rintro W ⟨hx, -⟩; obtain ⟨f0, f1, f2, f3, ⟨g0, g1, g2, g3, g4, g5, g6, g7⟩, f4, f5, f6⟩ := HF2.out W hx; go_simp; all_goals rfl)); go_simp; apply hK; clear hK K; (have hq9 : True := trivial); clear hq9))); (first | refine wpE_newN _ rfl rfl ?_ ?_ | (refine wpE_newK _ rfl ?_ ?_ ?_; (focus (refine wanted_so rfl rfl ?_; (focus (simp only [List.getElem?_toArray, List.getElem?_cons_succ, List.getElem?_cons_zero]; done)))))); (focus (rintro W ⟨hW, -⟩; go_simp; exact ⟨Ext.rfl' _, (Hpm.out W hW).mono fun e W' ⟨he, hb⟩ => ⟨_, he, hb, rfl⟩⟩)); (rintro _ ⟨_, rfl⟩ K hK); (go_simp; apply hK; clear hK K; (have hq9 : True := trivial); clear hq9); (repeat (first | (refine wpE_skipK ?_ ?_; (focus ((first | refine wanted_notF rfl rfl ?_ | refine wanted_notT rfl rfl ?_); (focus (simp only [List.getElem?_toArray, List.getElem?_cons_succ, List.getElem?_cons_zero]; done)))); intro K hK; go_simp; apply hK; clear hK K; (have hq9 : True := trivial); clear hq9) | (refine wpE_detN rfl rfl (fun K hK => ?_); apply Exists.intro; apply And.intro; (focus (rintro W ⟨hx, -⟩; obtain ⟨f0, f1, f2, f3, ⟨g0, g1, g2, g3, g4, g5, g6, g7⟩, f4, f5, f6⟩ := HF2.out W hx; go_simp; all_goals rfl)); go_simp; apply hK; clear hK K; (have hq9 : True := trivial); clear hq9) | (refine wpE_detK rfl ?_ ?_; (focus (refine wanted_so rfl rfl ?_; (focus (simp only [List.getElem?_toArray, List.getElem?_cons_succ, List.getElem?_cons_zero]; done)))); intro K hK; apply Exists.intro; apply And.intro; (focus (rintro W ⟨hx, -⟩; obtain ⟨f0, f1, f2, f3, ⟨g0, g1, g2, g3, g4, g5, g6, g7⟩, f4, f5, f6⟩ := HF2.out W hx; go_simp; all_goals rfl)); go_simp; apply hK; clear hK K; (have hq9 : True := trivial); clear hq9))); (apply wpE_nil); (rintro W ⟨hW, hG⟩); clear hG
            clear Hpm hb
            cases b
            · have Hno1 := hid (Hno.out (takeB_prem Hbp.out))
              gi_wp2
              exact ⟨KB.of_ext hW, by have h9 := hi2.ext (by omega) hbx8 hW; rw [HL.out, ← Hno1.out] at h9; exact h9⟩
            obtain ⟨f0, f1, f2, f3, ⟨g0, g1, g2, g3, g4, g5, g6, g7⟩, -, -, -⟩ := HF2.out _ hW
            gi_wp2
            have hask : AskConds W 36 #[.pointer (some ⟨w7.heap.size, 0, none⟩), .pointer (some ⟨b15, 0, none⟩), .pointer (some ⟨b16, 0, none⟩)] (lackB q pos xl yl) l[k].conds := fun Y c A' a' B' b' hY hc hA' hB' =>
              mList3_ok Y q pos gm _ (mU.to (hW.tr hY)) w7.heap.size b15 b16 (hY.lt (cell_lt f3)) (hY.lt (cell_lt f1)) (hY.lt (cell_lt f2)) (cellE hY f3 (cell_lt f3)) (some cd) xc (some sd) yc xl yl (cellE hY f1 (cell_lt f1)) (cellE hY f2 (cell_lt f2)) (rxU.to (hW.tr hY)) (ryU.to (hW.tr hY)) c A' a' B' b' hA' hB' Hpos.out
                (condOK_of Hxd.out Hyd.out (by rw [Hxl.out, Hyl.out]; exact valid_cond Hvr.out hc))
            have hcon := containsFuncConds_ok W p'.c p'.cc l[k].conds (hps.to (eU.tr hW)).conds 36 #[.pointer (some ⟨w7.heap.size, 0, none⟩), .pointer (some ⟨b15, 0, none⟩), .pointer (some ⟨b16, 0, none⟩)] (lackB q pos xl yl) (fun _ _ => by kernel_rfl) hask
            obtain ⟨b2, hb2⟩ : ∃ b, l[k].conds.any (lackB q pos xl yl) = b := ⟨_, rfl⟩
            rw [hb2] at hcon
            have Hb2 := hid hb2; clear hb2 hask
            refine ⟨trivial, rfl, (CallsIn.inRound lo2 (callsIn_wide.2 hcon)).mono ?_⟩
            rintro e Z ⟨rfl, hZ⟩
            have hUZ := hW.tr hZ
            clear f0 f1 f2 f3 g0 g1 g2 g3 g4 g5 g6 g7 hcon
            cases b2
            rotate_left
            · have Hno1 := hid (Hno.out (takeB_cond Hb2.out))
              gi_wp2
              exact ⟨KB.of_ext hUZ, by have h9 := hi2.ext (by omega) hbx8 hUZ; rw [HL.out, ← Hno1.out] at h9; exact h9⟩
            have Hyes1 := hid (Hyes.out (takeB_yes E5.out Hbp.out Hb2.out))
            have hlb : L.length + 1 ≤ 100000000 := by
              have h1 := len_bd (q := q) (pos := pos) (level := level) hlt (by omega) (show pre.map (·.1) ++ [xl] <+: cellC q pos l[k] by rw [List.map_append] at hsp; exact hsp) (show (pre2 ++ [(yl, some sd, yc)]).map (·.1) <+: symC q l[k] from hsp2)
              rw [Hyes1.out, ← List.append_assoc, ← HL.out, List.length_append, List.length_singleton] at h1
              have := HN.out
              omega
            obtain ⟨f0, f1, f2, f3, -, -, -, -⟩ := HF2.out Z hUZ
            obtain ⟨A2, c2, bU, ho, hA2⟩ := hi2.own
            have c8 := (bU.ext hUZ).cell 0
            have d8 := (bU.ext hUZ).frozen 0
            have c12 := (b12U.ext hUZ).cell 0
            simp only [List.getElem?_toArray, List.getElem?_cons_zero] at c8 c12
            have hB := Blk.new Z 32 #[.int .i64 (k : Int), .slice (some cd) xl.length xc, .slice (some sd) yl.length yc]
            have hUc : Ext U (Z.alloc (.cells #[.int .i64 (k : Int), .slice (some cd) xl.length xc, .slice (some sd) yl.length yc] 32)) := hUZ.al _
            have ho3 := ho.to hUc
            have hin : RInstP (Z.alloc (.cells #[.int .i64 (k : Int), .slice (some cd) xl.length xc, .slice (some sd) yl.length yc] 32)) ⟨k, xl, yl⟩ ⟨some cd, xc, some sd, yc⟩ := ⟨rxU.to hUc, ryU.to hUc, ⟨by show _ ≤ (k : Int); omega, by show (k : Int) ≤ _; omega⟩, hrv.2.1, hrv2.2.1⟩
            have hlie : LieOff EInst (offOf (TT T T2 (w.heap.size + 1 + 1 + 1)) A2) (Z.alloc (.cells #[.int .i64 (k : Int), .slice (some cd) xl.length xc, .slice (some sd) yl.length yc] 32)) [instCells ⟨k, xl, yl⟩ ⟨some cd, xc, some sd, yc⟩] [⟨k, xl, yl⟩] := by
              refine instLie hin (fun ad e _ => ?_) (fun ad e _ => ?_)
              · obtain ⟨h1, h2, h3, h4, h5⟩ := hrv.2.2 ad e
                have h6 : IntBlk U ad.block := (h5.kb (KB.of_ext (K := fun _ => True) xv) trivial).kb hi2.kb ⟨by omega, by omega, fun e2 => by
                  obtain ⟨cs, r, h7⟩ := h5.kb (KB.of_ext (K := fun _ => True) xv) trivial
                  exact absurd ((hA1 _ e2).2.2.2.2 _ _ _ h7) (by decide)⟩
                rintro ((h | h | h) | h)
                · exact h1 h
                · have := hi2.tb.2 _ h; omega
                · omega
                · exact ho.not_int h6 h
              · obtain ⟨h1, h2, h3, h4, h5⟩ := hrv2.2.2 ad e
                rintro ((h | h | h) | h)
                · have := hi.tb.2 _ h; omega
                · exact h1 h
                · omega
                · exact ho.not_int h5 h
            have hcel : ∀ j u, [instCells ⟨k, xl, yl⟩ ⟨some cd, xc, some sd, yc⟩].flatten[j]? = some u → (Z.alloc (.cells #[.int .i64 (k : Int), .slice (some cd) xl.length xc, .slice (some sd) yl.length yc] 32)).cell? ((⟨Z.heap.size, 0, none⟩ : Addr).add j) = some u := by
              intro j u hu
              have e : (⟨Z.heap.size, 0, none⟩ : Addr).add j = ⟨Z.heap.size, j, none⟩ := by unfold Addr.add; simp; intro h; exact h.symm
              rw [e, hB.cell]
              simpa [instCells] using hu
            have hbA : blockOf A2 ≠ some (w.heap.size + 1 + 1 + 1) := fun e => by have := (ho.lt _ e).1; omega
            have hTb : ∀ g, T g → g ≠ w.heap.size + 1 + 1 + 1 ∧ g < U.heap.size := fun g hg => by have := hi.tb.2 g hg; exact ⟨by omega, by omega⟩
            have hbs : w8.heap.size ≤ (Z.alloc (.cells #[.int .i64 (k : Int), .slice (some cd) xl.length xc, .slice (some sd) yl.length yc] 32)).heap.size := by have := hUc.size; omega
            have Ho3 := hid ho3; have Hlie := hid hlie; have Hcel := hid hcel; have HA2 := hid hA2; have HbA := hid hbA; have HTb := hid hTb; have Hbs := hid hbs
            clear ho3 hlie hcel hA2 hbA hTb hbs hin hB
            gi_wp2_with (gi_at_builtin; refine app_gi EInst w8.heap.size Hbs.out rfl _ _ rfl (TT T T2 (w.heap.size + 1 + 1 + 1)) A2 L.length c2 L rfl Ho3.out ⟨Z.heap.size, 0, none⟩ 1 1 rfl [⟨k, xl, yl⟩] [instCells ⟨k, xl, yl⟩ ⟨some cd, xc, some sd, yc⟩] rfl Hlie.out Hcel.out (by show (L.length + 1) * 56 ≤ _; omega) (by simp [maxLen]; omega) ?_; intro A' c' V3 hg3; have b8V := (bU.ext hUc).kb (hg3.kb (K := fun g => blockOf A2 ≠ some g) (fun g hg h => h hg)) HbA.out; have c8V := b8V.cell 0; have d8V := b8V.frozen 0; simp only [List.getElem?_toArray, List.getElem?_cons_zero] at c8V; clear c8 d8 c12 f0 f1 f2 f3)
            obtain ⟨hli, hkb⟩ := hi2.push (by omega) hbx8 HTb.out bU ho HA2.out hUc hg3
            have e9 : L ++ [⟨k, xl, yl⟩] = listTo q pos l level k ++ outL q pos l[k] k (pre.map (·.1)) ++ inL q pos l[k] k xl ((pre2 ++ [(yl, some sd, yc)]).map (·.1)) := by rw [Hyes1.out, ← List.append_assoc, ← HL.out]
            exact ⟨hkb.mono fun _ _ h => h.imp id .inl, by have h9 := hli; rw [e9] at h9; exact h9⟩
      case done =>
        rintro D xs T V hD hS hi hK
        have e1 : listTo q pos l level (k + 1) = listTo q pos l level k ++ outL q pos l[k] k (xs.map (·.1)) := by rw [listTo_succ hlt]; unfold ruleL; rw [if_neg (by omega), hS]; rfl
        have hL2 := (LI.end_ hLL xab hbx8 hA0 hi hD hK).as e1.symm
        have HL2 := hid hL2
        clear hS hi hK seq hL2 e1
        go_wp2_with fail
        exact ⟨⟨k + 1, D :: Ds, by omega, FrLoop.mk _ rfl, HL2.out⟩, by simp [intOf]; omega⟩
      case stop =>
        intro D c pre T V _ _ h _
        exact h.elim
    · obtain rfl : k = l.length := by omega
      obtain ⟨A1, c1, b1, ho⟩ := hLL.own
      have c1' := b1.cell 0
      have d1' := b1.frozen 0
      simp only [List.getElem?_toArray, List.getElem?_cons_zero] at c1'
      clear f0 f1 f2 f3 f4 f5 f6 f7
      go_wp2_with fail
      have xs := b1.same
      have off : ∀ j, j < w8.heap.size → j ∉ Ds := fun j hj h => by have := hLL.ds j h; omega
      have hm2 := hLL.marked.kb (KB.of_ext (K := fun _ => True) xs) fun _ _ => trivial
      refine leaves_marks Ds _ hm2 fun W' hk => ⟨.tuple #[.slice A1 (listTo q pos l level l.length).length c1, .int .i64 0], ?_, A1, c1, ?_, ?_, ?_, ?_⟩
      · have h1 := ((b1.ext xs).kb hk (off _ hbx8)).cell 0
        simp [results, Tryz.f15, go_sem, h1]
      · rw [Hr.out]
      · rw [Hr.out]
        exact RInsts.ck ((ho.insts (by have := HN.out; omega)).1.to xs) (CK.marks hm2 hk)
      · rw [Hr.out]
        exact (ho.insts (by have := HN.out; omega)).2
      · exact (eW.tr xs).trans (hk.below (B := w.heap.size) (eW.tr xs).size fun j hj => off j (by omega))
end Go.Proofs.YtimkijmjbnmcbaaGreat
namespace Go.Proofs.YtimkijmjbnmcbaaGreat
open Go Go.RowKit
def q3 : Problem := ⟨3, 3, [0, 0, 0], [[], [], []], [⟨1, [0, 1, 2], 0, 0, 0, 0, [], 0, 0⟩]⟩
def q3t : Problem := ⟨3, 3, [0, 0, 0], [[], [], []], [⟨2, [0, 1, 2], 1, 0, 2, 2, [], 0, 0⟩]⟩
def q2 : Problem := ⟨2, 2, [0, 0], [[], []], [⟨1, [0, 1], 0, 0, 0, 0, [], 0, 0⟩]⟩
def cQuota : Cond := ⟨6, [0, 1], [0], 1⟩
def cHome : Cond := ⟨2, [0], [0], 0⟩
def L1 : List Inst := [⟨0, [0, 1], [0]⟩, ⟨0, [0, 2], [0]⟩]
theorem v_to : listTo q3 [1, 7, 7] lib1 1 lib1.length = L1 := by kernel_rfl
theorem v_to0 : listTo q3 [1, 7, 7] lib1 0 lib1.length = [] := by kernel_rfl
theorem v_list : listR q3 lib1 [1, 7, 7] 1 = (L1, 0) := by kernel_rfl
theorem v_list0 : listR q3 lib1 [1, 7, 7] 0 = ([], 0) := by kernel_rfl
theorem v_fits : fitsR q3 [] [1, 7, 7] ⟨0, [], []⟩ = (false, 330) := by kernel_rfl
theorem v_yes : condR q3t [7, 7, 1] cQuota [0, 1] [0] = (true, 0) := by kernel_rfl
theorem v_no : condR q3t [7, 7, 3] cQuota [0, 1] [0] = (false, 0) := by kernel_rfl
theorem v_home : condR q2 [3, 2] cHome [0] [0] = (true, 0) := by kernel_rfl
theorem v_same : sameL L1 L1 = true := by kernel_rfl
theorem qbox {W : World} {g1 g2 g3 g4 : Nat} (b1 : RInts W (some ⟨g1, 0, none⟩) [0, 0, 0]) (b2 : RRows W (some ⟨g2, 0, none⟩) [[], [], []]) {t3 t4 : TypeId} (b3 : Blk W g3 t3 #[.int .i64 0, .int .i64 1, .int .i64 2])
    (b4 : Blk W g4 t4 #[.int .i64 1, .slice (some ⟨g3, 0, none⟩) 3 3, .int .i64 0, .int .i64 0, .int .i64 0, .int .i64 0, .slice none 0 0, .int .i64 0, .int .i64 0]) : RProb W q3 ⟨some ⟨g1, 0, none⟩, 3, some ⟨g2, 0, none⟩, 3, some ⟨g4, 0, none⟩, 1⟩ :=
  ⟨b1, b2, RSl.one b4 _ _ rfl rfl ⟨_, _, none, 0, rfl, ints_of b3 [0, 1, 2] rfl (i64_lit rfl) (by decide), RInts.nil _ _, ⟨by decide, by decide⟩, ⟨by decide, by decide⟩, ⟨by decide, by decide⟩, ⟨by decide, by decide⟩, ⟨by decide, by decide⟩, ⟨by decide, by decide⟩, ⟨by decide, by decide⟩⟩ (by decide), ⟨by decide, by decide⟩, ⟨by decide, by decide⟩⟩
/-- A library. -/
def SF.lib (l : List Rule) : SF := ⟨fun W v => ∃ A a, v = libW l A a none 0 0 ∧ RRules W A l, fun _ _ _ hb ⟨A, a, e, h⟩ => ⟨A, a, e, h.to hb⟩⟩
/-- What List answers. -/
def SF.insErr (r : List Inst × Int) : SF := ⟨fun W v => ∃ A c, v = .tuple #[.slice A r.1.length c, .int .i64 r.2] ∧ RInsts W A r.1, fun _ _ _ hb ⟨A, c, e, h⟩ => ⟨A, c, e, h.to hb⟩⟩
set_option maxRecDepth 100000 in
set_option maxHeartbeats 8000000 in
theorem sane33_ok (w : World) : Calls Tryz.prog 4 #[] w fun e w' => e = .returned (.bool true) ∧ Ext w w' := by
  go_enter Tryz.func4, Tryz.ntmps4
  go_wp2_with (at_make; refine make_g ERow rfl _ _ rfl 3 3 3 rfl rfl rfl rfl (by simp [maxLen]) (by decide) [] (fun w => ⟨none, 0, rfl, RInts.nil _ _⟩) rfl ?_; intro w1 ho1 hx1 _)
  have b1 := Blk.new w 3 #[.int .i64 0, .int .i64 0, .int .i64 0]
  have x0 : Ext w (((w1.alloc (.cells #[.int .i64 0, .int .i64 1, .int .i64 2] 3)).alloc (.cells #[.int .i64 1, .slice (some ⟨w1.heap.size, 0, none⟩) 3 3, .int .i64 0, .int .i64 0, .int .i64 0, .int .i64 0, .slice none 0 0, .int .i64 0, .int .i64 0] 58)).alloc (.cells #[.int .i64 3, .int .i64 3, .slice (some ⟨w.heap.size, 0, none⟩) 3 3, .slice (some ⟨w.heap.size + 1, 0, none⟩) 3 3, .slice (some ⟨w1.heap.size + 1, 0, none⟩) 1 1] 26)) := (((((Ext.rfl' w).al _).tr hx1).al _).al _).al _
  have x1 : Ext w1 (((w1.alloc (.cells #[.int .i64 0, .int .i64 1, .int .i64 2] 3)).alloc (.cells #[.int .i64 1, .slice (some ⟨w1.heap.size, 0, none⟩) 3 3, .int .i64 0, .int .i64 0, .int .i64 0, .int .i64 0, .slice none 0 0, .int .i64 0, .int .i64 0] 58)).alloc (.cells #[.int .i64 3, .int .i64 3, .slice (some ⟨w.heap.size, 0, none⟩) 3 3, .slice (some ⟨w.heap.size + 1, 0, none⟩) 3 3, .slice (some ⟨w1.heap.size + 1, 0, none⟩) 1 1] 26)) := (((Ext.rfl' w1).al _).al _).al _
  have hq : RProb (((w1.alloc (.cells #[.int .i64 0, .int .i64 1, .int .i64 2] 3)).alloc (.cells #[.int .i64 1, .slice (some ⟨w1.heap.size, 0, none⟩) 3 3, .int .i64 0, .int .i64 0, .int .i64 0, .int .i64 0, .slice none 0 0, .int .i64 0, .int .i64 0] 58)).alloc (.cells #[.int .i64 3, .int .i64 3, .slice (some ⟨w.heap.size, 0, none⟩) 3 3, .slice (some ⟨w.heap.size + 1, 0, none⟩) 3 3, .slice (some ⟨w1.heap.size + 1, 0, none⟩) 1 1] 26)) q3 ⟨some ⟨w.heap.size, 0, none⟩, 3, some ⟨w.heap.size + 1, 0, none⟩, 3, some ⟨w1.heap.size + 1, 0, none⟩, 1⟩ :=
    qbox (ints_of ((b1.ext hx1).ext x1) [0, 0, 0] rfl (i64_lit rfl) (by decide)) (by have := (ho1.to x1).rsl (by decide); rw [World.size_alloc] at this; exact this) (Blk.here rfl).step.step (Blk.here (by simp)).step
  have hbx : Blk (((w1.alloc (.cells #[.int .i64 0, .int .i64 1, .int .i64 2] 3)).alloc (.cells #[.int .i64 1, .slice (some ⟨w1.heap.size, 0, none⟩) 3 3, .int .i64 0, .int .i64 0, .int .i64 0, .int .i64 0, .slice none 0 0, .int .i64 0, .int .i64 0] 58)).alloc (.cells #[.int .i64 3, .int .i64 3, .slice (some ⟨w.heap.size, 0, none⟩) 3 3, .slice (some ⟨w.heap.size + 1, 0, none⟩) 3 3, .slice (some ⟨w1.heap.size + 1, 0, none⟩) 1 1] 26)) (w1.heap.size + 1 + 1) 26 #[.int .i64 3, .int .i64 3, .slice (some ⟨w.heap.size, 0, none⟩) 3 3, .slice (some ⟨w.heap.size + 1, 0, none⟩) 3 3, .slice (some ⟨w1.heap.size + 1, 0, none⟩) 1 1] := Blk.here (by simp)
  clear ho1 hx1 x1 b1
  generalize ((w1.alloc (.cells #[.int .i64 0, .int .i64 1, .int .i64 2] 3)).alloc (.cells #[.int .i64 1, .slice (some ⟨w1.heap.size, 0, none⟩) 3 3, .int .i64 0, .int .i64 0, .int .i64 0, .int .i64 0, .slice none 0 0, .int .i64 0, .int .i64 0] 58)).alloc (.cells #[.int .i64 3, .int .i64 3, .slice (some ⟨w.heap.size, 0, none⟩) 3 3, .slice (some ⟨w.heap.size + 1, 0, none⟩) 3 3, .slice (some ⟨w1.heap.size + 1, 0, none⟩) 1 1] 26) = w2 at *
  have F : ∀ V, Ext w2 V → V.cell? ⟨w1.heap.size + 1 + 1, 0, none⟩ = some (.int .i64 3) ∧ V.cell? ⟨w1.heap.size + 1 + 1, 1, none⟩ = some (.int .i64 3) ∧ V.cell? ⟨w1.heap.size + 1 + 1, 2, none⟩ = some (.slice (some ⟨w.heap.size, 0, none⟩) 3 3) ∧ V.cell? ⟨w1.heap.size + 1 + 1, 3, none⟩ = some (.slice (some ⟨w.heap.size + 1, 0, none⟩) 3 3) ∧ V.cell? ⟨w1.heap.size + 1 + 1, 4, none⟩ = some (.slice (some ⟨w1.heap.size + 1, 0, none⟩) 1 1) := fun V hV =>
    ⟨(hbx.ext hV).cell 0, (hbx.ext hV).cell 1, (hbx.ext hV).cell 2, (hbx.ext hV).cell 3, (hbx.ext hV).cell 4⟩
  have HF := hid F; clear F
  refine wp_region_sf (fun | 1 => some (SF.lib lib1) | 2 => some (SF.ints [1, 7, 7]) | 3 => some (SF.insErr (L1, 0)) | _ => none) (by kernel_rfl) (by kernel_rfl) ?_
  repeat (first | (refine wpE_skipK ?_ ?_; (focus ((first | refine wanted_notF rfl rfl ?_ | refine wanted_notT rfl rfl ?_); (focus (simp only [List.getElem?_toArray, List.getElem?_cons_succ, List.getElem?_cons_zero]; done)))); intro K hK; go_simp; apply hK; clear hK K; (have hq9 : True := trivial); clear hq9) | (refine wpE_detN rfl rfl (fun K hK => ?_); apply Exists.intro; apply And.intro; (focus (rintro W ⟨hx, -⟩; obtain ⟨f0, f1, f2, f3, f4⟩ := HF.out W hx; go_simp; all_goals rfl)); go_simp; apply hK; clear hK K; (have hq9 : True := trivial); clear hq9) | (refine wpE_detK rfl ?_ ?_; (focus (refine wanted_so rfl rfl ?_; (focus (simp only [List.getElem?_toArray, List.getElem?_cons_succ, List.getElem?_cons_zero]; done)))); intro K hK; apply Exists.intro; apply And.intro; (focus (rintro W ⟨hx, -⟩; obtain ⟨f0, f1, f2, f3, f4⟩ := HF.out W hx; go_simp; all_goals rfl)); go_simp; apply hK; clear hK K; (have hq9 : True := trivial); clear hq9))
  (first | refine wpE_newN _ rfl rfl ?_ ?_ | (refine wpE_newK _ rfl ?_ ?_ ?_; (focus (refine wanted_so rfl rfl ?_; (focus (simp only [List.getElem?_toArray, List.getElem?_cons_succ, List.getElem?_cons_zero]; done))))))
  · rintro W ⟨hW, -⟩
    go_simp
    refine ⟨Ext.rfl' _, (single33_ok W).mono fun e W' hr => ?_⟩
    obtain ⟨A, a, rfl, h1, h2⟩ := hr
    exact ⟨_, rfl, h2, A, a, rfl, h1⟩
  rintro _ ⟨_, B3, bc3, rfl, -⟩ K hK
  go_simp; apply hK; clear hK K; (have hq9 : True := trivial); clear hq9
  repeat (first | (refine wpE_skipK ?_ ?_; (focus ((first | refine wanted_notF rfl rfl ?_ | refine wanted_notT rfl rfl ?_); (focus (simp only [List.getElem?_toArray, List.getElem?_cons_succ, List.getElem?_cons_zero]; done)))); intro K hK; go_simp; apply hK; clear hK K; (have hq9 : True := trivial); clear hq9) | (refine wpE_detN rfl rfl (fun K hK => ?_); apply Exists.intro; apply And.intro; (focus (rintro W ⟨hx, -⟩; obtain ⟨f0, f1, f2, f3, f4⟩ := HF.out W hx; go_simp; all_goals rfl)); go_simp; apply hK; clear hK K; (have hq9 : True := trivial); clear hq9) | (refine wpE_detK rfl ?_ ?_; (focus (refine wanted_so rfl rfl ?_; (focus (simp only [List.getElem?_toArray, List.getElem?_cons_succ, List.getElem?_cons_zero]; done)))); intro K hK; apply Exists.intro; apply And.intro; (focus (rintro W ⟨hx, -⟩; obtain ⟨f0, f1, f2, f3, f4⟩ := HF.out W hx; go_simp; all_goals rfl)); go_simp; apply hK; clear hK K; (have hq9 : True := trivial); clear hq9))
  (first | refine wpE_newN _ rfl rfl ?_ ?_ | (refine wpE_newK _ rfl ?_ ?_ ?_; (focus (refine wanted_so rfl rfl ?_; (focus (simp only [List.getElem?_toArray, List.getElem?_cons_succ, List.getElem?_cons_zero]; done))))))
  · rintro W ⟨hW, -⟩
    go_simp
    exact ⟨(Ext.rfl' _).al _, _, _, rfl, ints_of (Blk.new W _ _) [1, 7, 7] rfl (i64_lit rfl) (by decide)⟩
  rintro _ ⟨_, D3, dc3, rfl, -⟩ K hK
  go_simp; apply hK; clear hK K; (have hq9 : True := trivial); clear hq9
  repeat (first | (refine wpE_skipK ?_ ?_; (focus ((first | refine wanted_notF rfl rfl ?_ | refine wanted_notT rfl rfl ?_); (focus (simp only [List.getElem?_toArray, List.getElem?_cons_succ, List.getElem?_cons_zero]; done)))); intro K hK; go_simp; apply hK; clear hK K; (have hq9 : True := trivial); clear hq9) | (refine wpE_detN rfl rfl (fun K hK => ?_); apply Exists.intro; apply And.intro; (focus (rintro W ⟨hx, -⟩; obtain ⟨f0, f1, f2, f3, f4⟩ := HF.out W hx; go_simp; all_goals rfl)); go_simp; apply hK; clear hK K; (have hq9 : True := trivial); clear hq9) | (refine wpE_detK rfl ?_ ?_; (focus (refine wanted_so rfl rfl ?_; (focus (simp only [List.getElem?_toArray, List.getElem?_cons_succ, List.getElem?_cons_zero]; done)))); intro K hK; apply Exists.intro; apply And.intro; (focus (rintro W ⟨hx, -⟩; obtain ⟨f0, f1, f2, f3, f4⟩ := HF.out W hx; go_simp; all_goals rfl)); go_simp; apply hK; clear hK K; (have hq9 : True := trivial); clear hq9))
  (first | refine wpE_newN _ rfl rfl ?_ ?_ | (refine wpE_newK _ rfl ?_ ?_ ?_; (focus (refine wanted_so rfl rfl ?_; (focus (simp only [List.getElem?_toArray, List.getElem?_cons_succ, List.getElem?_cons_zero]; done))))))
  · rintro W ⟨hW, hG⟩
    obtain ⟨_, _, e1, r1⟩ := (hG ⟨1, .data⟩ (by simp) rfl).1.2 rfl
    cases e1
    obtain ⟨_, _, e2, r2⟩ := (hG ⟨2, .data⟩ (by simp) rfl).2 rfl
    cases e2
    clear hG
    go_simp
    refine ⟨Ext.rfl' _, (mList_ok W q3 ⟨some ⟨w.heap.size, 0, none⟩, 3, some ⟨w.heap.size + 1, 0, none⟩, 3, some ⟨w1.heap.size + 1, 0, none⟩, 1⟩ lib1 _ _ none 0 0 _ _ [1, 7, 7] 1 (hq.to hW) r1 r2 ⟨by decide, by decide⟩ (by rw [v_to]; decide)).mono fun e W' hr => ?_⟩
    unfold RetList at hr
    rw [v_list] at hr
    obtain ⟨A, c, rfl, h1, -, h2⟩ := hr
    exact ⟨_, rfl, h2, A, c, rfl, h1⟩
  rintro _ ⟨_, E3, ec3, rfl, -⟩ K hK
  go_simp; apply hK; clear hK K; (have hq9 : True := trivial); clear hq9
  repeat (first | (refine wpE_skipK ?_ ?_; (focus ((first | refine wanted_notF rfl rfl ?_ | refine wanted_notT rfl rfl ?_); (focus (simp only [List.getElem?_toArray, List.getElem?_cons_succ, List.getElem?_cons_zero]; done)))); intro K hK; go_simp; apply hK; clear hK K; (have hq9 : True := trivial); clear hq9) | (refine wpE_detN rfl rfl (fun K hK => ?_); apply Exists.intro; apply And.intro; (focus (rintro W ⟨hx, -⟩; obtain ⟨f0, f1, f2, f3, f4⟩ := HF.out W hx; go_simp; all_goals rfl)); go_simp; apply hK; clear hK K; (have hq9 : True := trivial); clear hq9) | (refine wpE_detK rfl ?_ ?_; (focus (refine wanted_so rfl rfl ?_; (focus (simp only [List.getElem?_toArray, List.getElem?_cons_succ, List.getElem?_cons_zero]; done)))); intro K hK; apply Exists.intro; apply And.intro; (focus (rintro W ⟨hx, -⟩; obtain ⟨f0, f1, f2, f3, f4⟩ := HF.out W hx; go_simp; all_goals rfl)); go_simp; apply hK; clear hK K; (have hq9 : True := trivial); clear hq9))
  apply wpE_nil
  rintro w3 ⟨y3, hG⟩
  obtain ⟨_, _, e1, rL3⟩ := (hG 3).2 rfl
  cases e1
  clear hG
  replace x0 := x0.tr y3
  replace hq := hq.to y3
  have F : ∀ V, Ext w3 V → _ := fun V hV => HF.out V (y3.tr hV)
  clear HF y3
  have HF := hid F; clear F
  go_wp2_with fail
  refine wp_region_sf (fun | 1 => some (SF.lib lib1) | 2 => some (SF.ints [1, 7, 7]) | 3 => some (SF.insErr ([], 0)) | _ => none) (by kernel_rfl) (by kernel_rfl) ?_
  repeat (first | (refine wpE_skipK ?_ ?_; (focus ((first | refine wanted_notF rfl rfl ?_ | refine wanted_notT rfl rfl ?_); (focus (simp only [List.getElem?_toArray, List.getElem?_cons_succ, List.getElem?_cons_zero]; done)))); intro K hK; go_simp; apply hK; clear hK K; (have hq9 : True := trivial); clear hq9) | (refine wpE_detN rfl rfl (fun K hK => ?_); apply Exists.intro; apply And.intro; (focus (rintro W ⟨hx, -⟩; obtain ⟨f0, f1, f2, f3, f4⟩ := HF.out W hx; go_simp; all_goals rfl)); go_simp; apply hK; clear hK K; (have hq9 : True := trivial); clear hq9) | (refine wpE_detK rfl ?_ ?_; (focus (refine wanted_so rfl rfl ?_; (focus (simp only [List.getElem?_toArray, List.getElem?_cons_succ, List.getElem?_cons_zero]; done)))); intro K hK; apply Exists.intro; apply And.intro; (focus (rintro W ⟨hx, -⟩; obtain ⟨f0, f1, f2, f3, f4⟩ := HF.out W hx; go_simp; all_goals rfl)); go_simp; apply hK; clear hK K; (have hq9 : True := trivial); clear hq9))
  (first | refine wpE_newN _ rfl rfl ?_ ?_ | (refine wpE_newK _ rfl ?_ ?_ ?_; (focus (refine wanted_so rfl rfl ?_; (focus (simp only [List.getElem?_toArray, List.getElem?_cons_succ, List.getElem?_cons_zero]; done))))))
  · rintro W ⟨hW, -⟩
    go_simp
    refine ⟨Ext.rfl' _, (single33_ok W).mono fun e W' hr => ?_⟩
    obtain ⟨A, a, rfl, h1, h2⟩ := hr
    exact ⟨_, rfl, h2, A, a, rfl, h1⟩
  rintro _ ⟨_, B4, bc4, rfl, -⟩ K hK
  go_simp; apply hK; clear hK K; (have hq9 : True := trivial); clear hq9
  repeat (first | (refine wpE_skipK ?_ ?_; (focus ((first | refine wanted_notF rfl rfl ?_ | refine wanted_notT rfl rfl ?_); (focus (simp only [List.getElem?_toArray, List.getElem?_cons_succ, List.getElem?_cons_zero]; done)))); intro K hK; go_simp; apply hK; clear hK K; (have hq9 : True := trivial); clear hq9) | (refine wpE_detN rfl rfl (fun K hK => ?_); apply Exists.intro; apply And.intro; (focus (rintro W ⟨hx, -⟩; obtain ⟨f0, f1, f2, f3, f4⟩ := HF.out W hx; go_simp; all_goals rfl)); go_simp; apply hK; clear hK K; (have hq9 : True := trivial); clear hq9) | (refine wpE_detK rfl ?_ ?_; (focus (refine wanted_so rfl rfl ?_; (focus (simp only [List.getElem?_toArray, List.getElem?_cons_succ, List.getElem?_cons_zero]; done)))); intro K hK; apply Exists.intro; apply And.intro; (focus (rintro W ⟨hx, -⟩; obtain ⟨f0, f1, f2, f3, f4⟩ := HF.out W hx; go_simp; all_goals rfl)); go_simp; apply hK; clear hK K; (have hq9 : True := trivial); clear hq9))
  (first | refine wpE_newN _ rfl rfl ?_ ?_ | (refine wpE_newK _ rfl ?_ ?_ ?_; (focus (refine wanted_so rfl rfl ?_; (focus (simp only [List.getElem?_toArray, List.getElem?_cons_succ, List.getElem?_cons_zero]; done))))))
  · rintro W ⟨hW, -⟩
    go_simp
    exact ⟨(Ext.rfl' _).al _, _, _, rfl, ints_of (Blk.new W _ _) [1, 7, 7] rfl (i64_lit rfl) (by decide)⟩
  rintro _ ⟨_, D4, dc4, rfl, -⟩ K hK
  go_simp; apply hK; clear hK K; (have hq9 : True := trivial); clear hq9
  repeat (first | (refine wpE_skipK ?_ ?_; (focus ((first | refine wanted_notF rfl rfl ?_ | refine wanted_notT rfl rfl ?_); (focus (simp only [List.getElem?_toArray, List.getElem?_cons_succ, List.getElem?_cons_zero]; done)))); intro K hK; go_simp; apply hK; clear hK K; (have hq9 : True := trivial); clear hq9) | (refine wpE_detN rfl rfl (fun K hK => ?_); apply Exists.intro; apply And.intro; (focus (rintro W ⟨hx, -⟩; obtain ⟨f0, f1, f2, f3, f4⟩ := HF.out W hx; go_simp; all_goals rfl)); go_simp; apply hK; clear hK K; (have hq9 : True := trivial); clear hq9) | (refine wpE_detK rfl ?_ ?_; (focus (refine wanted_so rfl rfl ?_; (focus (simp only [List.getElem?_toArray, List.getElem?_cons_succ, List.getElem?_cons_zero]; done)))); intro K hK; apply Exists.intro; apply And.intro; (focus (rintro W ⟨hx, -⟩; obtain ⟨f0, f1, f2, f3, f4⟩ := HF.out W hx; go_simp; all_goals rfl)); go_simp; apply hK; clear hK K; (have hq9 : True := trivial); clear hq9))
  (first | refine wpE_newN _ rfl rfl ?_ ?_ | (refine wpE_newK _ rfl ?_ ?_ ?_; (focus (refine wanted_so rfl rfl ?_; (focus (simp only [List.getElem?_toArray, List.getElem?_cons_succ, List.getElem?_cons_zero]; done))))))
  · rintro W ⟨hW, hG⟩
    obtain ⟨_, _, e1, r1⟩ := (hG ⟨1, .data⟩ (by simp) rfl).1.2 rfl
    cases e1
    obtain ⟨_, _, e2, r2⟩ := (hG ⟨2, .data⟩ (by simp) rfl).2 rfl
    cases e2
    clear hG
    go_simp
    refine ⟨Ext.rfl' _, (mList_ok W q3 ⟨some ⟨w.heap.size, 0, none⟩, 3, some ⟨w.heap.size + 1, 0, none⟩, 3, some ⟨w1.heap.size + 1, 0, none⟩, 1⟩ lib1 _ _ none 0 0 _ _ [1, 7, 7] 0 (hq.to hW) r1 r2 ⟨by decide, by decide⟩ (by rw [v_to0]; decide)).mono fun e W' hr => ?_⟩
    unfold RetList at hr
    rw [v_list0] at hr
    obtain ⟨A, c, rfl, h1, -, h2⟩ := hr
    exact ⟨_, rfl, h2, A, c, rfl, h1⟩
  rintro _ ⟨_, E4, ec4, rfl, -⟩ K hK
  go_simp; apply hK; clear hK K; (have hq9 : True := trivial); clear hq9
  repeat (first | (refine wpE_skipK ?_ ?_; (focus ((first | refine wanted_notF rfl rfl ?_ | refine wanted_notT rfl rfl ?_); (focus (simp only [List.getElem?_toArray, List.getElem?_cons_succ, List.getElem?_cons_zero]; done)))); intro K hK; go_simp; apply hK; clear hK K; (have hq9 : True := trivial); clear hq9) | (refine wpE_detN rfl rfl (fun K hK => ?_); apply Exists.intro; apply And.intro; (focus (rintro W ⟨hx, -⟩; obtain ⟨f0, f1, f2, f3, f4⟩ := HF.out W hx; go_simp; all_goals rfl)); go_simp; apply hK; clear hK K; (have hq9 : True := trivial); clear hq9) | (refine wpE_detK rfl ?_ ?_; (focus (refine wanted_so rfl rfl ?_; (focus (simp only [List.getElem?_toArray, List.getElem?_cons_succ, List.getElem?_cons_zero]; done)))); intro K hK; apply Exists.intro; apply And.intro; (focus (rintro W ⟨hx, -⟩; obtain ⟨f0, f1, f2, f3, f4⟩ := HF.out W hx; go_simp; all_goals rfl)); go_simp; apply hK; clear hK K; (have hq9 : True := trivial); clear hq9))
  apply wpE_nil
  rintro w4 ⟨y4, hG⟩
  obtain ⟨_, _, e1, rL4⟩ := (hG 3).2 rfl
  cases e1
  clear hG
  replace x0 := x0.tr y4
  replace hq := hq.to y4
  replace rL3 := rL3.to y4
  obtain ⟨f0, f1, f2, f3, f4⟩ := HF.out w4 y4
  clear HF y4
  go_wp2_with fail
  refine (mFits_ok _ q3 ⟨some ⟨w.heap.size, 0, none⟩, 3, some ⟨w.heap.size + 1, 0, none⟩, 3, some ⟨w1.heap.size + 1, 0, none⟩, 1⟩ [] none 0 none 0 0 (some ⟨w4.heap.size, 0, none⟩) 3 [1, 7, 7] ⟨0, [], []⟩ ⟨none, 0, none, 0⟩ (hq.to ((Ext.rfl' _).al _)) ⟨by simp, fun h => absurd h (by simp)⟩ (ints_of (Blk.new w4 _ _) [1, 7, 7] rfl (i64_lit rfl) (by decide)) ⟨RInts.nil _ _, RInts.nil _ _, ⟨by decide, by decide⟩, by decide, by decide⟩).mono ?_
  rintro e w5 hr
  unfold RetBE at hr
  rw [v_fits] at hr
  obtain ⟨rfl, hx⟩ := hr
  have y5 : Ext w4 w5 := ((Ext.rfl' _).al _).tr hx
  clear hx
  replace x0 := x0.tr y5
  replace hq := hq.to y5
  replace rL3 := rL3.to y5
  have q0 := cellE y5 f0 (cell_lt f0); have q1 := cellE y5 f1 (cell_lt f1); have q2 := cellE y5 f2 (cell_lt f2); have q3 := cellE y5 f3 (cell_lt f3); have q4 := cellE y5 f4 (cell_lt f4)
  clear f0 f1 f2 f3 f4 y5
  go_wp2_with fail
  obtain ⟨Wc, hWc⟩ : ∃ Wc, (((((((((w5).alloc (.cells #[.int .i64 3, .int .i64 3, .slice (some ⟨w.heap.size, 0, none⟩) 3 3, .slice (some ⟨w.heap.size + 1, 0, none⟩) 3 3, .slice (some ⟨w5.heap.size + 1 + 1, 0, none⟩) 1 1] 26)).alloc (.cells #[.int .i64 0, .int .i64 1, .int .i64 2] 3)).alloc (.cells #[.int .i64 2, .slice (some ⟨w5.heap.size + 1, 0, none⟩) 3 3, .int .i64 1, .int .i64 0, .int .i64 2, .int .i64 2, .slice none 0 0, .int .i64 0, .int .i64 0] 58)).alloc (.cells #[.int .i64 0, .int .i64 1] 3)).alloc (.cells #[.int .i64 0] 3)).alloc (.cells #[.int .i64 6, .slice (some ⟨w5.heap.size + 1 + 1 + 1, 0, none⟩) 2 2, .slice (some ⟨w5.heap.size + 1 + 1 + 1 + 1, 0, none⟩) 1 1, .int .i64 1] 50)).alloc (.cells #[.int .i64 7, .int .i64 7, .int .i64 1] 3)).alloc (.cells #[.int .i64 0, .int .i64 1] 3)).alloc (.cells #[.int .i64 0] 3) = Wc := ⟨_, rfl⟩
  rw [hWc]
  have xWc : Ext w5 Wc := by rw [← hWc]; exact ((((((((((Ext.rfl' _).al _).al _).al _).al _).al _).al _).al _).al _).al _)
  have c0 : Blk Wc (w5.heap.size) 26 #[.int .i64 3, .int .i64 3, .slice (some ⟨w.heap.size, 0, none⟩) 3 3, .slice (some ⟨w.heap.size + 1, 0, none⟩) 3 3, .slice (some ⟨w5.heap.size + 1 + 1, 0, none⟩) 1 1] := by rw [← hWc]; exact (Blk.here (by simp)).step.step.step.step.step.step.step.step
  have c1 : Blk Wc (w5.heap.size + 1) 3 #[.int .i64 0, .int .i64 1, .int .i64 2] := by rw [← hWc]; exact (Blk.here (by simp)).step.step.step.step.step.step.step
  have c2 : Blk Wc (w5.heap.size + 1 + 1) 58 #[.int .i64 2, .slice (some ⟨w5.heap.size + 1, 0, none⟩) 3 3, .int .i64 1, .int .i64 0, .int .i64 2, .int .i64 2, .slice none 0 0, .int .i64 0, .int .i64 0] := by rw [← hWc]; exact (Blk.here (by simp)).step.step.step.step.step.step
  have c3 : Blk Wc (w5.heap.size + 1 + 1 + 1) 3 #[.int .i64 0, .int .i64 1] := by rw [← hWc]; exact (Blk.here (by simp)).step.step.step.step.step
  have c4 : Blk Wc (w5.heap.size + 1 + 1 + 1 + 1) 3 #[.int .i64 0] := by rw [← hWc]; exact (Blk.here (by simp)).step.step.step.step
  have c5 : Blk Wc (w5.heap.size + 1 + 1 + 1 + 1 + 1) 50 #[.int .i64 6, .slice (some ⟨w5.heap.size + 1 + 1 + 1, 0, none⟩) 2 2, .slice (some ⟨w5.heap.size + 1 + 1 + 1 + 1, 0, none⟩) 1 1, .int .i64 1] := by rw [← hWc]; exact (Blk.here (by simp)).step.step.step
  have c6 : Blk Wc (w5.heap.size + 1 + 1 + 1 + 1 + 1 + 1) 3 #[.int .i64 7, .int .i64 7, .int .i64 1] := by rw [← hWc]; exact (Blk.here (by simp)).step.step
  have c7 : Blk Wc (w5.heap.size + 1 + 1 + 1 + 1 + 1 + 1 + 1) 3 #[.int .i64 0, .int .i64 1] := by rw [← hWc]; exact (Blk.here (by simp)).step
  have c8 : Blk Wc (w5.heap.size + 1 + 1 + 1 + 1 + 1 + 1 + 1 + 1) 3 #[.int .i64 0] := by rw [← hWc]; exact (Blk.here (by simp))
  clear hWc
  have hqt : RProb Wc q3t ⟨some ⟨w.heap.size, 0, none⟩, 3, some ⟨w.heap.size + 1, 0, none⟩, 3, (some ⟨w5.heap.size + 1 + 1, 0, none⟩), 1⟩ :=
    ⟨hq.values.to xWc, hq.neighbors.to xWc, RSl.one c2 _ _ rfl rfl ⟨_, _, none, 0, rfl, ints_of c1 [0, 1, 2] rfl (i64_lit rfl) (by decide), RInts.nil _ _, ⟨by decide, by decide⟩, ⟨by decide, by decide⟩, ⟨by decide, by decide⟩, ⟨by decide, by decide⟩, ⟨by decide, by decide⟩, ⟨by decide, by decide⟩, ⟨by decide, by decide⟩⟩ (by decide), ⟨by decide, by decide⟩, ⟨by decide, by decide⟩⟩
  have i3 := ints_of c3 [0, 1] rfl (i64_lit rfl) (by decide)
  have i4 := ints_of c4 [0] rfl (i64_lit rfl) (by decide)
  refine (mCond_ok Wc q3t ⟨some ⟨w.heap.size, 0, none⟩, 3, some ⟨w.heap.size + 1, 0, none⟩, 3, (some ⟨w5.heap.size + 1 + 1, 0, none⟩), 1⟩ (some ⟨w5.heap.size + 1 + 1 + 1 + 1 + 1 + 1, 0, none⟩) 3 [7, 7, 1] cQuota (some ⟨w5.heap.size + 1 + 1 + 1, 0, none⟩) 2 (some ⟨w5.heap.size + 1 + 1 + 1 + 1, 0, none⟩) 1 (some ⟨w5.heap.size + 1 + 1 + 1 + 1 + 1 + 1 + 1, 0, none⟩) 2 (some ⟨w5.heap.size + 1 + 1 + 1 + 1 + 1 + 1 + 1 + 1, 0, none⟩) 1 [0, 1] [0] hqt (ints_of c6 [7, 7, 1] rfl (i64_lit rfl) (by decide)) i3 i4 ⟨by decide, by decide⟩ ⟨by decide, by decide⟩ (ints_of c7 [0, 1] rfl (i64_lit rfl) (by decide)) (ints_of c8 [0] rfl (i64_lit rfl) (by decide))).mono ?_
  rintro e w6 hr
  unfold RetBE at hr
  rw [v_yes] at hr
  obtain ⟨rfl, y6⟩ := hr
  clear q0 q1 q2 q3 q4 c1 c2 c3 c4 c6 c7 c8 hq
  replace x0 := (x0.tr xWc).tr y6
  replace rL3 := (rL3.to xWc).to y6
  replace hqt := hqt.to y6
  replace i3 := i3.to y6
  replace i4 := i4.to y6
  replace c0 := c0.ext y6
  replace c5 := c5.ext y6
  clear y6 xWc
  have d0 := c0.cell 0; have d1 := c0.cell 1; have d2 := c0.cell 2; have d3 := c0.cell 3; have d4 := c0.cell 4
  have e0 := c5.cell 0; have e1 := c5.cell 1; have e2 := c5.cell 2; have e3 := c5.cell 3
  have n5 := c5.lt
  have n6 : ¬ w5.heap.size + 1 + 1 + 1 + 1 + 1 = w6.heap.size := by omega
  have n7 : ¬ w6.heap.size = w5.heap.size + 1 + 1 + 1 + 1 + 1 := by omega
  go_wp2_with fail
  obtain ⟨Wd, hWd⟩ : ∃ Wd, (((w6).alloc (.cells #[.int .i64 7, .int .i64 7, .int .i64 3] 3)).alloc (.cells #[.int .i64 0, .int .i64 1] 3)).alloc (.cells #[.int .i64 0] 3) = Wd := ⟨_, rfl⟩
  rw [hWd]
  have xWd : Ext w6 Wd := by rw [← hWd]; exact ((((Ext.rfl' _).al _).al _).al _)
  have a0 : Blk Wd (w6.heap.size) 3 #[.int .i64 7, .int .i64 7, .int .i64 3] := by rw [← hWd]; exact (Blk.here (by simp)).step.step
  have a1 : Blk Wd (w6.heap.size + 1) 3 #[.int .i64 0, .int .i64 1] := by rw [← hWd]; exact (Blk.here (by simp)).step
  have a2 : Blk Wd (w6.heap.size + 1 + 1) 3 #[.int .i64 0] := by rw [← hWd]; exact (Blk.here (by simp))
  clear hWd
  refine (mCond_ok Wd q3t ⟨some ⟨w.heap.size, 0, none⟩, 3, some ⟨w.heap.size + 1, 0, none⟩, 3, (some ⟨w5.heap.size + 1 + 1, 0, none⟩), 1⟩ (some ⟨w6.heap.size, 0, none⟩) 3 [7, 7, 3] cQuota (some ⟨w5.heap.size + 1 + 1 + 1, 0, none⟩) 2 (some ⟨w5.heap.size + 1 + 1 + 1 + 1, 0, none⟩) 1 (some ⟨w6.heap.size + 1, 0, none⟩) 2 (some ⟨w6.heap.size + 1 + 1, 0, none⟩) 1 [0, 1] [0] (hqt.to xWd) (ints_of a0 [7, 7, 3] rfl (i64_lit rfl) (by decide)) (i3.to xWd) (i4.to xWd) ⟨by decide, by decide⟩ ⟨by decide, by decide⟩ (ints_of a1 [0, 1] rfl (i64_lit rfl) (by decide)) (ints_of a2 [0] rfl (i64_lit rfl) (by decide))).mono ?_
  rintro e w7 hr
  unfold RetBE at hr
  rw [v_no] at hr
  obtain ⟨rfl, y7⟩ := hr
  clear n5 n6 n7 a0 a1 a2 i3 i4 hqt c0 c5 d0 d1 d2 d3 d4 e0 e1 e2 e3
  replace x0 := (x0.tr xWd).tr y7
  replace rL3 := (rL3.to xWd).to y7
  clear xWd y7
  go_wp2_with (at_make; refine make_g ERow rfl _ _ rfl 2 2 2 rfl rfl rfl rfl (by simp [maxLen]) (by decide) [] (fun w => ⟨none, 0, rfl, RInts.nil _ _⟩) rfl ?_; intro w8 ho8 hx8 _)
  have v0 := ints_of ((Blk.new w7 3 #[.int .i64 0, .int .i64 0]).ext hx8) [0, 0] rfl (i64_lit rfl) (by decide)
  have n0 : RRows w8 (some ⟨w7.heap.size + 1, 0, none⟩) [[], []] := by have := ho8.rsl (by decide); rw [World.size_alloc] at this; exact this
  replace x0 := (x0.al (.cells #[.int .i64 0, .int .i64 0] 3)).tr hx8
  replace rL3 := (rL3.to ((Ext.rfl' _).al (.cells #[.int .i64 0, .int .i64 0] 3))).to hx8
  clear ho8 hx8
  obtain ⟨We, hWe⟩ : ∃ We, ((((((((w8).alloc (.cells #[.int .i64 0, .int .i64 1] 3)).alloc (.cells #[.int .i64 1, .slice (some ⟨w8.heap.size, 0, none⟩) 2 2, .int .i64 0, .int .i64 0, .int .i64 0, .int .i64 0, .slice none 0 0, .int .i64 0, .int .i64 0] 58)).alloc (.cells #[.int .i64 2, .int .i64 2, .slice (some ⟨w7.heap.size, 0, none⟩) 2 2, .slice (some ⟨w7.heap.size + 1, 0, none⟩) 2 2, .slice (some ⟨w8.heap.size + 1, 0, none⟩) 1 1] 26)).alloc (.cells #[.int .i64 3, .int .i64 2] 3)).alloc (.cells #[.int .i64 0] 3)).alloc (.cells #[.int .i64 0] 3)).alloc (.cells #[.int .i64 0] 3)).alloc (.cells #[.int .i64 0] 3) = We := ⟨_, rfl⟩
  rw [hWe]
  have xWe : Ext w8 We := by rw [← hWe]; exact (((((((((Ext.rfl' _).al _).al _).al _).al _).al _).al _).al _).al _)
  have a0 : Blk We (w8.heap.size) 3 #[.int .i64 0, .int .i64 1] := by rw [← hWe]; exact (Blk.here (by simp)).step.step.step.step.step.step.step
  have a1 : Blk We (w8.heap.size + 1) 58 #[.int .i64 1, .slice (some ⟨w8.heap.size, 0, none⟩) 2 2, .int .i64 0, .int .i64 0, .int .i64 0, .int .i64 0, .slice none 0 0, .int .i64 0, .int .i64 0] := by rw [← hWe]; exact (Blk.here (by simp)).step.step.step.step.step.step
  have a3 : Blk We (w8.heap.size + 1 + 1 + 1) 3 #[.int .i64 3, .int .i64 2] := by rw [← hWe]; exact (Blk.here (by simp)).step.step.step.step
  have a4 : Blk We (w8.heap.size + 1 + 1 + 1 + 1) 3 #[.int .i64 0] := by rw [← hWe]; exact (Blk.here (by simp)).step.step.step
  have a5 : Blk We (w8.heap.size + 1 + 1 + 1 + 1 + 1) 3 #[.int .i64 0] := by rw [← hWe]; exact (Blk.here (by simp)).step.step
  have a6 : Blk We (w8.heap.size + 1 + 1 + 1 + 1 + 1 + 1) 3 #[.int .i64 0] := by rw [← hWe]; exact (Blk.here (by simp)).step
  have a7 : Blk We (w8.heap.size + 1 + 1 + 1 + 1 + 1 + 1 + 1) 3 #[.int .i64 0] := by rw [← hWe]; exact (Blk.here (by simp))
  clear hWe
  have hq2 : RProb We q2 ⟨some ⟨w7.heap.size, 0, none⟩, 2, some ⟨w7.heap.size + 1, 0, none⟩, 2, (some ⟨w8.heap.size + 1, 0, none⟩), 1⟩ := ⟨v0.to xWe, n0.to xWe, RSl.one a1 _ _ rfl rfl ⟨_, _, none, 0, rfl, ints_of a0 [0, 1] rfl (i64_lit rfl) (by decide), RInts.nil _ _, ⟨by decide, by decide⟩, ⟨by decide, by decide⟩, ⟨by decide, by decide⟩, ⟨by decide, by decide⟩, ⟨by decide, by decide⟩, ⟨by decide, by decide⟩, ⟨by decide, by decide⟩⟩ (by decide), ⟨by decide, by decide⟩, ⟨by decide, by decide⟩⟩
  refine (mCond_ok We q2 ⟨some ⟨w7.heap.size, 0, none⟩, 2, some ⟨w7.heap.size + 1, 0, none⟩, 2, (some ⟨w8.heap.size + 1, 0, none⟩), 1⟩ (some ⟨w8.heap.size + 1 + 1 + 1, 0, none⟩) 2 [3, 2] cHome (some ⟨w8.heap.size + 1 + 1 + 1 + 1, 0, none⟩) 1 (some ⟨w8.heap.size + 1 + 1 + 1 + 1 + 1, 0, none⟩) 1 (some ⟨w8.heap.size + 1 + 1 + 1 + 1 + 1 + 1, 0, none⟩) 1 (some ⟨w8.heap.size + 1 + 1 + 1 + 1 + 1 + 1 + 1, 0, none⟩) 1 [0] [0] hq2 (ints_of a3 [3, 2] rfl (i64_lit rfl) (by decide)) (ints_of a4 [0] rfl (i64_lit rfl) (by decide)) (ints_of a5 [0] rfl (i64_lit rfl) (by decide)) ⟨by decide, by decide⟩ ⟨by decide, by decide⟩ (ints_of a6 [0] rfl (i64_lit rfl) (by decide)) (ints_of a7 [0] rfl (i64_lit rfl) (by decide))).mono ?_
  rintro e w9 hr
  unfold RetBE at hr
  rw [v_home] at hr
  obtain ⟨rfl, y9⟩ := hr
  replace x0 := (x0.tr xWe).tr y9
  replace rL3 := (rL3.to xWe).to y9
  clear a0 a1 a3 a4 a5 a6 a7 hq2 v0 n0 xWe y9
  go_wp2_with fail
  obtain ⟨Wf, hWf⟩ : ∃ Wf, (((((w9).alloc (.cells #[.int .i64 0, .int .i64 1] 3)).alloc (.cells #[.int .i64 0] 3)).alloc (.cells #[.int .i64 0, .int .i64 2] 3)).alloc (.cells #[.int .i64 0] 3)).alloc (.cells #[.int .i64 0, .slice (some ⟨w9.heap.size, 0, none⟩) 2 2, .slice (some ⟨w9.heap.size + 1, 0, none⟩) 1 1, .int .i64 0, .slice (some ⟨w9.heap.size + 1 + 1, 0, none⟩) 2 2, .slice (some ⟨w9.heap.size + 1 + 1 + 1, 0, none⟩) 1 1] 32) = Wf := ⟨_, rfl⟩
  rw [hWf]
  have xWf : Ext w9 Wf := by rw [← hWf]; exact (((((Ext.rfl' _).al _).al _).al _).al _).al _
  have a0 : Blk Wf (w9.heap.size) 3 #[.int .i64 0, .int .i64 1] := by rw [← hWf]; exact (Blk.here (by simp)).step.step.step.step
  have a1 : Blk Wf (w9.heap.size + 1) 3 #[.int .i64 0] := by rw [← hWf]; exact (Blk.here (by simp)).step.step.step
  have a2 : Blk Wf (w9.heap.size + 1 + 1) 3 #[.int .i64 0, .int .i64 2] := by rw [← hWf]; exact (Blk.here (by simp)).step.step
  have a3 : Blk Wf (w9.heap.size + 1 + 1 + 1) 3 #[.int .i64 0] := by rw [← hWf]; exact (Blk.here (by simp)).step
  have a4 : Blk Wf (w9.heap.size + 1 + 1 + 1 + 1) 32 #[.int .i64 0, .slice (some ⟨w9.heap.size, 0, none⟩) 2 2, .slice (some ⟨w9.heap.size + 1, 0, none⟩) 1 1, .int .i64 0, .slice (some ⟨w9.heap.size + 1 + 1, 0, none⟩) 2 2, .slice (some ⟨w9.heap.size + 1 + 1 + 1, 0, none⟩) 1 1] := by rw [← hWf]; exact (Blk.here (by simp))
  clear hWf
  have hL : RInsts Wf (some ⟨w9.heap.size + 1 + 1 + 1 + 1, 0, none⟩) L1 := RSl.ofBlk a4 [[.int .i64 0, .slice (some ⟨w9.heap.size, 0, none⟩) 2 2, .slice (some ⟨w9.heap.size + 1, 0, none⟩) 1 1], [.int .i64 0, .slice (some ⟨w9.heap.size + 1 + 1, 0, none⟩) 2 2, .slice (some ⟨w9.heap.size + 1 + 1 + 1, 0, none⟩) 1 1]] L1 rfl rfl (by simp) (fun i h => by
    match i, h with
    | 0, _ => exact ⟨⟨(some ⟨w9.heap.size, 0, none⟩), 2, (some ⟨w9.heap.size + 1, 0, none⟩), 1⟩, rfl, ints_of a0 [0, 1] rfl (i64_lit rfl) (by decide), ints_of a1 [0] rfl (i64_lit rfl) (by decide), ⟨by show (-9223372036854775808 : Int) ≤ 0; decide, by show (0 : Int) ≤ 9223372036854775807; decide⟩, Nat.le_refl 2, Nat.le_refl 1⟩
    | 1, _ => exact ⟨⟨(some ⟨w9.heap.size + 1 + 1, 0, none⟩), 2, (some ⟨w9.heap.size + 1 + 1 + 1, 0, none⟩), 1⟩, rfl, ints_of a2 [0, 2] rfl (i64_lit rfl) (by decide), ints_of a3 [0] rfl (i64_lit rfl) (by decide), ⟨by show (-9223372036854775808 : Int) ≤ 0; decide, by show (0 : Int) ≤ 9223372036854775807; decide⟩, Nat.le_refl 2, Nat.le_refl 1⟩) (by decide)
  refine (sameAll_ok Wf E3 (some ⟨w9.heap.size + 1 + 1 + 1 + 1, 0, none⟩) ec3 2 L1 L1 (rL3.to xWf) hL).mono ?_
  rintro e w10 hr
  rw [v_same] at hr
  obtain ⟨rfl, y10⟩ := hr
  replace x0 := (x0.tr xWf).tr y10
  clear a0 a1 a2 a3 a4 hL rL3 rL4 xWf y10
  go_wp2_with fail
  go_ret
  exact ⟨rfl, x0⟩
end Go.Proofs.YtimkijmjbnmcbaaGreat
