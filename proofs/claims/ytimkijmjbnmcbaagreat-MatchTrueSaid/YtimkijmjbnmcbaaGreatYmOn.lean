/- Contracts: Choices and Removes (the reference). -/
import Derived.Laws.AppendOwnNone
import Derived.Test.YtimkijmjbnmcbaaGreatYmOm
import Derived.Test.YtimkijmjbnmcbaaGreatYm19
namespace Go.Proofs.YtimkijmjbnmcbaaGreat
open Go Go.RowKit
/-! ### Removes. -/
/-! ### Choices. -/
theorem IntBlk.kbz {K : Nat → Prop} {W W' : World} {b : Nat} (h : IntBlk W b) (hk : KB K W W') (hb : K b) : IntBlk W' b := by
  obtain ⟨cs, r, hc⟩ := h
  exact ⟨cs, r, (hk.block b (Array.getElem?_eq_some_iff.1 hc).1 hb).trans hc⟩
/-- A list of integers; nil has no room. -/
def RRowZ (b0 : Nat) (w : World) (vs : List Value) (l : List Int) : Prop := ∃ A c, vs = [.slice A l.length c] ∧ RInts w A l ∧ (A = none → c = 0) ∧ l.length ≤ c ∧ ∀ ad, A = some ad → 0 < l.length → IntBlk w ad.block ∧ b0 ≤ ad.block
theorem RRowZ.keeps {b0 : Nat} : Keeps (RRowZ b0) := fun _ _ _ _ hb ⟨A, c, e, h, h2, h3, h4⟩ => ⟨A, c, e, h.to hb, h2, h3, fun ad e hp => ⟨(h4 ad e hp).1.kbz (KB.of_ext (K := fun _ => True) hb) trivial, (h4 ad e hp).2⟩⟩
def ERowZ (b0 : Nat) : ETy (List Int) where
  et := 22
  st := 23
  size := 1
  bytes := 24
  z := .slice none 0 0
  R := RRowZ b0
  under := by kernel_rfl
  info := by
    obtain ⟨i, h1, h2, h3, h4⟩ := info_parts (P := Tryz.prog) (e := 22) (z := .slice none 0 0) (size := 1) (bytes := 24) (by kernel_rfl)
    exact ⟨i, h1, h2, h3, h4⟩
  zsize := rfl
  pos := by decide
  len := by rintro w vs x ⟨A, c, rfl, -⟩; exact ⟨rfl, by simp [Value.oneCell']⟩
  keep := RRowZ.keeps
/-- 'append(s, t...)': t nil or not. -/
theorem app_src {ops : Array Oper} {rest : List Oper} {o : Oper} {a : Act} {Q : Exit → Act → World → Prop} {w : World} (w0 : World) (hx0 : Ext w0 w) (hgd : o.guard = none) (s x : Operand) (ho : o.op = Op.call { callee := Callee.builtin Builtin.append, args := #[s, x], argTypes := #[22, 22] })
    (A : Option Addr) (n c0 : Nat) (l : List Int) (hs : a.eval s = .slice A n c0) (hown : OwnI w w0.heap.size (.slice A n c0) l) (B : Option Addr) (m c : Nat) (hx : a.eval x = .slice B m c) (hz : B = none → c = 0) (news : List Int) (hm : news.length = m) (hr : RInts w B news) (hl : l.length + news.length ≤ 17592186044416)
    (h : ∀ (A' : Option Addr) (c' : Nat) (w' : World), OwnI w' w0.heap.size (.slice A' (n + m) c') (l ++ news) → Ext w0 w' → w.grownBy w' (Value.slice A n c0).ownBlock → wpList Tryz.prog ops Q rest (a.put o.dst (.slice A' (n + m) c')) w') :
    wpList Tryz.prog ops Q (o :: rest) a w := by
  obtain rfl := hown.lenEq
  cases B with
  | some ad => exact app_own w0 hx0 hgd s x ho A l.length c0 l hs rfl hown ad m c hx news hm (fun j hj => hr.cells j hj) hr.i64 hl (fun A' c' w' h1 h2 h3 => h A' c' w' (h1.as (by simp [hm]) rfl) h2 h3)
  | none =>
    have hn : news = [] := by
      cases news with
      | nil => rfl
      | cons y l => obtain ⟨ad, e, _⟩ := hr.2 (by simp); cases e
    subst hn
    obtain rfl : m = 0 := by simpa using hm.symm
    rw [hz rfl] at hx
    obtain ⟨i, hi1, hz1, hsz, hby⟩ := info_parts (P := Tryz.prog) (e := 3) (z := .int .i64 0) (size := 1) (bytes := 8) (by kernel_rfl)
    refine wpList_append_own_none hgd s x 22 ho w0.heap.size 3 i 1 (by kernel_rfl) hi1 _ l.length _ hs hown.row hx ?_
    exact h A c0 w (by rw [List.append_nil]; exact hown) hx0 (World.grownBy.refl w _)
/-- The first numbers tried. -/
def stepTo (l : List Int) (a : Nat) : List (List Int) := (List.range a).flatMap fun a : Nat => if memB l (a : Int) then [] else [l ++ [(a : Int)]]
theorem stepTo_succ (l : List Int) (a : Nat) : stepTo l (a + 1) = stepTo l a ++ if memB l (a : Int) then [] else [l ++ [(a : Int)]] := by
  unfold stepTo; rw [List.range_succ, List.flatMap_append]; simp
theorem stepTo_len (l : List Int) (a : Nat) : (stepTo l a).length ≤ a := by
  induction a with
  | zero => simp [stepTo]
  | succ a ih => rw [stepTo_succ, List.length_append]; split <;> simp <;> omega
def nextTo (n : Int) (cs : List (List Int)) (j : Nat) : List (List Int) := (cs.take j).flatMap (stepC n)
theorem nextTo_succ {n : Int} {cs : List (List Int)} {j : Nat} (h : j < cs.length) : nextTo n cs (j + 1) = nextTo n cs j ++ stepTo cs[j] n.toNat := by
  unfold nextTo; rw [List.take_succ_eq_append_getElem h, List.flatMap_append]; simp [stepC, stepTo]
theorem nextTo_len {n : Int} {cs : List (List Int)} : ∀ j, (nextTo n cs j).length ≤ j * n.toNat
  | 0 => by simp [nextTo]
  | j + 1 => by
    by_cases h : j < cs.length
    · rw [nextTo_succ h, List.length_append]
      have := nextTo_len (n := n) (cs := cs) j
      have := stepTo_len cs[j] n.toNat
      rw [Nat.succ_mul]; omega
    · have e : nextTo n cs (j + 1) = nextTo n cs j := by unfold nextTo; rw [List.take_of_length_le (by omega), List.take_of_length_le (by omega)]
      rw [e]
      have := nextTo_len (n := n) (cs := cs) j
      rw [Nat.succ_mul]; omega
theorem choicesR_len {n : Int} (hn : n ≤ 256) : ∀ k, (choicesR n k).length ≤ 256 ^ k
  | 0 => by simp [choicesR]
  | k + 1 => by
    have e : choicesR n (k + 1) = nextTo n (choicesR n k) (choicesR n k).length := by unfold nextTo; rw [List.take_length]; rfl
    rw [e]
    have h1 := nextTo_len (n := n) (cs := choicesR n k) (choicesR n k).length
    have h2 := choicesR_len hn k
    have h3 : (choicesR n k).length * n.toNat ≤ 256 ^ k * 256 := Nat.mul_le_mul h2 (by omega)
    rw [Nat.pow_succ]; omega
theorem choicesR_long {n : Int} {k : Nat} {x : List Int} (h : x ∈ choicesR n k) : x.length = k := by
  rw [← chR_true] at h; exact (chR_in List.prefix_rfl h).1
/-- A list of rows. -/
def RetRows (w : World) (l : List (List Int)) (e : Ending) (w' : World) : Prop := ∃ A c, e = .returned (.slice A l.length c) ∧ RSl 1 (RRowZ w.heap.size) w' A l ∧ (∀ ad, A = some ad → w.heap.size ≤ ad.block) ∧ Ext w w'
theorem rowzAt {w : World} {b0 : Nat} {A : Option Addr} {l : List (List Int)} (h : RSl 1 (RRowZ b0) w A l) (k : Nat) (hk : k < l.length) :
    ∃ ad B c, A = some ad ∧ ad.block < w.heap.size ∧ w.cell? (ad.add k) = some (.slice B l[k].length c) ∧ RInts w B l[k] ∧ (B = none → c = 0) ∧ l[k].length ≤ c ∧ ∀ ad, B = some ad → 0 < l[k].length → IntBlk w ad.block ∧ b0 ≤ ad.block := by
  obtain ⟨ad, e, hb, hc⟩ := h.2 (by omega)
  obtain ⟨vs, _, ⟨B, c, rfl, hi, hz⟩, hv⟩ := hc k hk
  have := hv 0 (by simp)
  exact ⟨ad, B, c, e, hb, by simpa using this, hi, hz⟩
def midTo (n : Int) (cs : List (List Int)) (j a : Nat) : List (List Int) := nextTo n cs j ++ stepTo (row cs j) a
theorem midTo_zero (n : Int) (cs : List (List Int)) (j : Nat) : midTo n cs j 0 = nextTo n cs j := by simp [midTo, stepTo]
theorem midTo_no {n : Int} {cs : List (List Int)} {j a : Nat} (h : memB (row cs j) (a : Int) = true) : midTo n cs j (a + 1) = midTo n cs j a := by unfold midTo; rw [stepTo_succ, h]; simp
theorem midTo_yes {n : Int} {cs : List (List Int)} {j a : Nat} (h : memB (row cs j) (a : Int) = false) : midTo n cs j (a + 1) = midTo n cs j a ++ [row cs j ++ [(a : Int)]] := by unfold midTo; rw [stepTo_succ, h]; simp
theorem midTo_end {n : Int} {cs : List (List Int)} {j : Nat} (h : j < cs.length) : midTo n cs j n.toNat = nextTo n cs (j + 1) := by unfold midTo; rw [nextTo_succ h, row_eq h]
theorem midTo_len {n : Int} (hn : n ≤ 256) {cs : List (List Int)} (hc : cs.length ≤ 16777216) {j a : Nat} (hj : j < cs.length) (ha : a < n.toNat) : (midTo n cs j a).length < 5000000000 := by
  unfold midTo
  rw [List.length_append]
  have h1 := nextTo_len (n := n) (cs := cs) j
  have h2 := stepTo_len (row cs j) a
  have h3 : j * n.toNat ≤ 16777216 * 256 := Nat.mul_le_mul (by omega) (by omega)
  omega
theorem rowLie {b0 : Nat} {O : TSet} {w : World} {A : Option Addr} {n c : Nat} {l : List Int} (hn : n = l.length) (h : RInts w A l) (hz : A = none → c = 0) (hc : l.length ≤ c) (hb : ∀ ad, A = some ad → 0 < l.length → IntBlk w ad.block ∧ b0 ≤ ad.block) (ha : ∀ ad, A = some ad → 0 < l.length → ¬ O ad.block) : LieOff (ERowZ b0) O w [[.slice A n c]] [l] := by
  subst hn
  exact fun _ hk => ⟨⟨A, c, rfl, h.kb hk ha, hz, hc, fun ad e hp => ⟨(hb ad e hp).1.kbz hk (ha ad e hp), (hb ad e hp).2⟩⟩, trivial⟩
/-- The new row, ahead of its append. -/
theorem newRow {b0 : Nat} {wu w2 : World} {A2 Y : Option Addr} {n yc : Nat} {l : List Int} (hb0 : b0 ≤ wu.heap.size) (hA : ∀ k, blockOf A2 = some k → k < wu.heap.size) (hY : OwnI w2 wu.heap.size (.slice Y n yc) l) (hp : 0 < n) :
    LieOff (ERowZ b0) (offOf noT A2) (w2.alloc (.cells #[.slice Y n yc] 22)) [[.slice Y n yc]] [l] ∧
    ∀ j u, [[Value.slice Y n yc]].flatten[j]? = some u → (w2.alloc (.cells #[.slice Y n yc] 22)).cell? ((⟨w2.heap.size, 0, none⟩ : Addr).add j) = some u := by
  have hn := hY.lenEq
  obtain ⟨g, hg, h1, h2⟩ := hY.some_ hp
  refine ⟨rowLie hn (hY.ints.to ((Ext.rfl' _).al _)) (fun e => by rw [e] at hg; cases hg) (by rw [← hn]; exact hY.cap) (fun ad e _ => ⟨(hY.intBlk ad e).kbz (KB.of_ext (K := fun _ => True) ((Ext.rfl' _).al _)) trivial, by rw [hg] at e; injection e with e; subst e; show b0 ≤ g; omega⟩) (fun ad e _ => ?_), fun j u hu => ?_⟩
  · rintro (h | h)
    · exact h
    · rw [hg] at e
      injection e with e
      subst e
      have := hA _ h
      dsimp only at this
      omega
  · match j, hu with
    | 0, hu =>
      have := (Blk.new w2 22 #[.slice Y n yc]).cell 0
      simp at hu
      subst hu
      exact this
    | j + 1, hu => simp at hu
end Go.Proofs.YtimkijmjbnmcbaaGreat
