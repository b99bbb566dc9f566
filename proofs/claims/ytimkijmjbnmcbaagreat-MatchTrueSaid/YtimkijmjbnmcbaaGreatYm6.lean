/- Contracts of small functions on lists of integers: what each returns, and that nothing that was there turns. Lists of integers that a function owns: made, appended to, stored into. More on lists that a function owns. -/
import Derived.Test.YtimkijmjbnmcbaaGreatRows
import Derived.Test.YtimkijmjbnmcbaaGreatYm1
namespace Go.Proofs.YtimkijmjbnmcbaaGreat
open Go.RowKit

set_option maxHeartbeats 400000 in
theorem dead_ok (w : World) (A : Option Addr) (c : Nat) (l : List Int) (h : RInts w A l) :
    Calls Tryz.prog 47 #[.slice A l.length c] w fun e w' => e = .returned (.bool (l.any (· == 0))) ∧ w = w' := by
  have hl := h.len
  go_enter Tryz.func47, Tryz.ntmps47
  go_wp2
  go_loop [7, 4] (fun i _ => ∃ k : Nat, k ≤ l.length ∧ i = .int .i64 k ∧ Hid ((l.take k).any (· == 0) = false)) (fun i _ => l.length - (intOf i).toNat)
  case atStart => exact ⟨0, Nat.zero_le _, rfl, rfl⟩
  case round =>
    obtain ⟨k, hk, rfl, hno⟩ := hrel
    by_cases hlt : k < l.length
    · obtain ⟨ad, rfl, _, hc, _⟩ := h.at_ k hlt
      go_wp2
      · have hz : (l[k] == 0) = true := by assumption
        go_ret
        exact ⟨ret_bool (any_of_at k hlt hz).symm, rfl⟩
      · have hz : (l[k] == 0) = false := by assumption
        exact ⟨⟨k + 1, by omega, by go_num, any_on hlt hno hz⟩, by simp [intOf]; omega⟩
    · go_wp2
      go_ret
      exact ⟨ret_bool (any_end hno hlt).symm, rfl⟩

set_option maxHeartbeats 400000 in
theorem within1_ok (w : World) (x lo hi : Int) (a b : Addr) (ha : w.cell? a = some (.int .i64 lo)) (hb : w.cell? b = some (.int .i64 hi)) :
    Calls Tryz.prog 103 #[.int .i64 x, .pointer (some a), .pointer (some b)] w fun e w' => e = .returned (.bool (decide (x < lo) || decide (hi < x))) ∧ w = w' := by
  by_cases h1 : x < lo
  · go_enter Tryz.func103, Tryz.ntmps103
    go_wp2
    go_ret
    exact ⟨ret_bool (by simp [h1]), rfl⟩
  · go_enter Tryz.func103, Tryz.ntmps103
    go_wp2
    go_ret
    exact ⟨ret_bool (by simp; omega), rfl⟩

/-- What a function value has to do for the elements of a list of integers: it answers p, and turns nothing that was there. -/
def AskInt (w : World) (k : Nat) (caps : Array Value) (p : Int → Bool) (l : List Int) : Prop :=
  ∀ W x, Ext w W → x ∈ l → Calls Tryz.prog k (#[.int .i64 x] ++ caps) W fun e W' => e = .returned (.bool (p x)) ∧ Ext W W'

set_option maxHeartbeats 400000 in
theorem indexFuncInt_ok (w : World) (A : Option Addr) (c : Nat) (l : List Int) (h : RInts w A l) (k : Nat) (caps : Array Value) (p : Int → Bool) (hcf : ∀ xs W, (callFunc k xs).run Tryz.prog W = .ok (.enter k xs) W) (ask : AskInt w k caps p l) :
    Calls Tryz.prog 106 #[.slice A l.length c, .func (.func k) #[] caps] w fun e w' => e = .returned (.int .i64 (idx p l)) ∧ Ext w w' := by
  have hl := h.len
  have Hask := hid ask; clear ask
  go_enter Tryz.func106, Tryz.ntmps106
  go_wp2_with fail
  go_loopw [8] (fun i wr => ∃ k : Nat, k ≤ l.length ∧ i = .int .i64 k ∧ Hid ((l.take k).any p = false) ∧ Ext w wr) (fun i _ => l.length - (intOf i).toNat)
  case atStart => exact ⟨0, Nat.zero_le _, rfl, rfl, Ext.rfl' _⟩
  case round =>
    obtain ⟨j, hj, rfl, hno, hext⟩ := hrel
    by_cases hlt : j < l.length
    · obtain ⟨ad, rfl, _, hc, _⟩ := (h.to hext).at_ j hlt
      go_wp2_with fail
      refine (Hask.out wr l[j] hext (List.getElem_mem _)).mono ?_
      rintro e w1 ⟨rfl, hb⟩
      have hext1 := Ext.tr hext hb
      go_wp2_with fail
      · have hz : p l[j] = true := by assumption
        go_ret
        exact ⟨ret_int (idx_found hlt hno hz).symm, hext1⟩
      · have hz : p l[j] = false := by assumption
        go_roundw
        case rel => exact ⟨j + 1, by omega, by go_num, any_on hlt hno hz, hext1⟩
        case measure => simp [intOf]; omega
    · go_wp2_with fail
      go_ret
      exact ⟨ret_int (idx_none (any_end hno hlt)).symm, hext⟩

set_option maxHeartbeats 400000 in
theorem containsFuncInt_ok (w : World) (A : Option Addr) (c : Nat) (l : List Int) (h : RInts w A l) (k : Nat) (caps : Array Value) (p : Int → Bool) (hcf : ∀ xs W, (callFunc k xs).run Tryz.prog W = .ok (.enter k xs) W) (ask : AskInt w k caps p l) :
    Calls Tryz.prog 102 #[.slice A l.length c, .func (.func k) #[] caps] w fun e w' => e = .returned (.bool (l.any p)) ∧ Ext w w' := by
  have Hask := hid ask; clear ask
  go_enter Tryz.func102, Tryz.ntmps102
  go_wp2_with fail
  refine (indexFuncInt_ok w A c l h k caps p hcf Hask.out).mono ?_
  rintro e w1 ⟨rfl, hb⟩
  go_wp2_with fail
  go_ret
  exact ⟨ret_bool (idx_nonneg p l), hb⟩

/-- Are numbers in a range? -/
def inB (lo hi : Int) (l : List Int) : Bool := l.all fun x => decide (lo ≤ x) && decide (x ≤ hi)

set_option maxHeartbeats 400000 in
theorem within_ok (w : World) (A : Option Addr) (c : Nat) (l : List Int) (h : RInts w A l) (lo hi : Int) :
    Calls Tryz.prog 92 #[.slice A l.length c, .int .i64 lo, .int .i64 hi] w fun e w' => e = .returned (.bool (inB lo hi l)) ∧ Ext w w' := by
  have hn : ∀ W, Ext ((w.alloc (.cells #[.int .i64 lo] 3)).alloc (.cells #[.int .i64 hi] 3)) W → W.cell? ⟨w.heap.size, 0, none⟩ = some (.int .i64 lo) ∧ W.cell? ⟨w.heap.size + 1, 0, none⟩ = some (.int .i64 hi) :=
    fun W hW => ⟨cellE hW (by simp [go_sem]) (by simp; omega), cellE hW (by simp [go_sem]) (by simp)⟩
  have H := hid hn; clear hn
  go_enter Tryz.func92, Tryz.ntmps92
  go_wp2_with fail
  refine (containsFuncInt_ok _ A c l (h.to (((Ext.rfl' w).al _).al _)) 103 _ (fun x => decide (x < lo) || decide (hi < x)) (fun _ _ => by kernel_rfl) (fun W x hW _ => ?_)).mono ?_
  · exact (within1_ok W x lo hi _ _ (H.out W hW).1 (H.out W hW).2).mono fun e W' ⟨he, hw⟩ => ⟨he, by subst hw; exact Ext.rfl' _⟩
  rintro e w1 ⟨rfl, hb⟩
  go_wp2_with fail
  go_ret
  refine ⟨ret_bool ?_, Ext.tr (((Ext.rfl' w).al _).al _) hb⟩
  unfold inB
  rw [List.not_any_eq_all_not]
  congr 1
  funext x
  simp [Bool.not_or, ← decide_not]
end Go.Proofs.YtimkijmjbnmcbaaGreat
namespace Go.Proofs.YtimkijmjbnmcbaaGreat
open Go.RowKit

/-- The slice v is the function's own (its block lies at 'base' or behind), and holds the integers of l. -/
structure OwnI (w : World) (base : Nat) (v : Value) (l : List Int) : Prop where
  row : w.ownsRow base 3 1 v l.length (l.map (Value.int .i64))
  i64 : ∀ x ∈ l, I64 x
  len : l.length ≤ 17592186044416

theorem OwnI.nil (w : World) (base : Nat) : OwnI w base (.slice none 0 0) [] := ⟨World.ownsRow_nil w base _ 1, by simp, by simp⟩
theorem OwnI.form {w : World} {base : Nat} {v : Value} {l : List Int} (h : OwnI w base v l) : ∃ A c, v = .slice A l.length c ∧ RInts w A l ∧ ∀ ad, A = some ad → ad.block < w.heap.size ∧ base ≤ ad.block := by
  rcases h.row.2 with ⟨e, hn⟩ | ⟨g, cap, cur, e, hb, hg, h1, h2, h3, h4⟩
  · obtain rfl : l = [] := List.length_eq_zero_iff.1 hn
    exact ⟨none, 0, e, RInts.nil _ _, by simp⟩
  · have hlt : g < w.heap.size := (Array.getElem?_eq_some_iff.1 hg).1
    refine ⟨some ⟨g, 0, none⟩, cap, e, ⟨by have := h.len; omega, fun _ => ⟨_, rfl, hlt, fun i hi => ⟨[.int .i64 l[i]], rfl, ⟨rfl, h.i64 _ (List.getElem_mem hi)⟩, fun j hj => ?_⟩⟩⟩, fun ad ha => by injection ha with ha; subst ha; exact ⟨hlt, hb⟩⟩
    obtain rfl : j = 0 := by simpa using hj
    have e2 : (⟨g, 0, none⟩ : Addr).add (i * 1 + 0) = ⟨g, i, none⟩ := by
      unfold Addr.add; simp; intro h; exact h.symm
    rw [e2]
    have := World.ownsRow.cellAt (xs := l.map (Value.int .i64)) (w := w) (base := base) (e := 3) (size := 1) (g := g) (n := l.length) (cap := cap) (by rw [← e]; exact h.row) i (by omega)
    rw [this]; simp [hi]
theorem Ext.grown {w0 w w' : World} {row : Option Nat} (h : Ext w0 w) (hg : w.grownBy w' row) (hrow : ∀ k, row = some k → w0.heap.size ≤ k) : Ext w0 w' :=
  ⟨hg.os.trans h.os, hg.tape.trans h.tape, hg.output.trans h.output, Nat.le_trans h.size hg.size, fun b hb => (hg.block b (Nat.lt_of_lt_of_le hb h.size) (fun e => by have := hrow b e.symm; omega)).trans (h.block b hb)⟩
theorem OwnI.grown {w0 w w' : World} {v : Value} {l : List Int} (h : Ext w0 w) (ho : OwnI w w0.heap.size v l) (hg : w.grownBy w' v.ownBlock) : Ext w0 w' := h.grown hg (fun k hk => (ho.row.lt k hk).1)
theorem OwnI.drN {w : World} {base : Nat} {v : Value} {l : List Int} (h : OwnI w base v l) (n : Nat) : OwnI (w.drewN n) base v l := ⟨h.row, h.i64, h.len⟩
/-- An own list stays while nothing that was there turns. -/
theorem OwnI.to {w w' : World} {base : Nat} {v : Value} {l : List Int} (h : OwnI w base v l) (hb : Ext w w') : OwnI w' base v l := by
  refine ⟨⟨h.row.1, ?_⟩, h.i64, h.len⟩
  rcases h.row.2 with hn | ⟨g, cap, cur, e, hb', hg, rest⟩
  · exact .inl hn
  · exact .inr ⟨g, cap, cur, e, hb', (hb.block g (Array.getElem?_eq_some_iff.1 hg).1).trans hg, rest⟩

/-- 'append': the new elements lie at 'ad'. w0: the world since which nothing that was there has turned. -/
theorem app_own {ops : Array Oper} {rest : List Oper} {o : Oper} {a : Act} {Q : Exit → Act → World → Prop} {w : World} (w0 : World) (hx0 : Ext w0 w) (hgd : o.guard = none) (s x : Operand) (ho : o.op = Op.call { callee := Callee.builtin Builtin.append, args := #[s, x], argTypes := #[22, 22] })
    (A : Option Addr) (n c0 : Nat) (l : List Int) (hs : a.eval s = .slice A n c0) (hn : n = l.length) (hown : OwnI w w0.heap.size (.slice A l.length c0) l) (ad : Addr) (m c : Nat) (hx : a.eval x = .slice (some ad) m c) (news : List Int) (hm : news.length = m)
    (hc : ∀ (j : Nat) (h : j < news.length), w.cell? (ad.add j) = some (.int .i64 news[j])) (hi : ∀ x ∈ news, I64 x) (hl : l.length + news.length ≤ 17592186044416)
    (h : ∀ (A' : Option Addr) (c' : Nat) (w' : World), OwnI w' w0.heap.size (.slice A' (l ++ news).length c') (l ++ news) → Ext w0 w' → w.grownBy w' (Value.slice A l.length c0).ownBlock → wpList Tryz.prog ops Q rest (a.put o.dst (.slice A' (n + m) c')) w') :
    wpList Tryz.prog ops Q (o :: rest) a w := by
  obtain ⟨i, hi1, hz, hsz, hby⟩ := info_parts (P := Tryz.prog) (e := 3) (z := .int .i64 0) (size := 1) (bytes := 8) (by kernel_rfl)
  subst hm hn
  refine wpList_append_own w hgd s x 22 ho w0.heap.size 3 i (.int .i64 0) 1 8 (by kernel_rfl) hi1 hz hsz hby rfl (by omega) _ l.length _ hs hown.row ad news.length c (news.map (Value.int .i64)) hx (by simp) ?_ ?_ (by simp [maxLen]; omega) (by omega) hx0.size ?_
  · intro j u hu
    obtain ⟨hj, rfl⟩ := List.getElem?_eq_some_iff.1 hu
    rw [List.getElem_map]
    exact hc j (by simpa using hj)
  · intro u hu
    obtain ⟨y, -, rfl⟩ := List.mem_map.1 hu
    rfl
  · intro v' w' hr hg _
    have h2 : w'.ownsRow w0.heap.size 3 1 v' (l ++ news).length ((l ++ news).map (Value.int .i64)) := by simpa using hr
    have h3 : OwnI w' w0.heap.size v' (l ++ news) := ⟨h2, fun x hx => (List.mem_append.1 hx).elim (hown.i64 x) (hi x), by simpa using hl⟩
    obtain ⟨A', c', rfl, -⟩ := h3.form
    have := h A' c' w' h3 (OwnI.grown hx0 hown hg) hg
    rwa [← List.length_append] at this

/-- A block that has just been made, of one cell. -/
theorem one_new (w : World) (t : TypeId) (x : Int) : ∀ (j : Nat) (h : j < [x].length), (w.alloc (.cells #[.int .i64 x] t)).cell? ((⟨w.heap.size, 0, none⟩ : Addr).add j) = some (.int .i64 [x][j]) := by
  intro j hj
  obtain rfl : j = 0 := by simpa using hj
  have := (Blk.new w t #[.int .i64 x]).cell 0
  simp [Addr.add, this]
/-- The same own list, spelled otherwise. -/
theorem OwnI.as {w : World} {base : Nat} {A : Option Addr} {n n' c : Nat} {l l' : List Int} (h : OwnI w base (.slice A n c) l) (hn : n = n') (hl : l = l') : OwnI w base (.slice A n' c) l' := by subst hn hl; exact h
theorem OwnI.ints {w : World} {base : Nat} {A : Option Addr} {n c : Nat} {l : List Int} (h : OwnI w base (.slice A n c) l) : RInts w A l := by
  obtain ⟨B, d, e, hr, -⟩ := h.form
  injection e with e1 e2 e3; subst e1; exact hr

theorem OwnI.lenEq {w : World} {base : Nat} {A : Option Addr} {n c : Nat} {l : List Int} (h : OwnI w base (.slice A n c) l) : n = l.length := by
  obtain ⟨B, d, e, -⟩ := h.form
  injection e
/-- 'append(s, v)'. -/
theorem app_one {ops : Array Oper} {rest : List Oper} {o : Oper} {a : Act} {Q : Exit → Act → World → Prop} {w : World} (w0 : World) (hx0 : Ext w0 w) (hgd : o.guard = none) (s x : Operand) (ho : o.op = Op.call { callee := Callee.builtin Builtin.append, args := #[s, x], argTypes := #[22, 22] })
    (A : Option Addr) (n c0 : Nat) (l : List Int) (hs : a.eval s = .slice A n c0) (hown : OwnI w w0.heap.size (.slice A n c0) l) (t : TypeId) (v : Int) (hx : a.eval x = .slice (some ⟨w.heap.size, 0, none⟩) 1 1) (hv : I64 v) (hl : n < 17592186044416)
    (h : ∀ (A' : Option Addr) (c' : Nat) (w' : World), OwnI w' w0.heap.size (.slice A' (n + 1) c') (l ++ [v]) → Ext w0 w' → (w.alloc (.cells #[.int .i64 v] t)).grownBy w' (Value.slice A n c0).ownBlock → wpList Tryz.prog ops Q rest (a.put o.dst (.slice A' (n + 1) c')) w') :
    wpList Tryz.prog ops Q (o :: rest) a (w.alloc (.cells #[.int .i64 v] t)) := by
  obtain rfl := hown.lenEq
  refine app_own w0 (hx0.al _) hgd s x ho A l.length c0 l hs rfl (hown.to ((Ext.rfl' _).al _)) ⟨w.heap.size, 0, none⟩ 1 1 hx [v] rfl (one_new _ _ _) (by simpa using hv) (by simp; omega) ?_
  intro A' c' w' h1 h2 h3
  exact h A' c' w' (h1.as (by simp) rfl) h2 h3

/-- 'make([]int, n)'. -/
theorem make_own {ops : Array Oper} {rest : List Oper} {o : Oper} {a : Act} {Q : Exit → Act → World → Prop} {w : World} (hgd : o.guard = none) (l c : Operand) (ho : o.op = Op.makeSlice 22 l c)
    (n : Nat) (L C : Int) (hl : a.eval l = .int .i64 L) (hc : a.eval c = .int .i64 C) (hL : L = n) (hC : C = n) (hn : n ≤ 17592186044416)
    (h : ∀ w' : World, OwnI w' w.heap.size (.slice (some ⟨w.heap.size, 0, none⟩) n n) (List.replicate n 0) → Ext w w' → w.grownBy w' none → wpList Tryz.prog ops Q rest (a.put o.dst (.slice (some ⟨w.heap.size, 0, none⟩) n n)) w') :
    wpList Tryz.prog ops Q (o :: rest) a w := by
  obtain ⟨i, hi1, hz, hsz, hby⟩ := info_parts (P := Tryz.prog) (e := 3) (z := .int .i64 0) (size := 1) (bytes := 8) (by kernel_rfl)
  refine wpList_make_full w hgd l c 22 ho w.heap.size 3 i (.int .i64 0) 1 (by kernel_rfl) hi1 hz hsz .i64 .i64 L C n hl hc hL hC (by rw [hby]; omega) (by simp [maxLen]; omega) (Nat.le_refl _) ?_
  intro w' hr hg
  have e : (List.replicate n (0 : Int)).length = n := by simp
  refine h w' ⟨?_, fun x hx => ?_, by simpa using hn⟩ ((Ext.rfl' w).grown hg (by simp)) hg
  · rw [e]
    have : (madeCells (Value.int .i64 0).cells (n * 1)).toList = (List.replicate n (0 : Int)).map (Value.int .i64) := by
      rw [List.map_replicate, Nat.mul_one]; exact toList_madeCells_one _ _
    rw [← this]; exact hr
  · rw [(List.mem_replicate.1 hx).2]; exact ⟨by decide, by decide⟩

/-- A store into the own list. -/
theorem OwnI.stored {w : World} {base : Nat} {ad : Addr} {c : Nat} {l : List Int} (h : OwnI w base (.slice (some ad) l.length c) l) (hp : 0 < l.length) (j : Nat) (x : Int) (hx : I64 x) :
    OwnI (w.setCell (ad.add j) (.int .i64 x)) base (.slice (some ad) (l.set j x).length c) (l.set j x) ∧ w.frozen? (ad.add j) = false := by
  rcases h.row.2 with ⟨e, hn⟩ | ⟨g, cap, cur, e, hb, hg, h1, h2, h3, h4⟩
  · omega
  · injection e with e1 e2 e3
    injection e1 with e1
    subst e1 e3
    have e2 : (⟨g, 0, none⟩ : Addr).add j = ⟨g, j, none⟩ := by unfold Addr.add; simp; intro h; exact h.symm
    rw [e2]
    refine ⟨⟨?_, ?_, by simpa using h.len⟩, h.row.frozenAt j⟩
    · have := (h.row.stored j (.int .i64 x)).1
      rw [List.length_set, List.map_set]; exact this
    · intro y hy
      rcases List.mem_or_eq_of_mem_set hy with h' | rfl
      · exact h.i64 _ h'
      · exact hx
/-- Where an own list lies. -/
theorem OwnI.some_ {w : World} {base : Nat} {A : Option Addr} {n c : Nat} {l : List Int} (h : OwnI w base (.slice A n c) l) (hp : 0 < n) : ∃ g, A = some ⟨g, 0, none⟩ ∧ base ≤ g ∧ g < w.heap.size := by
  have hn := h.lenEq
  rcases h.row.2 with ⟨e, h0⟩ | ⟨g, cap, cur, e, hb, hg, h1, h2, h3, h4⟩
  · omega
  · injection e with e1 e2 e3
    exact ⟨g, e1, hb, (Array.getElem?_eq_some_iff.1 hg).1⟩
/-- An element of an own list. -/
theorem OwnI.cellAt {w : World} {base g n c : Nat} {l : List Int} (h : OwnI w base (.slice (some ⟨g, 0, none⟩) n c) l) (j : Nat) (hj : j < n) : w.cell? ⟨g, j, none⟩ = some (.int .i64 (num l j)) ∧ w.frozen? ⟨g, j, none⟩ = false := by
  obtain rfl := h.lenEq
  have h1 := h.ints
  obtain ⟨ad, e, _, hc, _⟩ := h1.num (by omega)
  injection e with e; subst e
  have h2 := hc j hj
  have e2 : (⟨g, 0, none⟩ : Addr).add j = ⟨g, j, none⟩ := by unfold Addr.add; simp; intro h; exact h.symm
  rw [e2] at h2
  exact ⟨h2, h.row.frozenAt j⟩
/-- A store into it. -/
theorem OwnI.set_ {w : World} {base g n c : Nat} {l : List Int} (h : OwnI w base (.slice (some ⟨g, 0, none⟩) n c) l) (j : Nat) (hj : j < n) (x : Int) (hx : I64 x) : OwnI (w.setCell ⟨g, j, none⟩ (.int .i64 x)) base (.slice (some ⟨g, 0, none⟩) n c) (l.set j x) := by
  obtain rfl := h.lenEq
  have := (h.stored (by omega) j x hx).1
  have e2 : (⟨g, 0, none⟩ : Addr).add j = ⟨g, j, none⟩ := by unfold Addr.add; simp; intro h; exact h.symm
  rw [e2, List.length_set] at this
  exact this
theorem OwnI.ge {w : World} {base g n c : Nat} {l : List Int} (h : OwnI w base (.slice (some ⟨g, 0, none⟩) n c) l) (hp : 0 < n) : base ≤ g := by
  obtain ⟨g', e, hb, -⟩ := h.some_ hp
  injection e with e; injection e with e; omega
/-- '[]int{}'. -/
theorem OwnI.empty (w : World) : OwnI (w.alloc (.cells #[] 3)) w.heap.size (.slice (some ⟨w.heap.size, 0, none⟩) 0 0) [] := by
  refine ⟨?_, by simp, by simp⟩
  exact World.ownsRow_lit (base := w.heap.size) (e := 3) (size := 1) w #[] 0 (Nat.le_refl _) (by simp [maxLen]) rfl
end Go.Proofs.YtimkijmjbnmcbaaGreat
namespace Go.Proofs.YtimkijmjbnmcbaaGreat
open Go.RowKit

/-- 'append(s, v)', where the cell of v was made before. -/
theorem app_at {ops : Array Oper} {rest : List Oper} {o : Oper} {a : Act} {Q : Exit → Act → World → Prop} {w : World} (w0 : World) (hx0 : Ext w0 w) (hgd : o.guard = none) (s x : Operand) (ho : o.op = Op.call { callee := Callee.builtin Builtin.append, args := #[s, x], argTypes := #[22, 22] })
    (A : Option Addr) (n c0 : Nat) (l : List Int) (hs : a.eval s = .slice A n c0) (hown : OwnI w w0.heap.size (.slice A n c0) l) (g : Nat) (v : Int) (hx : a.eval x = .slice (some ⟨g, 0, none⟩) 1 1) (hc : w.cell? ⟨g, 0, none⟩ = some (.int .i64 v)) (hv : I64 v) (hl : n < 17592186044416)
    (h : ∀ (A' : Option Addr) (c' : Nat) (w' : World), OwnI w' w0.heap.size (.slice A' (n + 1) c') (l ++ [v]) → Ext w0 w' → w.grownBy w' (Value.slice A n c0).ownBlock → wpList Tryz.prog ops Q rest (a.put o.dst (.slice A' (n + 1) c')) w') :
    wpList Tryz.prog ops Q (o :: rest) a w := by
  obtain rfl := hown.lenEq
  refine app_own w0 hx0 hgd s x ho A l.length c0 l hs rfl hown ⟨g, 0, none⟩ 1 1 hx [v] rfl ?_ (by simpa using hv) (by simp; omega) ?_
  · intro j hj
    obtain rfl : j = 0 := by simpa using hj
    simpa [Addr.add] using hc
  · intro A' c' w' h1 h2 h3
    exact h A' c' w' (h1.as (by simp) rfl) h2 h3
end Go.Proofs.YtimkijmjbnmcbaaGreat
