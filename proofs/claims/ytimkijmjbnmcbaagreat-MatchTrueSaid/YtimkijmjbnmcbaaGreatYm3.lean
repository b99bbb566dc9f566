/- Lists that a function owns, of whatever elements: made, appended to, stored into; what becomes of other blocks. More on owned lists: made whole, read as slices; lists of lists; literals. -/
import Derived.OwnWalkIn
import Derived.Test.YtimkijmjbnmcbaaGreatRows
import Derived.Test.YtimkijmjbnmcbaaGreatYm2
namespace Go.Proofs.YtimkijmjbnmcbaaGreat
open Go.RowKit

/-- A type of elements: how they lie in memory. -/
structure ETy (α : Type) where
  et : TypeId
  st : TypeId
  size : Nat
  bytes : Nat
  z : Value
  R : World → List Value → α → Prop
  under : Tryz.prog.underlying st = some (.slice et)
  info : ∃ i, Tryz.prog.info? et = some i ∧ i.zero = some z ∧ i.size = size ∧ i.bytes = bytes
  zsize : z.cells.size = size
  pos : 0 < size
  len : ∀ w vs x, R w vs x → vs.length = size ∧ ∀ u ∈ vs, u.oneCell' = true
  keep : ∀ w w' vs x, Ext w w' → R w vs x → R w' vs x

/-- The cells vs are the elements of l. -/
def Lie {α : Type} (E : ETy α) (w : World) : List (List Value) → List α → Prop
  | [], [] => True
  | vs :: vss, x :: l => E.R w vs x ∧ Lie E w vss l
  | _, _ => False
theorem Lie.to {α : Type} {E : ETy α} {w w' : World} (hb : Ext w w') : ∀ {vss : List (List Value)} {l : List α}, Lie E w vss l → Lie E w' vss l
  | [], [], _ => trivial
  | _ :: _, _ :: _, h => ⟨E.keep _ _ _ _ hb h.1, Lie.to hb h.2⟩
  | [], _ :: _, h => h.elim
  | _ :: _, [], h => h.elim
theorem Lie.app {α : Type} {E : ETy α} {w : World} : ∀ {vss uss : List (List Value)} {l m : List α}, Lie E w vss l → Lie E w uss m → Lie E w (vss ++ uss) (l ++ m)
  | [], _, [], _, _, h => h
  | _ :: _, _, _ :: _, _, h, k => ⟨h.1, Lie.app h.2 k⟩
  | [], _, _ :: _, _, h, _ => h.elim
  | _ :: _, _, [], _, h, _ => h.elim
theorem Lie.flat {α : Type} {E : ETy α} {w : World} : ∀ {vss : List (List Value)} {l : List α}, Lie E w vss l → vss.flatten.length = l.length * E.size ∧ ∀ u ∈ vss.flatten, u.oneCell' = true
  | [], [], _ => by simp
  | vs :: vss, x :: l, h => by
    have h1 := E.len _ _ _ h.1
    have h2 := Lie.flat h.2
    refine ⟨by simp only [List.flatten_cons, List.length_append, h1.1, h2.1, List.length_cons]; rw [Nat.succ_mul, Nat.add_comm], fun u hu => ?_⟩
    rw [List.flatten_cons, List.mem_append] at hu
    exact hu.elim (h1.2 u) (h2.2 u)
  | [], _ :: _, h => h.elim
  | _ :: _, [], h => h.elim
/-- The i-th element. -/
theorem Lie.at_ {α : Type} {E : ETy α} {w : World} : ∀ {vss : List (List Value)} {l : List α}, Lie E w vss l → ∀ (i : Nat) (hi : i < l.length), ∃ vs, E.R w vs l[i] ∧ ∀ (j : Nat) (hj : j < vs.length), vss.flatten[i * E.size + j]? = some vs[j]
  | [], [], _, i, hi => absurd hi (by simp)
  | vs :: vss, x :: l, h, 0, _ => ⟨vs, h.1, fun j hj => by simp [List.getElem?_append_left hj, hj]⟩
  | vs :: vss, x :: l, h, i + 1, hi => by
    obtain ⟨us, h1, h2⟩ := Lie.at_ h.2 i (by simpa using hi)
    refine ⟨us, h1, fun j hj => ?_⟩
    have hl := (E.len _ _ _ h.1).1
    rw [List.flatten_cons, List.getElem?_append_right (by rw [hl, Nat.succ_mul]; omega), hl, ← h2 j hj]
    congr 1
    rw [Nat.succ_mul]; omega
  | [], _ :: _, h, _, _ => h.elim
  | _ :: _, [], h, _, _ => h.elim
/-- The i-th element turned. -/
theorem Lie.set {α : Type} {E : ETy α} {w : World} {us : List Value} {y : α} (hy : E.R w us y) : ∀ {vss : List (List Value)} {l : List α}, Lie E w vss l → ∀ (i : Nat), i < l.length → Lie E w (vss.set i us) (l.set i y)
  | [], [], _, _, hi => absurd hi (by simp)
  | _ :: _, _ :: _, h, 0, _ => ⟨hy, h.2⟩
  | _ :: _, _ :: _, h, i + 1, hi => ⟨h.1, Lie.set hy h.2 i (by simpa using hi)⟩
  | [], _ :: _, h, _, _ => h.elim
  | _ :: _, [], h, _, _ => h.elim

/-- The list's block. -/
abbrev blockOf (A : Option Addr) : Option Nat := A.map (·.block)
/-- The blocks that may turn under the elements: the list's own, and those of T. -/
def offOf (T : TSet) (A : Option Addr) : TSet := fun k => T k ∨ blockOf A = some k
def noT : TSet := fun _ => False
/-- The elements' own memory lies off these blocks. -/
def LieOff {α : Type} (E : ETy α) (O : TSet) (w : World) (vss : List (List Value)) (l : List α) : Prop := ∀ w', KB (fun k => ¬ O k) w w' → Lie E w' vss l
theorem LieOff.lie {α : Type} {E : ETy α} {O : TSet} {w : World} {vss : List (List Value)} {l : List α} (h : LieOff E O w vss l) : Lie E w vss l := h w (KB.refl _ _)
theorem KB.seq {K K' : Nat → Prop} {a b c : World} (h : KB K a b) (k : KB K' b c) (hk : ∀ i, i < a.heap.size → K i → K' i) : KB K a c :=
  ⟨k.os.trans h.os, k.tape.trans h.tape, k.output.trans h.output, Nat.le_trans h.size k.size, fun i hi hh => (k.block i (Nat.lt_of_lt_of_le hi h.size) (hk i hi hh)).trans (h.block i hi hh)⟩
theorem LieOff.to {α : Type} {E : ETy α} {O O' : TSet} {w w' : World} {vss : List (List Value)} {l : List α} (h : LieOff E O w vss l) (hk : KB (fun k => ¬ O k) w w') (hO : ∀ k, k < w.heap.size → O' k → O k) : LieOff E O' w' vss l :=
  fun w'' h2 => h w'' (hk.seq h2 fun k hl hn ho => hn (hO k hl ho))
theorem LieOff.app {α : Type} {E : ETy α} {O : TSet} {w : World} {vss uss : List (List Value)} {l m : List α} (h : LieOff E O w vss l) (k : LieOff E O w uss m) : LieOff E O w (vss ++ uss) (l ++ m) := fun w' hw => (h w' hw).app (k w' hw)
theorem KB.of_grown {K : Nat → Prop} {w w' : World} {row : Option Nat} (h : w.grownBy w' row) (hr : ∀ k, row = some k → ¬ K k) : KB K w w' := (KB.refl K w).grown h fun k hk => .inr (hr k hk)

/-- The slice is the function's own (its block lies at 'base' or behind), and holds the elements of l. T: blocks that others may write. -/
def OwnG {α : Type} (E : ETy α) (w : World) (base : Nat) (T : TSet) (A : Option Addr) (n c : Nat) (l : List α) : Prop :=
  n = l.length ∧ ∃ vss, LieOff E (offOf T A) w vss l ∧ w.ownsRow base E.et E.size (.slice A n c) n vss.flatten
theorem OwnG.nil {α : Type} (E : ETy α) (w : World) (base : Nat) (T : TSet) : OwnG E w base T none 0 0 [] := ⟨rfl, [], fun _ _ => trivial, World.ownsRow_nil w base _ _⟩
theorem OwnG.as {α : Type} {E : ETy α} {w : World} {base : Nat} {T : TSet} {A : Option Addr} {n n' c : Nat} {l l' : List α} (h : OwnG E w base T A n c l) (hn : n = n') (hl : l = l') : OwnG E w base T A n' c l' := by subst hn hl; exact h
theorem OwnG.lt {α : Type} {E : ETy α} {w : World} {base : Nat} {T : TSet} {A : Option Addr} {n c : Nat} {l : List α} (h : OwnG E w base T A n c l) : ∀ k, blockOf A = some k → base ≤ k ∧ k < w.heap.size := by
  obtain ⟨hn, vss, h1, h2⟩ := h
  intro k hk
  refine h2.lt k ?_
  cases A with
  | none => cases hk
  | some a => exact hk
theorem ownsRow_kb {K : Nat → Prop} {w w' : World} {base : Nat} {e : TypeId} {size : Nat} {A : Option Addr} {n c : Nat} {xs : List Value} (h : w.ownsRow base e size (.slice A n c) n xs) (hb : KB K w w') (hK : ∀ k, blockOf A = some k → K k) : w'.ownsRow base e size (.slice A n c) n xs := by
  refine ⟨h.1, ?_⟩
  rcases h.2 with hn | ⟨g, cap, cur, e, hb', hg, rest⟩
  · exact .inl hn
  · refine .inr ⟨g, cap, cur, e, hb', (hb.block g (Array.getElem?_eq_some_iff.1 hg).1 (hK g ?_)).trans hg, rest⟩
    injection e with e1 e2 e3; subst e1; rfl
/-- It stays while others write blocks of T, and new ones. -/
theorem OwnG.stay {α : Type} {E : ETy α} {w w' : World} {base : Nat} {T T' : TSet} {A : Option Addr} {n c : Nat} {l : List α} (h : OwnG E w base T A n c l) (hk : KB (fun k => ¬ T k) w w') (hT' : ∀ k, k < w.heap.size → T' k → T k) (hA : ∀ k, blockOf A = some k → ¬ T k) : OwnG E w' base T' A n c l := by
  obtain ⟨hn, vss, h1, h2⟩ := h
  exact ⟨hn, vss, h1.to (hk.mono fun k _ h ht => h (.inl ht)) (fun k hl ho => ho.imp (hT' k hl) id), ownsRow_kb h2 hk hA⟩
theorem OwnG.to {α : Type} {E : ETy α} {w w' : World} {base : Nat} {T : TSet} {A : Option Addr} {n c : Nat} {l : List α} (h : OwnG E w base T A n c l) (hb : Ext w w') : OwnG E w' base T A n c l := by
  obtain ⟨hn, vss, h1, h2⟩ := h
  exact ⟨hn, vss, h1.to (KB.of_ext hb) (fun _ _ h => h), ownsRow_kb h2 (KB.of_ext (K := fun _ => True) hb) (fun _ _ => trivial)⟩
/-- What was there besides the list's own block. -/
theorem OwnG.ext {α : Type} {E : ETy α} {w0 w w' : World} {T : TSet} {A : Option Addr} {n c : Nat} {l : List α} (hx : Ext w0 w) (h : OwnG E w w0.heap.size T A n c l) (hg : w.grownBy w' (blockOf A)) : Ext w0 w' :=
  ⟨hg.os.trans hx.os, hg.tape.trans hx.tape, hg.output.trans hx.output, Nat.le_trans hx.size hg.size, fun b hb => (hg.block b (Nat.lt_of_lt_of_le hb hx.size) (fun e => by have := (h.lt b e.symm).1; omega)).trans (hx.block b hb)⟩

/-- 'append': what it gives, and where it lies. -/
theorem run_append_where {w : World} (base : Nat) (t ty e : TypeId) (i : TypeInfo) (z : Value) (size bytes : Nat) (ht : Tryz.prog.underlying t = some (.slice e)) (hi : Tryz.prog.info? e = some i) (hz : i.zero = some z)
    (hsize : i.size = size) (hby : i.bytes = bytes) (hzs : z.cells.size = size) (hsz : 0 < size)
    (A : Option Addr) (n c0 : Nat) (xs : List Value) (hown : w.ownsRow base e size (.slice A n c0) n xs)
    (a : Addr) (m c : Nat) (news : List Value) (hl : news.length = m * size) (hnews : ∀ j u, news[j]? = some u → w.cell? (a.add j) = some u) (h1 : ∀ u ∈ news, u.oneCell' = true)
    (h63 : n + m ≤ maxLen) (hbytes : (n + m) * bytes ≤ 140737488355328) (hbase : base ≤ w.heap.size) :
    ∃ A' c' w', (Builtin.append_ #[t, t] ty #[.slice A n c0, .slice (some a) m c]).run Tryz.prog w = .ok (.slice A' (n + m) c') w' ∧ w'.ownsRow base e size (.slice A' (n + m) c') (n + m) (xs ++ news) ∧ w.grownBy w' (blockOf A) ∧
      (A' = A ∨ ∃ g, A' = some ⟨g, 0, none⟩ ∧ w.heap.size ≤ g) := by
  obtain ⟨v', w', hr, h2, h3, h4⟩ := run_append_own (P := Tryz.prog) w base t ty e i z size bytes ht hi hz hsize hby hzs hsz _ n xs hown a m c news hl hnews h1 h63 hbytes hbase
  have hgr : w.grownBy w' (blockOf A) := by
    have : (Value.slice A n c0).ownBlock = blockOf A := by cases A <;> rfl
    rw [← this]; exact h3
  have hsmall : n + m ≤ 9223372036854775807 := by simp only [maxLen] at h63; omega
  subst hsize
  subst hby
  rcases hown.2 with ⟨e1, hn⟩ | ⟨g, cap, cur, e1, hbg, hg, hnc, hcm, hcs, htake⟩
  · injection e1 with e1 e2 e3
    subst e1 e2 e3
    by_cases hm : m = 0
    · subst hm
      obtain rfl := h4.2 ⟨rfl, rfl⟩
      exact ⟨none, 0, w', hr, h2, hgr, .inl rfl⟩
    · have hr2 := run_append_nil (P := Tryz.prog) w t ty e i z ht hi hz a m c news hl hnews (by omega) (by omega) (by have hb := hbytes; simp only [Nat.zero_add] at hb; omega)
      rw [hr] at hr2
      injection hr2 with e1 e2
      subst e1
      exact ⟨_, _, w', by rw [Nat.zero_add]; exact hr, by simpa using h2, hgr, .inr ⟨_, rfl, Nat.le_refl _⟩⟩
  · injection e1 with e1 e2 e3
    subst e1 e3
    by_cases hroom : n + m ≤ c0
    · have hfit : n * i.size + news.length ≤ cur.size := by rw [hl, hcs, ← Nat.add_mul]; exact Nat.mul_le_mul_right _ hroom
      have hr2 := run_append_room (P := Tryz.prog) w t ty e i ht hi g n c0 cur hg a m c news hl hnews h1 hroom hfit
      rw [hr] at hr2
      injection hr2 with e1 e2
      subst e1
      exact ⟨_, _, w', hr, h2, hgr, .inl rfl⟩
    · have holds : ∀ j u, xs[j]? = some u → w.cell? ((⟨g, 0, none⟩ : Addr).add j) = some u := hown.cells (g := g) rfl
      have hr2 := run_append_grow (P := Tryz.prog) w t ty e i z ht hi hz ⟨g, 0, none⟩ n c0 xs hown.1 holds a m c news hl hnews (by omega) (by omega) (growslice_fits (by omega) hbytes)
      rw [hr] at hr2
      injection hr2 with e1 e2
      subst e1
      exact ⟨_, _, w', hr, h2, hgr, .inr ⟨_, rfl, Nat.le_refl _⟩⟩

/-- A list behind an append: its words. -/
structure Grew {α : Type} (E : ETy α) (w : World) (base : Nat) (T : TSet) (A A' : Option Addr) (n' c' : Nat) (l' : List α) (w' : World) : Prop where
  own : OwnG E w' base T A' n' c' l'
  grown : w.grownBy w' (blockOf A)
  where_ : A' = A ∨ ∃ g, A' = some ⟨g, 0, none⟩ ∧ w.heap.size ≤ g
/-- Whatever stays off the list's block. -/
theorem Grew.kb {α : Type} {E : ETy α} {w w' : World} {base : Nat} {T : TSet} {A A' : Option Addr} {n' c' : Nat} {l' : List α} (h : Grew E w base T A A' n' c' l' w') {K : Nat → Prop} (hK : ∀ k, blockOf A = some k → ¬ K k) : KB K w w' := KB.of_grown h.grown hK

theorem grew_of {α : Type} (E : ETy α) {w : World} {base : Nat} (hbase : base ≤ w.heap.size) {T : TSet} {A : Option Addr} {n c0 : Nat} {l : List α} (hown : OwnG E w base T A n c0 l) {ad : Addr} {m c : Nat} {news : List α} (uss : List (List Value)) (hm : news.length = m)
    (hu : LieOff E (offOf T A) w uss news) (hc : ∀ j u, uss.flatten[j]? = some u → w.cell? (ad.add j) = some u) (hl : (n + m) * E.bytes ≤ 140737488355328) (hl2 : n + m ≤ maxLen) (ty : TypeId) :
    ∃ A' c' w', (Builtin.append_ #[E.st, E.st] ty #[.slice A n c0, .slice (some ad) m c]).run Tryz.prog w = .ok (.slice A' (n + m) c') w' ∧ Grew E w base T A A' (n + m) c' (l ++ news) w' := by
  obtain ⟨i, hi1, hz, hsz, hby⟩ := E.info
  obtain ⟨hn, vss, h1, h2⟩ := id hown
  have hf := hu.lie.flat
  obtain ⟨A', c', w', hr, ho, hg, hw⟩ := run_append_where (w := w) base E.st ty E.et i E.z E.size E.bytes E.under hi1 hz hsz hby E.zsize E.pos A n c0 vss.flatten h2 ad m c uss.flatten (by rw [hf.1, hm]) hc hf.2 hl2 hl hbase
  refine ⟨A', c', w', hr, ⟨by rw [List.length_append, hn, hm], vss ++ uss, ((h1.app hu).to (KB.of_grown hg fun k hk h => h (.inr hk)) fun k hl ho => ?_), by rw [List.flatten_append]; exact ho⟩, hg, hw⟩
  rcases ho with ho | ho
  · exact .inl ho
  · rcases hw with rfl | ⟨g, rfl, hge⟩
    · exact .inr ho
    · simp at ho; omega

/-- 'append' in a walk. -/
theorem app_g {α : Type} (E : ETy α) {ops : Array Oper} {rest : List Oper} {o : Oper} {a : Act} {Q : Exit → Act → World → Prop} {w : World} (base : Nat) (hbase : base ≤ w.heap.size) (hgd : o.guard = none) (s x : Operand) (ho : o.op = Op.call { callee := Callee.builtin Builtin.append, args := #[s, x], argTypes := #[E.st, E.st] })
    (T : TSet) (A : Option Addr) (n c0 : Nat) (l : List α) (hs : a.eval s = .slice A n c0) (hown : OwnG E w base T A n c0 l) (ad : Addr) (m c : Nat) (hx : a.eval x = .slice (some ad) m c) (news : List α) (uss : List (List Value)) (hm : news.length = m)
    (hu : LieOff E (offOf T A) w uss news) (hc : ∀ j u, uss.flatten[j]? = some u → w.cell? (ad.add j) = some u) (hl : (n + m) * E.bytes ≤ 140737488355328) (hl2 : n + m ≤ maxLen)
    (h : ∀ (A' : Option Addr) (c' : Nat) (w' : World), Grew E w base T A A' (n + m) c' (l ++ news) w' → wpList Tryz.prog ops Q rest (a.put o.dst (.slice A' (n + m) c')) w') :
    wpList Tryz.prog ops Q (o :: rest) a w := by
  refine wpList_plain hgd fun K hK => ?_
  obtain ⟨A', c', w', hr, hg⟩ := grew_of E hbase hown uss hm hu hc hl hl2 o.type (ad := ad) (c := c)
  unfold Oper.wp execOp
  simp only [ho, resolve, invoke, builtin, Sem.run_bind, Sem.run_pure, Result.andThen_ok, List.map_toArray, List.map_cons, List.map_nil, hs, hx, hr]
  exact hK _ _ (h A' c' w' hg)
/-- 'append' in a walk, within a round. -/
theorem app_gi {α : Type} (E : ETy α) {F : Fence} {nn : Nat} {ops : Array Oper} {rest : List Oper} {o : Oper} {a : Act} {Q : Exit → Act → World → Prop} {w : World} (base : Nat) (hbase : base ≤ w.heap.size) (hgd : o.guard = none) (s x : Operand) (ho : o.op = Op.call { callee := Callee.builtin Builtin.append, args := #[s, x], argTypes := #[E.st, E.st] })
    (T : TSet) (A : Option Addr) (n c0 : Nat) (l : List α) (hs : a.eval s = .slice A n c0) (hown : OwnG E w base T A n c0 l) (ad : Addr) (m c : Nat) (hx : a.eval x = .slice (some ad) m c) (news : List α) (uss : List (List Value)) (hm : news.length = m)
    (hu : LieOff E (offOf T A) w uss news) (hc : ∀ j u, uss.flatten[j]? = some u → w.cell? (ad.add j) = some u) (hl : (n + m) * E.bytes ≤ 140737488355328) (hl2 : n + m ≤ maxLen)
    (h : ∀ (A' : Option Addr) (c' : Nat) (w' : World), Grew E w base T A A' (n + m) c' (l ++ news) w' → wpListIn F nn Tryz.prog ops Q rest (a.put o.dst (.slice A' (n + m) c')) w') :
    wpListIn F nn Tryz.prog ops Q (o :: rest) a w := by
  refine wpListIn_plain hgd fun K hK => ?_
  obtain ⟨A', c', w', hr, hg⟩ := grew_of E hbase hown uss hm hu hc hl hl2 o.type (ad := ad) (c := c)
  unfold Oper.wpIn
  refine ⟨?_, ?_⟩
  · simp [Oper.about, ho, resolve, Target.leads, Sem.run_pure]
  · rw [Oper.semAt_plain F _ _ (by rw [ho]; exact fun c h => by cases h)]
    unfold execOp
    simp only [ho, resolve, invoke, builtin, Sem.run_bind, Sem.run_pure, Result.andThen_ok, List.map_toArray, List.map_cons, List.map_nil, hs, hx, hr]
    exact hK _ _ (h A' c' w' hg)

/-- Integers. -/
def EInt : ETy Int where
  et := 3
  st := 22
  size := 1
  bytes := 8
  z := .int .i64 0
  R := RInt
  under := by kernel_rfl
  info := by
    obtain ⟨i, h1, h2, h3, h4⟩ := info_parts (P := Tryz.prog) (e := 3) (z := .int .i64 0) (size := 1) (bytes := 8) (by kernel_rfl)
    exact ⟨i, h1, h2, h3, h4⟩
  zsize := rfl
  pos := by decide
  len := by rintro w vs x ⟨rfl, -⟩; exact ⟨rfl, by simp [Value.oneCell']⟩
  keep := fun _ _ _ _ _ h => h
theorem lieInt (O : TSet) (w : World) : ∀ (l : List Int), (∀ x ∈ l, I64 x) → LieOff EInt O w (l.map fun x => [.int .i64 x]) l
  | [], _ => fun _ _ => trivial
  | x :: l, h => fun w' hk => ⟨⟨rfl, h x (by simp)⟩, lieInt O w l (fun y hy => h y (List.mem_cons_of_mem _ hy)) w' hk⟩
theorem lieInt_eq {w : World} : ∀ {vss : List (List Value)} {l : List Int}, Lie EInt w vss l → vss.flatten = l.map (Value.int .i64) ∧ ∀ x ∈ l, I64 x
  | [], [], _ => by simp
  | _ :: vss, x :: l, ⟨⟨e, hx⟩, h⟩ => by
    subst e
    have := lieInt_eq h
    refine ⟨by simp [this.1], fun y hy => ?_⟩
    rcases List.mem_cons.1 hy with rfl | hy
    · exact hx
    · exact this.2 y hy
  | [], _ :: _, h => h.elim
  | _ :: _, [], h => h.elim
theorem OwnG.ints {w : World} {base : Nat} {T : TSet} {A : Option Addr} {n c : Nat} {l : List Int} (h : OwnG EInt w base T A n c l) (hl : n ≤ 17592186044416) : RInts w A l ∧ n = l.length := by
  obtain ⟨hn, vss, h1, h2⟩ := h
  obtain ⟨he, hi⟩ := lieInt_eq h1.lie
  refine ⟨⟨by rw [← hn]; omega, fun hp => ?_⟩, hn⟩
  rcases h2.2 with ⟨e, h0⟩ | ⟨g, cap, cur, e, hb, hg, -, -, -, -⟩
  · omega
  · injection e with e1 e2 e3
    subst e1
    refine ⟨_, rfl, (Array.getElem?_eq_some_iff.1 hg).1, fun i hi2 => ⟨[.int .i64 l[i]], rfl, ⟨rfl, hi _ (List.getElem_mem hi2)⟩, fun j hj => ?_⟩⟩
    obtain rfl : j = 0 := by simpa using hj
    have := h2.cells (g := g) rfl i (.int .i64 l[i]) (by rw [he]; simp [hi2])
    simpa using this
theorem lieInt_any {w w' : World} : ∀ {vss : List (List Value)} {l : List Int}, Lie EInt w vss l → Lie EInt w' vss l
  | [], [], _ => trivial
  | _ :: _, _ :: _, h => ⟨h.1, lieInt_any h.2⟩
  | [], _ :: _, h => h.elim
  | _ :: _, [], h => h.elim
/-- Integers stay whatever else turns. -/
theorem OwnG.kbInt {K : Nat → Prop} {w w' : World} {base : Nat} {T : TSet} {A : Option Addr} {n c : Nat} {l : List Int} (h : OwnG EInt w base T A n c l) (hk : KB K w w') (hA : ∀ k, blockOf A = some k → K k) (T' : TSet) : OwnG EInt w' base T' A n c l := by
  obtain ⟨hn, vss, h1, h2⟩ := h
  exact ⟨hn, vss, fun _ _ => lieInt_any h1.lie, ownsRow_kb h2 hk hA⟩
/-- 'append(s, v)': integers, within a round; the cell of v was made before. -/
theorem app_gi1 {F : Fence} {nn : Nat} {ops : Array Oper} {rest : List Oper} {o : Oper} {a : Act} {Q : Exit → Act → World → Prop} {w : World} (base : Nat) (hbase : base ≤ w.heap.size) (hgd : o.guard = none) (s x : Operand) (ho : o.op = Op.call { callee := Callee.builtin Builtin.append, args := #[s, x], argTypes := #[22, 22] })
    (T : TSet) (A : Option Addr) (n c0 : Nat) (l : List Int) (hs : a.eval s = .slice A n c0) (hown : OwnG EInt w base T A n c0 l) (g : Nat) (v : Int) (hx : a.eval x = .slice (some ⟨g, 0, none⟩) 1 1) (hc : w.cell? ⟨g, 0, none⟩ = some (.int .i64 v)) (hv : I64 v) (hl : n < 17592186044416)
    (h : ∀ (A' : Option Addr) (c' : Nat) (w' : World), Grew EInt w base T A A' (n + 1) c' (l ++ [v]) w' → wpListIn F nn Tryz.prog ops Q rest (a.put o.dst (.slice A' (n + 1) c')) w') :
    wpListIn F nn Tryz.prog ops Q (o :: rest) a w :=
  app_gi EInt base hbase hgd s x ho T A n c0 l hs hown ⟨g, 0, none⟩ 1 1 hx [v] [[.int .i64 v]] rfl (lieInt _ _ [v] (by simpa using hv)) (by
    intro j u hu
    match j, hu with
    | 0, hu => simp at hu; subst hu; simpa [Addr.add] using hc) (by show (n + 1) * 8 ≤ _; omega) (by simp [maxLen]; omega) h
end Go.Proofs.YtimkijmjbnmcbaaGreat
namespace Go.Proofs.YtimkijmjbnmcbaaGreat
open Go.RowKit

theorem OwnG.rsl {α : Type} {E : ETy α} {w : World} {base : Nat} {T : TSet} {A : Option Addr} {n c : Nat} {l : List α} (h : OwnG E w base T A n c l) (hl : n * (8 * E.size) ≤ 140737488355328) : RSl E.size E.R w A l := by
  obtain ⟨hn, vss, h1, h2⟩ := h
  refine ⟨by rw [← hn]; exact hl, fun hp => ?_⟩
  rcases h2.2 with ⟨e, h0⟩ | ⟨g, cap, cur, e, hb, hg, -, -, -, -⟩
  · omega
  · injection e with e1 e2 e3
    subst e1
    refine ⟨_, rfl, (Array.getElem?_eq_some_iff.1 hg).1, fun i hi => ?_⟩
    obtain ⟨vs, hr, hv⟩ := h1.lie.at_ i hi
    exact ⟨vs, (E.len _ _ _ hr).1, hr, fun j hj => h2.cells (g := g) rfl (i * E.size + j) vs[j] (hv j hj)⟩

/-- Lists of integers as elements. -/
def ERow : ETy (List Int) where
  et := 22
  st := 23
  size := 1
  bytes := 24
  z := .slice none 0 0
  R := RRow
  under := by kernel_rfl
  info := by
    obtain ⟨i, h1, h2, h3, h4⟩ := info_parts (P := Tryz.prog) (e := 22) (z := .slice none 0 0) (size := 1) (bytes := 24) (by kernel_rfl)
    exact ⟨i, h1, h2, h3, h4⟩
  zsize := rfl
  pos := by decide
  len := by rintro w vs x ⟨A, c, rfl, -⟩; exact ⟨rfl, by simp [Value.oneCell']⟩
  keep := fun _ _ _ _ hb h => RRow.keeps _ _ _ _ hb h

theorem lie_rep {α : Type} {E : ETy α} {w : World} {vs : List Value} {x : α} (h : E.R w vs x) : ∀ n, Lie E w (List.replicate n vs) (List.replicate n x)
  | 0 => trivial
  | n + 1 => ⟨h, lie_rep h n⟩
/-- 'make([]T, n)': n times the zero value, which reads as x0 whatever the world. -/
theorem make_g {α : Type} (E : ETy α) {ops : Array Oper} {rest : List Oper} {o : Oper} {a : Act} {Q : Exit → Act → World → Prop} {w : World} (hgd : o.guard = none) (l c : Operand) (ho : o.op = Op.makeSlice E.st l c)
    (n : Nat) (L C : Int) (hl : a.eval l = .int .i64 L) (hc : a.eval c = .int .i64 C) (hL : L = n) (hC : C = n) (hn : n ≤ maxLen) (hb : E.bytes * n ≤ 281474976710656) (x0 : α) (hx0 : ∀ w, E.R w E.z.cells.toList x0) (h1 : E.size = 1)
    (h : ∀ w' : World, OwnG E w' w.heap.size noT (some ⟨w.heap.size, 0, none⟩) n n (List.replicate n x0) → Ext w w' → w.grownBy w' none → wpList Tryz.prog ops Q rest (a.put o.dst (.slice (some ⟨w.heap.size, 0, none⟩) n n)) w') :
    wpList Tryz.prog ops Q (o :: rest) a w := by
  obtain ⟨i, hi1, hz, hsz, hby⟩ := E.info
  refine wpList_make_full w hgd l c E.st ho w.heap.size E.et i E.z E.size E.under hi1 hz hsz .i64 .i64 L C n hl hc hL hC (by rw [hby]; exact hb) hn (Nat.le_refl _) ?_
  intro w' hr hg
  refine h w' ⟨by simp, List.replicate n E.z.cells.toList, fun w'' _ => lie_rep (hx0 w'') n, ?_⟩ ⟨hg.os, hg.tape, hg.output, hg.size, fun b hb => hg.block b hb (by simp)⟩ hg
  have hz1 := E.zsize
  rw [h1] at hz1
  obtain ⟨zv, hzv⟩ : ∃ zv, E.z.cells = #[zv] := by
    obtain ⟨v, hv⟩ := List.length_eq_one_iff.1 (show E.z.cells.toList.length = 1 by simpa using hz1)
    exact ⟨v, by rw [← Array.toArray_toList (xs := E.z.cells), hv]⟩
  have e1 : (madeCells E.z.cells (n * E.size)).toList = (List.replicate n E.z.cells.toList).flatten := by
    rw [h1, Nat.mul_one, hzv, toList_madeCells_one]; simp
  rw [← e1]
  exact hr

theorem Blk.to {w w' : World} {g : Nat} {t : TypeId} {cs : Array Value} (h : Blk w g t cs) (hb : Ext w w') : Blk w' g t cs := h.ext hb
/-- A literal list. -/
theorem RInts.lit (W : World) (g : Nat) (hg : W.heap.size = g) (t : TypeId) (l : List Int) (cs : Array Value) (hcs : cs = (l.map (Value.int .i64)).toArray) (hi : ∀ x ∈ l, I64 x) (hl : l.length ≤ 1000) : RInts (W.alloc (.cells cs t)) (some ⟨g, 0, none⟩) l := by
  subst hg hcs
  refine ⟨by omega, fun _ => ⟨_, rfl, by simp, fun i hi2 => ⟨[.int .i64 l[i]], rfl, ⟨rfl, hi _ (List.getElem_mem hi2)⟩, fun j hj => ?_⟩⟩⟩
  obtain rfl : j = 0 := by simpa using hj
  have e2 : (⟨W.heap.size, 0, none⟩ : Addr).add (i * 1 + 0) = ⟨W.heap.size, i, none⟩ := by unfold Addr.add; simp; intro h; exact h.symm
  rw [e2, (Blk.new W t _).cell]
  simp [hi2]
end Go.Proofs.YtimkijmjbnmcbaaGreat
