/- Ranges over functions: what an iterator gives, and the law of the loop. An iterator may own blocks, and write them between two rounds; the body may write what it owns. No program is named here. -/
import Derived.RangeFuncNested
import Derived.RangeFuncBound
import Derived.RangeFuncCalls
import Derived.RangeFuncLeaves
import Derived.Test.YtimkijmjbnmcbaaGreatYm1
namespace Go.Proofs.YtimkijmjbnmcbaaGreat
open Go Go.RowKit

/-- What lies in the blocks of K lies as it lay. -/
structure KB (K : Nat → Prop) (W W' : World) : Prop where
  os : W'.os = W.os
  tape : W'.tape = W.tape
  output : W'.output = W.output
  size : W.heap.size ≤ W'.heap.size
  block : ∀ k, k < W.heap.size → K k → W'.heap[k]? = W.heap[k]?
theorem KB.refl (K : Nat → Prop) (W : World) : KB K W W := ⟨rfl, rfl, rfl, Nat.le_refl _, fun _ _ _ => rfl⟩
theorem KB.tr {K : Nat → Prop} {a b c : World} (h : KB K a b) (k : KB K b c) : KB K a c :=
  ⟨k.os.trans h.os, k.tape.trans h.tape, k.output.trans h.output, Nat.le_trans h.size k.size, fun i hi hk => (k.block i (Nat.lt_of_lt_of_le hi h.size) hk).trans (h.block i hi hk)⟩
theorem KB.mono {K K' : Nat → Prop} {a b : World} (h : KB K a b) (hk : ∀ k, k < a.heap.size → K' k → K k) : KB K' a b := ⟨h.os, h.tape, h.output, h.size, fun k hl hh => h.block k hl (hk k hl hh)⟩
theorem KB.of_ext {K : Nat → Prop} {a b : World} (h : Ext a b) : KB K a b := ⟨h.os, h.tape, h.output, h.size, fun k hk _ => h.block k hk⟩
theorem KB.put {K : Nat → Prop} {a : World} (l : Nat) (o : Obj) (hl : ¬ K l) : KB K a (a.putObj l o) :=
  ⟨rfl, rfl, rfl, by simp [World.putObj], fun k _ hk => World.putObj_heap_other (fun e => hl (e ▸ hk))⟩
theorem KB.set {K : Nat → Prop} {a b : World} (h : KB K a b) {p : Addr} (hp : a.heap.size ≤ p.block ∨ ¬ K p.block) (u : Value) : KB K a (b.setCell p u) :=
  ⟨h.os, h.tape, h.output, by rw [World.size_setCell]; exact h.size, fun k hk hh => (Below.heap_setCell b p u k (fun e => by subst e; rcases hp with hp | hp; omega; exact hp hh)).trans (h.block k hk hh)⟩
theorem KB.al {K : Nat → Prop} {a b : World} (h : KB K a b) (o : Obj) : KB K a (b.alloc o) := h.tr (KB.of_ext ((Ext.rfl' _).al o))
theorem KB.ext {K : Nat → Prop} {a b c : World} (h : KB K a b) (k : Ext b c) : KB K a c := h.tr (KB.of_ext k)
theorem KB.grown {K : Nat → Prop} {a b c : World} {row : Option Nat} (h : KB K a b) (k : b.grownBy c row) (hr : ∀ r, row = some r → a.heap.size ≤ r ∨ ¬ K r) : KB K a c :=
  ⟨k.os.trans h.os, k.tape.trans h.tape, k.output.trans h.output, Nat.le_trans h.size k.size, fun i hi hk => (k.block i (Nat.lt_of_lt_of_le hi h.size) (fun e => by
    rcases hr i e.symm with hr | hr
    · omega
    · exact hr hk)).trans (h.block i hi hk)⟩
theorem KB.below {K : Nat → Prop} {B : Nat} {a b : World} (h : KB K a b) (hB : B ≤ a.heap.size) (hK : ∀ k, k < B → K k) : Below B a b := ⟨h.os, h.tape, h.output, h.size, fun k hk => h.block k (by omega) (hK k hk)⟩

abbrev TSet := Nat → Prop
/-- J outlasts the iterator's own steps: it may write blocks of T and new ones; new blocks may join T. -/
def Stays {β : Type} (J : β → TSet → World → Prop) : Prop :=
  ∀ s T T' W W', J s T W → KB (fun k => ¬ T k) W W' → (∀ k, T k → T' k) → (∀ k, T' k → T k ∨ (W.heap.size ≤ k ∧ k < W'.heap.size)) → J s T' W'
theorem Stays.and {β : Type} {I J : β → TSet → World → Prop} (hI : Stays I) (hJ : Stays J) : Stays (fun s T W => I s T W ∧ J s T W) :=
  fun s T T' W W' h k1 k2 k3 => ⟨hI s T T' W W' h.1 k1 k2 k3, hJ s T T' W W' h.2 k1 k2 k3⟩
theorem Stays.ext {β : Type} {I : β → TSet → World → Prop} (hI : Stays I) {s : β} {T : TSet} {W W' : World} (h : I s T W) (hb : Ext W W') : I s T W' := hI s T T W W' h (KB.of_ext hb) (fun _ h => h) (fun _ h => .inl h)
theorem Stays.put {β : Type} {I : β → TSet → World → Prop} (hI : Stays I) {s : β} {T : TSet} {W : World} (h : I s T W) (l : Nat) (o : Obj) (hl : T l) : I s T (W.putObj l o) :=
  hI s T T W _ h (KB.put l o (fun hn => hn hl)) (fun _ h => h) (fun _ h => .inl h)

/-- What an iterator gives: for every loop body that keeps the blocks of Pr and those that the iterator owns: S xs: all has come; Sp pre: a part has come, a round having said 'no more'. Rv: what lies in memory at what is handed over. -/
def Seq (P : Program) {α : Type} (gf : Nat) (lb : Array Value) (encs : α → Array Value) (Pr : TSet) (Rv : TSet → World → α → Prop) (S Sp : List α → Prop) (w : World) : Prop :=
  ∀ (l : Nat) (J Jx : List α → TSet → World → Prop) (W : World), Ext w W → Stays J → Stays Jx →
    (∀ pre x T W1, J pre T W1 → Rv T W1 x → Sp (pre ++ [x]) → ∀ m, YieldAt Fence.wide m P l (encs x) W1 fun e W' =>
      (e = .returned (.bool true) ∧ J (pre ++ [x]) T W' ∧ KB (fun k => Pr k ∨ T k) W1 W') ∨ (e = .returned (.bool false) ∧ Jx (pre ++ [x]) T W')) →
    J [] (fun _ => False) W →
    Calls P gf (#[.func (.yield l) #[] #[]] ++ lb) W fun e W' => (∃ v, e = .returned v) ∧ ((∃ xs T, S xs ∧ J xs T W') ∨ (∃ pre T, Sp pre ∧ Jx pre T W'))

/-- How the body of a round may be left. -/
def postS {α : Type} (K : Nat → Prop) (I : List α → TSet → World → Prop) (Ix : Code → List α → TSet → World → Prop) (xs : List α) (T : TSet) (W : World) : Exit → Act → World → Prop
  | .normal, _, W' => KB K W W' ∧ I xs T W'
  | .ret, _, W' => KB K W W' ∧ Ix .ret xs T W'
  | .exit id, _, W' => KB K W W' ∧ Ix (.exit id) xs T W'
  | .goto t, _, W' => KB K W W' ∧ Ix (.goto t) xs T W'
  | .panic _, _, _ => False
  | .outgrown, _, _ => False

theorem room_in (l n : Nat) : (Fence.wide.inRound l).room n := fun _ h => by simp [Fence.wide, Fence.inRound] at h
theorem wpIn_any {P : Program} {c : Code} {Q : Exit → Act → World → Prop} {a : Act} {w : World} {l n : Nat} (m : Nat) (h : c.wpIn (Fence.wide.inRound l) n P Q a w) : c.wpIn (Fence.wide.inRound l) m P Q a w :=
  fun b k cs hro hb _ => h b k cs hro hb (room_in l _)

/-- The set of the iterator's blocks, with the loop's own two. -/
def withLoop (T : TSet) (D l : Nat) : TSet := fun k => T k ∨ k = D ∨ k = l

/-- The loop, outside every round. -/
theorem wp_rangeSeq {P : Program} {α : Type} {g : Operand} {ps : Array Tmp} {assign body : Code} {Q : Exit → Act → World → Prop} {a : Act} {w : World} {gf : Nat} {lb : Array Value} {encs : α → Array Value} {Pr : TSet} {Rv : TSet → World → α → Prop} {S Sp : List α → Prop} {w0 : World}
    (hseq : Seq P gf lb encs Pr Rv S Sp w0) (hg : a.eval g = .func (.func gf) #[] lb) (eg : ∀ args w, (callFunc gf args).run P w = .ok (.enter gf args) w) (hb0 : Ext w0 w) (hPr : ∀ k, Pr k → k < w.heap.size) (hps : ∀ x, (encs x).size = ps.size)
    (hRv : ∀ T W W' x l, (∃ o, W.heap[l]? = some (.loop o)) → Rv T W x → KB (fun k => k ≠ l) W W' → Rv T W' x)
    (I : List α → TSet → World → Prop) (Ix : Code → List α → TSet → World → Prop) (hI : Stays I) (hIx : ∀ c, Stays (Ix c)) (h0 : I [] (fun _ => False) w) (Ax : α → Act → TSet → World → Prop) (hAx : ∀ x a', Stays (fun (_ : Unit) => Ax x a'))
    (hassign : ∀ (l : Nat) (pre : List α) (x : α) (T : TSet) (W : World) (K : Act → World → Prop), I pre T W → Rv T W x → (∀ a' W', Ext W W' → Rv T W' x → Ax x a' T W' → K a' W') →
      assign.wpIn (Fence.wide.inRound l) 0 P (Exit.then K (fun _ _ _ => False)) { tmps := (ps.zip (encs x)).foldl (fun t (p, v) => t.setIfInBounds p v) a.tmps, defers := [] } W)
    (hRvT : ∀ T W x D l, Rv T W x → T D = False → T l = False → (∃ o, W.heap[l]? = some (.loop o)) → W.heap[D]? = some (.deferred (some [])) → Rv (withLoop T D l) W x)
    (hbody : ∀ (l : Nat) (pre : List α) (x : α) (a' : Act) (T : TSet) (W : World), (∃ o, W.heap[l]? = some (.loop o)) → T l → I pre T W → Ax x a' T W → Rv T W x → Sp (pre ++ [x]) → body.wpIn (Fence.wide.inRound l) 0 P (postS (fun k => Pr k ∨ T k) I Ix (pre ++ [x]) T W) a' W)
    (hdone : ∀ (D : Nat) (xs : List α) (T : TSet) (W : World), w.heap.size ≤ D → S xs → I xs T W → W.heap[D]? = some (.deferred (some [])) → Q .normal { a with defers := { target := .collected D, args := #[] } :: a.defers } W)
    (hstop : ∀ (D : Nat) (c : Code) (pre : List α) (T : TSet) (W : World), w.heap.size ≤ D → Sp pre → Ix c pre T W → W.heap[D]? = some (.deferred (some [])) → c.wp P Q { a with defers := { target := .collected D, args := #[] } :: a.defers } W) :
    (Code.rangeFunc g ps assign body).wp P Q a w := by
  refine (wpIn_wide (n := 1)).1 (wpIn_rangeFunc ?_)
  intro fn hfn
  obtain ⟨rec, hrec⟩ : ∃ rec : LoopState → Option Code → Loop, rec = fun st pe => { state := st, pending := pe, fn, tmps := a.tmps, params := ps, assign, body, defers := w.heap.size } := ⟨_, rfl⟩
  obtain ⟨W1, hW1⟩ : ∃ W1, (w.alloc (.deferred (some []))).alloc (.loop (rec .ready none)) = W1 := ⟨_, rfl⟩
  have hL1 : W1.heap[w.heap.size + 1]? = some (.loop (rec .ready none)) := by
    rw [← hW1]; have := World.alloc_heap_new (w.alloc (.deferred (some []))) (.loop (rec .ready none)); rwa [World.size_alloc] at this
  have hK1 : W1.heap[w.heap.size]? = some (.deferred (some [])) := by
    rw [← hW1]; exact (Below.heap_alloc _ _ _ (by simp)).trans (World.alloc_heap_new w _)
  have he1 : Ext w W1 := by rw [← hW1]; exact ((Ext.rfl' w).al _).al _
  obtain ⟨l, hl⟩ : ∃ l, l = w.heap.size + 1 := ⟨_, rfl⟩
  obtain ⟨D, hD⟩ : ∃ D, D = w.heap.size := ⟨_, rfl⟩
  have hz1 : l < W1.heap.size ∧ D < W1.heap.size := by rw [← hW1]; simp; omega
  have hI1 : I [] (withLoop (fun _ => False) D l) W1 := hI _ _ _ _ _ h0 (KB.of_ext he1) (fun _ h => h.elim) (fun k h => .inr (by rcases h with h | h | h; exact h.elim; omega; omega))
  refine ⟨w.heap.size + 1, [{ target := .collected w.heap.size, args := #[] }], W1, { target := .fn (.func gf) lb, args := #[.func (.yield (w.heap.size + 1)) #[] #[]] }, W1, gf,
    #[.func (.yield (w.heap.size + 1)) #[] #[]] ++ lb, W1, ?_, ?_, ?_, ?_, fun _ => Nat.le_refl _, ?_⟩
  · rw [← hW1, hrec]; exact run_enterLoop_outer _ _ _ _ _
  · simp only [resolve, hg]
    simp [go_sem]
  · intro f' hf'; trivial
  · simp [invoke, go_sem, eg]
  · rw [← hl] at hL1 ⊢
    rw [← hD] at hK1 ⊢
    have key : ∀ {A : List α → TSet → World → Prop} {r : Loop}, Stays A → Stays (fun pre T W => ((¬ T l ∧ ¬ T D) ∧ A pre (withLoop T D l) W) ∧ W.heap[l]? = some (.loop r) ∧ W.heap[D]? = some (.deferred (some []))) := by
      intro A r hA s T T' W W' h k1 k2 k3
      obtain ⟨⟨⟨n1, n2⟩, ha⟩, b1, b2⟩ := h
      have z1 := (Array.getElem?_eq_some_iff.1 b1).1
      have z2 := (Array.getElem?_eq_some_iff.1 b2).1
      refine ⟨⟨⟨fun h => ?_, fun h => ?_⟩, hA _ _ _ _ _ ha (k1.mono fun k _ hk h => hk (.inl h)) (fun k h => h.imp (k2 k) id) (fun k h => ?_)⟩, (k1.block _ z1 n1).trans b1, (k1.block _ z2 n2).trans b2⟩
      · rcases k3 _ h with h | h
        · exact n1 h
        · omega
      · rcases k3 _ h with h | h
        · exact n2 h
        · omega
      · rcases h with h | h
        · rcases k3 _ h with h | h
          · exact .inl (.inl h)
          · exact .inr h
        · exact .inl (.inr h)
    refine CallsIn.mono (callsIn_wide.2 (hseq l
      (fun pre T W => ((¬ T l ∧ ¬ T D) ∧ I pre (withLoop T D l) W) ∧ W.heap[l]? = some (.loop (rec .ready none)) ∧ W.heap[D]? = some (.deferred (some [])))
      (fun pre T W => ∃ c, ((¬ T l ∧ ¬ T D) ∧ Ix c pre (withLoop T D l) W) ∧ W.heap[l]? = some (.loop (rec .done (some c))) ∧ W.heap[D]? = some (.deferred (some [])))
      W1 (hb0.tr he1) (key hI)
      (fun s T T' W W' ⟨c, h⟩ k1 k2 k3 => ⟨c, key (hIx c) s T T' W W' h k1 k2 k3⟩)
      ?_ ⟨⟨⟨id, id⟩, hI1⟩, hL1, hK1⟩)) ?_
    · -- one round
      rintro pre x T W ⟨⟨⟨n1, n2⟩, hi⟩, hlo, hk⟩ hrv hsp m
      have hlt : l < W.heap.size := (Array.getElem?_eq_some_iff.1 hlo).1
      have hy := run_yield (P := P) (args := encs x) hlo (by rw [hrec]; exact hps x)
      rw [hrec] at hy
      have hrvT := hRvT T W x D l hrv (eq_false n2) (eq_false n1) ⟨_, hlo⟩ hk
      refine ⟨fn, _, assign, body, hy, roundIn_of_wpIn trivial (wpIn_any m (hassign l pre x (withLoop T D l) W _ hi hrvT ?_))⟩
      intro a' Wa hea hrva hax
      have hlo2 : Wa.heap[l]? = some (.loop (rec .ready none)) := (hea.block l hlt).trans hlo
      have hk2 : Wa.heap[D]? = some (.deferred (some [])) := (hea.block D (Array.getElem?_eq_some_iff.1 hk).1).trans hk
      have hlt2 : l < Wa.heap.size := Nat.lt_of_lt_of_le hlt hea.size
      refine ⟨_, run_beginRound hlo2 (by rw [hrec]), ?_⟩
      obtain ⟨Wb, hWb⟩ : ∃ Wb, Wb = Wa.putObj l (.loop { rec .ready none with state := .busy }) := ⟨_, rfl⟩
      rw [← hWb]
      have hTl : withLoop T D l l := .inr (.inr rfl)
      have hlo3 : Wb.heap[l]? = some (.loop { rec .ready none with state := .busy }) := by rw [hWb]; exact World.putObj_heap_same hlt2
      have hk3 : Wb.heap[D]? = some (.deferred (some [])) := by rw [hWb]; exact (World.putObj_heap_other (by omega)).trans hk2
      have hib : I pre (withLoop T D l) Wb := by rw [hWb]; exact hI.put (hI.ext hi hea) l _ hTl
      have haxb : Ax x a' (withLoop T D l) Wb := by rw [hWb]; exact (hAx x a').put (s := ()) hax l _ hTl
      have hrvb : Rv (withLoop T D l) Wb x := hRv _ _ _ _ l ⟨_, hlo2⟩ hrva (by rw [hWb]; exact KB.put l _ (fun h => h rfl))
      refine wpIn_any m (wpIn_mono (hbody l pre x a' (withLoop T D l) Wb ⟨_, hlo3⟩ hTl hib haxb hrvb hsp) ?_)
      have hPl : ¬ Pr l := fun h => by have := hPr l h; omega
      have fin : ∀ (jump : Option Code) (W3 : World), KB (fun k => Pr k ∨ withLoop T D l k) Wb W3 →
          (Instr.endRound l jump).run P W3 = .ok (.bool jump.isNone) (W3.putObj l (.loop (rec (if jump.isNone then .ready else .done) jump))) ∧
          (W3.putObj l (.loop (rec (if jump.isNone then .ready else .done) jump))).heap[l]? = some (.loop (rec (if jump.isNone then .ready else .done) jump)) ∧
          (W3.putObj l (.loop (rec (if jump.isNone then .ready else .done) jump))).heap[D]? = some (.deferred (some [])) := fun jump W3 hkb => by
        have hl4 := (hkb.block l (Array.getElem?_eq_some_iff.1 hlo3).1 (.inr hTl)).trans hlo3
        have hk4 := (hkb.block D (Array.getElem?_eq_some_iff.1 hk3).1 (.inr (.inr (.inl rfl)))).trans hk3
        have := run_endRound (P := P) jump hl4
        rw [hrec] at this ⊢
        exact ⟨this, World.putObj_heap_same (Array.getElem?_eq_some_iff.1 hl4).1, (World.putObj_heap_other (by omega)).trans hk4⟩
      rintro e a3 W3 hp
      cases e with
      | normal =>
        obtain ⟨hk4, hi4⟩ := hp
        obtain ⟨hr, hl5, hk5⟩ := fin none W3 hk4
        refine ⟨_, _, hr, .inl ⟨rfl, ⟨⟨⟨n1, n2⟩, hI.put hi4 l _ hTl⟩, hl5, hk5⟩, ?_⟩⟩
        have hnl : ¬ (Pr l ∨ T l) := fun h => h.elim hPl n1
        refine KB.tr (KB.tr (KB.of_ext hea) ?_) (KB.tr (hk4.mono fun k _ h => h.imp id .inl) (KB.put l _ hnl))
        rw [hWb]; exact KB.put l _ hnl
      | ret =>
        obtain ⟨hk4, hi4⟩ := hp
        obtain ⟨hr, hl5, hk5⟩ := fin (some .ret) W3 hk4
        exact ⟨_, _, hr, .inr ⟨rfl, .ret, ⟨⟨n1, n2⟩, (hIx _).put hi4 l _ hTl⟩, hl5, hk5⟩⟩
      | exit id =>
        obtain ⟨hk4, hi4⟩ := hp
        obtain ⟨hr, hl5, hk5⟩ := fin (some (.exit id)) W3 hk4
        exact ⟨_, _, hr, .inr ⟨rfl, .exit id, ⟨⟨n1, n2⟩, (hIx _).put hi4 l _ hTl⟩, hl5, hk5⟩⟩
      | goto t =>
        obtain ⟨hk4, hi4⟩ := hp
        obtain ⟨hr, hl5, hk5⟩ := fin (some (.goto t)) W3 hk4
        exact ⟨_, _, hr, .inr ⟨rfl, .goto t, ⟨⟨n1, n2⟩, (hIx _).put hi4 l _ hTl⟩, hl5, hk5⟩⟩
      | panic ch => exact hp.elim
      | outgrown => exact hp.elim
    · -- behind the iterator
      rintro e W2 ⟨⟨v, rfl⟩, (⟨xs, T, hS, ⟨⟨n1, n2⟩, hi⟩, hlo, hk⟩ | ⟨pre, T, hSp, c, ⟨⟨n1, n2⟩, hi⟩, hlo, hk⟩)⟩
      · exact ⟨none, _, by have := run_endLoop (P := P) hlo (by rw [hrec]; simp); rw [hrec] at this; exact this, hdone D xs _ _ (by omega) hS (hI.put hi l _ (.inr (.inr rfl))) ((World.putObj_heap_other (by omega)).trans hk)⟩
      · exact ⟨some c, _, by have := run_endLoop (P := P) hlo (by rw [hrec]; simp); rw [hrec] at this; exact this, wpIn_wide.2 (hstop D c pre _ _ (by omega) hSp ((hIx c).put hi l _ (.inr (.inr rfl))) ((World.putObj_heap_other (by omega)).trans hk))⟩
/-- The loop within a round of another. -/
theorem wpIn_rangeSeq {P : Program} {α : Type} {g : Operand} {ps : Array Tmp} {assign body : Code} {Q : Exit → Act → World → Prop} {a : Act} {w : World} {gf : Nat} {lb : Array Value} {encs : α → Array Value} {Pr : TSet} {Rv : TSet → World → α → Prop} {S Sp : List α → Prop} {w0 : World} {l₀ n : Nat} (hl₀ : ∃ r, w.heap[l₀]? = some (.loop r))
    (hseq : Seq P gf lb encs Pr Rv S Sp w0) (hg : a.eval g = .func (.func gf) #[] lb) (eg : ∀ args w, (callFunc gf args).run P w = .ok (.enter gf args) w) (hb0 : Ext w0 w) (hPr : ∀ k, Pr k → k < w.heap.size) (hps : ∀ x, (encs x).size = ps.size)
    (hRv : ∀ T W W' x l, (∃ o, W.heap[l]? = some (.loop o)) → Rv T W x → KB (fun k => k ≠ l) W W' → Rv T W' x)
    (I : List α → TSet → World → Prop) (Ix : Code → List α → TSet → World → Prop) (hI : Stays I) (hIx : ∀ c, Stays (Ix c)) (h0 : I [] (fun _ => False) w) (Ax : α → Act → TSet → World → Prop) (hAx : ∀ x a', Stays (fun (_ : Unit) => Ax x a'))
    (hassign : ∀ (l : Nat) (pre : List α) (x : α) (T : TSet) (W : World) (K : Act → World → Prop), I pre T W → Rv T W x → (∀ a' W', Ext W W' → Rv T W' x → Ax x a' T W' → K a' W') →
      assign.wpIn (Fence.wide.inRound l) 0 P (Exit.then K (fun _ _ _ => False)) { tmps := (ps.zip (encs x)).foldl (fun t (p, v) => t.setIfInBounds p v) a.tmps, defers := [] } W)
    (hRvT : ∀ T W x l, Rv T W x → T l = False → (∃ o, W.heap[l]? = some (.loop o)) → Rv (withLoop T l l) W x)
    (hbody : ∀ (l : Nat) (pre : List α) (x : α) (a' : Act) (T : TSet) (W : World), (∃ o, W.heap[l]? = some (.loop o)) → T l → I pre T W → Ax x a' T W → Rv T W x → Sp (pre ++ [x]) → body.wpIn (Fence.wide.inRound l) 0 P (postS (fun k => Pr k ∨ T k) I Ix (pre ++ [x]) T W) a' W)
    (hdone : ∀ (xs : List α) (T : TSet) (W : World), S xs → I xs T W → Q .normal a W)
    (hstop : ∀ (c : Code) (pre : List α) (T : TSet) (W : World), Sp pre → Ix c pre T W → c.wpIn (Fence.wide.inRound l₀) n P Q a W) :
    (Code.rangeFunc g ps assign body).wpIn (Fence.wide.inRound l₀) n P Q a w := by
  obtain ⟨r₀, hl₀⟩ := hl₀
  refine wpIn_any n (wpIn_rangeFunc (n := 1) ?_)
  intro fn hfn
  obtain ⟨rec, hrec⟩ : ∃ rec : LoopState → Option Code → Loop, rec = fun st pe => { state := st, pending := pe, fn, tmps := a.tmps, params := ps, assign, body, defers := r₀.defers } := ⟨_, rfl⟩
  obtain ⟨W1, hW1⟩ : ∃ W1, w.alloc (.loop (rec .ready none)) = W1 := ⟨_, rfl⟩
  have hL1 : W1.heap[w.heap.size]? = some (.loop (rec .ready none)) := by rw [← hW1]; exact World.alloc_heap_new w _
  have he1 : Ext w W1 := by rw [← hW1]; exact (Ext.rfl' w).al _
  obtain ⟨l, hl⟩ : ∃ l, l = w.heap.size := ⟨_, rfl⟩
  have hz1 : l < W1.heap.size := by rw [← hW1]; simp; omega
  have hI1 : I [] (withLoop (fun _ => False) l l) W1 := hI _ _ _ _ _ h0 (KB.of_ext he1) (fun _ h => h.elim) (fun k h => .inr (by rcases h with h | h | h; exact h.elim; omega; omega))
  refine ⟨w.heap.size, [], W1, { target := .fn (.func gf) lb, args := #[.func (.yield w.heap.size) #[] #[]] }, W1, gf,
    #[.func (.yield w.heap.size) #[] #[]] ++ lb, W1, ?_, ?_, ?_, ?_, fun _ => Nat.le_refl _, ?_⟩
  · rw [← hW1, hrec]; exact run_enterLoop_inner hl₀ _ _ _ _ _
  · simp only [resolve, hg]
    simp [go_sem]
  · intro f' hf'; trivial
  · simp [invoke, go_sem, eg]
  · rw [← hl] at hL1 ⊢
    have key : ∀ {A : List α → TSet → World → Prop} {r : Loop}, Stays A → Stays (fun pre T W => (¬ T l ∧ A pre (withLoop T l l) W) ∧ W.heap[l]? = some (.loop r)) := by
      intro A r hA s T T' W W' h k1 k2 k3
      obtain ⟨⟨n1, ha⟩, b1⟩ := h
      have z1 := (Array.getElem?_eq_some_iff.1 b1).1
      refine ⟨⟨fun h => ?_, hA _ _ _ _ _ ha (k1.mono fun k _ hk h => hk (.inl h)) (fun k h => h.imp (k2 k) id) (fun k h => ?_)⟩, (k1.block _ z1 n1).trans b1⟩
      · rcases k3 _ h with h | h
        · exact n1 h
        · omega
      · rcases h with h | h
        · rcases k3 _ h with h | h
          · exact .inl (.inl h)
          · exact .inr h
        · exact .inl (.inr h)
    refine CallsIn.mono (callsIn_wide.2 (hseq l
      (fun pre T W => (¬ T l ∧ I pre (withLoop T l l) W) ∧ W.heap[l]? = some (.loop (rec .ready none)))
      (fun pre T W => ∃ c, (¬ T l ∧ Ix c pre (withLoop T l l) W) ∧ W.heap[l]? = some (.loop (rec .done (some c))))
      W1 (hb0.tr he1) (key hI)
      (fun s T T' W W' ⟨c, h⟩ k1 k2 k3 => ⟨c, key (hIx c) s T T' W W' h k1 k2 k3⟩)
      ?_ ⟨⟨id, hI1⟩, hL1⟩)) ?_
    · -- one round
      rintro pre x T W ⟨⟨n1, hi⟩, hlo⟩ hrv hsp m
      have hlt : l < W.heap.size := (Array.getElem?_eq_some_iff.1 hlo).1
      have hy := run_yield (P := P) (args := encs x) hlo (by rw [hrec]; exact hps x)
      rw [hrec] at hy
      have hrvT := hRvT T W x l hrv (eq_false n1) ⟨_, hlo⟩
      refine ⟨fn, _, assign, body, hy, roundIn_of_wpIn trivial (wpIn_any m (hassign l pre x (withLoop T l l) W _ hi hrvT ?_))⟩
      intro a' Wa hea hrva hax
      have hlo2 : Wa.heap[l]? = some (.loop (rec .ready none)) := (hea.block l hlt).trans hlo
      have hlt2 : l < Wa.heap.size := Nat.lt_of_lt_of_le hlt hea.size
      refine ⟨_, run_beginRound hlo2 (by rw [hrec]), ?_⟩
      obtain ⟨Wb, hWb⟩ : ∃ Wb, Wb = Wa.putObj l (.loop { rec .ready none with state := .busy }) := ⟨_, rfl⟩
      rw [← hWb]
      have hTl : withLoop T l l l := .inr (.inr rfl)
      have hlo3 : Wb.heap[l]? = some (.loop { rec .ready none with state := .busy }) := by rw [hWb]; exact World.putObj_heap_same hlt2
      have hib : I pre (withLoop T l l) Wb := by rw [hWb]; exact hI.put (hI.ext hi hea) l _ hTl
      have haxb : Ax x a' (withLoop T l l) Wb := by rw [hWb]; exact (hAx x a').put (s := ()) hax l _ hTl
      have hrvb : Rv (withLoop T l l) Wb x := hRv _ _ _ _ l ⟨_, hlo2⟩ hrva (by rw [hWb]; exact KB.put l _ (fun h => h rfl))
      refine wpIn_any m (wpIn_mono (hbody l pre x a' (withLoop T l l) Wb ⟨_, hlo3⟩ hTl hib haxb hrvb hsp) ?_)
      have hPl : ¬ Pr l := fun h => by have := hPr l h; omega
      have fin : ∀ (jump : Option Code) (W3 : World), KB (fun k => Pr k ∨ withLoop T l l k) Wb W3 →
          (Instr.endRound l jump).run P W3 = .ok (.bool jump.isNone) (W3.putObj l (.loop (rec (if jump.isNone then .ready else .done) jump))) ∧
          (W3.putObj l (.loop (rec (if jump.isNone then .ready else .done) jump))).heap[l]? = some (.loop (rec (if jump.isNone then .ready else .done) jump)) := fun jump W3 hkb => by
        have hl4 := (hkb.block l (Array.getElem?_eq_some_iff.1 hlo3).1 (.inr hTl)).trans hlo3
        have := run_endRound (P := P) jump hl4
        rw [hrec] at this ⊢
        exact ⟨this, World.putObj_heap_same (Array.getElem?_eq_some_iff.1 hl4).1⟩
      rintro e a3 W3 hp
      cases e with
      | normal =>
        obtain ⟨hk4, hi4⟩ := hp
        obtain ⟨hr, hl5⟩ := fin none W3 hk4
        refine ⟨_, _, hr, .inl ⟨rfl, ⟨⟨n1, hI.put hi4 l _ hTl⟩, hl5⟩, ?_⟩⟩
        have hnl : ¬ (Pr l ∨ T l) := fun h => h.elim hPl n1
        refine KB.tr (KB.tr (KB.of_ext hea) ?_) (KB.tr (hk4.mono fun k _ h => h.imp id .inl) (KB.put l _ hnl))
        rw [hWb]; exact KB.put l _ hnl
      | ret =>
        obtain ⟨hk4, hi4⟩ := hp
        obtain ⟨hr, hl5⟩ := fin (some .ret) W3 hk4
        exact ⟨_, _, hr, .inr ⟨rfl, .ret, ⟨n1, (hIx _).put hi4 l _ hTl⟩, hl5⟩⟩
      | exit id =>
        obtain ⟨hk4, hi4⟩ := hp
        obtain ⟨hr, hl5⟩ := fin (some (.exit id)) W3 hk4
        exact ⟨_, _, hr, .inr ⟨rfl, .exit id, ⟨n1, (hIx _).put hi4 l _ hTl⟩, hl5⟩⟩
      | goto t =>
        obtain ⟨hk4, hi4⟩ := hp
        obtain ⟨hr, hl5⟩ := fin (some (.goto t)) W3 hk4
        exact ⟨_, _, hr, .inr ⟨rfl, .goto t, ⟨n1, (hIx _).put hi4 l _ hTl⟩, hl5⟩⟩
      | panic ch => exact hp.elim
      | outgrown => exact hp.elim
    · -- behind the iterator
      rintro e W2 ⟨⟨v, rfl⟩, (⟨xs, T, hS, ⟨n1, hi⟩, hlo⟩ | ⟨pre, T, hSp, c, ⟨n1, hi⟩, hlo⟩)⟩
      · exact ⟨none, _, by have := run_endLoop (P := P) hlo (by rw [hrec]; simp); rw [hrec] at this; exact this, hdone xs _ _ hS (hI.put hi l _ (.inr (.inr rfl)))⟩
      · exact ⟨some c, _, by have := run_endLoop (P := P) hlo (by rw [hrec]; simp); rw [hrec] at this; exact this, wpIn_any 1 (hstop c pre _ _ hSp ((hIx c).put hi l _ (.inr (.inr rfl))))⟩
end Go.Proofs.YtimkijmjbnmcbaaGreat
