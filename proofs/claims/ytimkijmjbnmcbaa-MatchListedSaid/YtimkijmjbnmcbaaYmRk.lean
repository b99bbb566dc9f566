/- A region that draws its order: operations that only read what lasts are run first, the others one by one in the orders that are left. No program is named here. -/
import Derived.Orders
import Derived.Test.YtimkijmjbnmcbaaYm4
namespace Go.Proofs.Ytimkijmjbnmcbaa
open Go

section
variable {P : Program} {ops : Array Oper} {Q : Exit → Act → World → Prop} {md : Region.Mode} (B : World → Prop)

/-- All orders; what B tells holds behind each operation. -/
def anyB (P : Program) (md : Region.Mode) (ops : Array Oper) (Q : Exit → Act → World → Prop) (B : World → Prop) : Nat → Array Bool → Act → World → Prop
  | 0, listed, a, w => Region.ready md ops listed = [] ∧ Q .normal a w
  | f + 1, listed, a, w => (Region.ready md ops listed = [] → Q .normal a w) ∧ ∀ i ∈ Region.ready md ops listed, wpOp P ops Q i (fun a' w' => B w' ∧ anyB P md ops Q B f (listed.setIfInBounds i true) a' w') a w
theorem anyB_sound : ∀ (f : Nat) (listed : Array Bool) (a : Act) (w : World), anyB P md ops Q B f listed a w → wpAny P md ops Q f listed a w
  | 0, _, _, _, h => h
  | f + 1, listed, a, w, h => ⟨h.1, fun i hi => wpOp_mono (fun a' w' hk => anyB_sound f _ a' w' hk.2) (h.2 i hi)⟩

/-- The operation gives v wherever B holds. -/
def YB (P : Program) (ops : Array Oper) (B : World → Prop) (o : Oper) (v : Value) (a : Act) : Prop :=
  (Region.wanted o (yielded ops a.tmps) = true ∧ ∀ w, B w → (execOp a.eval o).run P w = .ok (.value v) w) ∨ (Region.wanted o (yielded ops a.tmps) = false ∧ v = undef)
variable {B}
theorem YB.step {i : Nat} {o : Oper} {v : Value} {a : Act} {w : World} (hi : ops[i]? = some o) (hB : B w) (hy : YB P ops B o v a) {K : Act → World → Prop} (h : K (a.put o.dst v) w) : wpOp P ops Q i K a w := by
  unfold wpOp
  rw [hi]
  dsimp only
  rcases hy with ⟨h1, h2⟩ | ⟨h1, rfl⟩
  · rw [if_pos h1]
    left
    unfold Oper.wp
    rw [h2 w hB]
    exact h
  · rw [if_neg (by rw [h1]; exact Bool.false_ne_true)]
    exact h
/-- What another operation puts does not touch it. -/
theorem YB.put {o : Oper} {v : Value} {a : Act} (hs : ∀ cs b, o.op ≠ .select cs b) (h : YB P ops B o v a) {d : Option Tmp} (hd : ∀ x, d = some x → x ∉ o.looksAt ops) (u : Value) : YB P ops B o v (a.put d u) := by
  unfold YB at *
  rw [execOp_put o hs a d u hd, wanted_put o a d u hd]
  exact h
/-- An operation behind the reading one is the same one ahead of it. -/
theorem op_back {j : Nat} {oi oj : Oper} {v : Value} (hj : ops[j]? = some oj) (hap : oi.apart ops oj = true) (hsi : ∀ cs b, oi.op ≠ .select cs b) (hsj : ∀ cs b, oj.op ≠ .select cs b)
    (hQ : ∀ c a w, Q (.panic c) (a.put oi.dst v) w → Q (.panic c) a w) {K K' : Act → World → Prop} {a : Act} {w : World} (hy : YB P ops B oi v a)
    (hK : ∀ a' w', YB P ops B oi v a' → K (a'.put oi.dst v) w' → K' a' w') (h : wpOp P ops Q j K (a.put oi.dst v) w) : wpOp P ops Q j K' a w := by
  obtain ⟨h1, h2, h3⟩ := Oper.apart_spec hap
  have same : ∀ u, Act.put (Act.put a oi.dst v) oj.dst u = Act.put (Act.put a oj.dst u) oi.dst v := fun u => Act.put_comm a v u h2
  have on : ∀ u w', K (Act.put (Act.put a oi.dst v) oj.dst u) w' → K' (a.put oj.dst u) w' := fun u w' hk => hK _ _ (hy.put hsi h3 u) (by rw [← same u]; exact hk)
  unfold wpOp at h ⊢
  rw [hj] at h ⊢
  dsimp only at h ⊢
  rw [wanted_put oj a oi.dst v h1] at h
  cases hw : Region.wanted oj (yielded ops a.tmps)
  · rw [hw] at h
    exact on _ _ h
  · rw [hw, if_pos rfl] at h
    rw [if_pos rfl]
    rcases h with h | h
    · left
      unfold Oper.wp at h ⊢
      rw [execOp_put oj hsj a oi.dst v h1] at h
      revert h
      cases hr : (execOp a.eval oj).run P w with
      | halt x w' =>
        cases x <;> simp only [Oper.upon] <;> first | exact id | (intro h; exact hQ _ _ _ h)
      | ok n w' =>
        cases n
        case value u => exact on _ _
        case skip => exact on _ _
        case defer d =>
          simp only [Oper.upon]
          intro h
          refine hK _ _ (YB.put hsi (a := { a with defers := d :: a.defers }) hy h3 _) ?_
          rw [← Act.put_comm _ v undef h2, ← Act.put_defers]
          exact h
        case enter f args =>
          simp only [Oper.upon]
          intro h
          refine Calls.mono h fun e w'' he => ?_
          cases e with
          | returned u => exact on _ _ he
          | panicked c => exact hQ _ _ _ he
          | outgrown => exact he
        case row r args =>
          simp only [Oper.upon]
          intro h
          exact Rows.mono h fun u w'' he => on _ _ he
        all_goals (simp only [Oper.upon]; exact id)
    · right
      refine ⟨?_, h.2⟩
      have := h.1
      unfold Oper.asks at this ⊢
      rw [execOp_put oj hsj a oi.dst v h1] at this
      exact this

theorem anyB_first {i : Nat} {oi : Oper} {v : Value} (hi : ops[i]? = some oi) (hsel : ∀ (j : Nat) (o : Oper) cs b, ops[j]? = some o → o.op ≠ .select cs b) (hQ : ∀ c a w, Q (.panic c) (a.put oi.dst v) w → Q (.panic c) a w) :
    ∀ (f : Nat) (listed : Array Bool) (a : Act) (w : World), B w →
      (∀ j oj, ops[j]? = some oj → j ≠ i → listed.getD j true = false → (∀ e ∈ oj.after, Region.binds md e = true → e.on ≠ i) → oi.apart ops oj = true) →
      i ∈ Region.ready md ops listed → YB P ops B oi v a → anyB P md ops Q B f (listed.setIfInBounds i true) (a.put oi.dst v) w → anyB P md ops Q B (f + 1) listed a w := by
  intro f
  induction f with
  | zero =>
    intro listed a w hB _ hr hy H
    refine ⟨fun h => absurd (h ▸ hr) (by simp), fun j hj => ?_⟩
    by_cases e : j = i
    · subst e; exact hy.step hi hB ⟨hB, H⟩
    · exact absurd (H.1 ▸ ready_mono hj e) (by simp)
  | succ f ih =>
    intro listed a w hB hfree hr hy H
    refine ⟨fun h => absurd (h ▸ hr) (by simp), fun j hj => ?_⟩
    by_cases e : j = i
    · subst e; exact hy.step hi hB ⟨hB, H⟩
    · obtain ⟨hun, oj, hoj, hall⟩ := mem_ready.1 hj
      have h0 := (mem_ready.1 hr).1
      have hno : ∀ x ∈ oj.after, Region.binds md x = true → x.on ≠ i := by
        intro x hx hb hxi
        have h1 := hall x hx hb
        rw [hxi] at h1
        rcases Nat.lt_or_ge i listed.size with hlt | hge
        · simp only [Array.getD_eq_getD_getElem?, Array.getElem?_eq_getElem hlt, Option.getD_some] at h0 h1
          rw [h0] at h1; cases h1
        · simp only [Array.getD_eq_getD_getElem?, Array.getElem?_eq_none hge, Option.getD_none] at h1
          cases h1
      refine op_back hoj (hfree j oj hoj e hun hno) (fun cs b => hsel i oi cs b hi) (fun cs b => hsel j oj cs b hoj) hQ hy (fun a' w' hy' hk => ?_) (H.2 j (ready_mono hj e))
      refine ⟨hk.1, ih _ a' w' hk.1 (fun k ok hk2 hki hunk hnok => ?_) (ready_mono hr (Ne.symm e)) hy' ?_⟩
      · refine hfree k ok hk2 hki ?_ hnok
        by_cases hjk : j = k
        · subst hjk; exact hun
        · rwa [getD_set_ne true hjk] at hunk
      · rw [Array.setIfInBounds_comm _ _ e]
        exact hk.2
/-- A reading operation that may run is run first. -/
theorem anyB_take {i : Nat} {oi : Oper} {v : Value} {f : Nat} {listed : Array Bool} {a : Act} {w : World} (hi : ops[i]? = some oi) (hs : Region.noSelect ops = true) (hf : Region.free md ops listed i = true) (hr : (Region.ready md ops listed).contains i = true)
    (hQ : ∀ c a w, Q (.panic c) (a.put oi.dst v) w → Q (.panic c) a w) (hB : B w) (hy : YB P ops B oi v a) (h : ∀ K : Act → Prop, (∀ a', anyB P md ops Q B f (listed.setIfInBounds i true) a' w → K a') → K (a.put oi.dst v)) : anyB P md ops Q B (f + 1) listed a w :=
  anyB_first hi (Region.noSelect_spec hs) hQ f listed a w hB (Region.free_spec hi hf) (by simpa using hr) hy (h _ fun _ h => h)
/-- Each operation that may run next. -/
def EachB (P : Program) (md : Region.Mode) (ops : Array Oper) (Q : Exit → Act → World → Prop) (B : World → Prop) (f : Nat) (listed : Array Bool) (a : Act) (w : World) : List Nat → Prop
  | [] => True
  | i :: rs => wpOp P ops Q i (fun a' w' => B w' ∧ anyB P md ops Q B f (listed.setIfInBounds i true) a' w') a w ∧ EachB P md ops Q B f listed a w rs
theorem EachB.at_ {f : Nat} {listed : Array Bool} {a : Act} {w : World} : ∀ {rs : List Nat}, EachB P md ops Q B f listed a w rs → ∀ i ∈ rs, wpOp P ops Q i (fun a' w' => B w' ∧ anyB P md ops Q B f (listed.setIfInBounds i true) a' w') a w
  | i :: rs, h, j, hj => by
    rcases List.mem_cons.1 hj with rfl | hj
    · exact h.1
    · exact h.2.at_ j hj
theorem anyB_each {rs : List Nat} {f : Nat} {listed : Array Bool} {a : Act} {w : World} (hr : Region.ready md ops listed = rs) (hne : rs ≠ []) (h : EachB P md ops Q B f listed a w rs) : anyB P md ops Q B (f + 1) listed a w :=
  ⟨fun h0 => absurd (hr ▸ h0) hne, fun i hi => h.at_ i (hr ▸ hi)⟩
theorem anyB_done {f : Nat} {listed : Array Bool} {a : Act} {w : World} (hr : Region.ready md ops listed = []) (h : Q .normal a w) : anyB P md ops Q B f listed a w := by
  cases f with
  | zero => exact ⟨hr, h⟩
  | succ f => exact ⟨fun _ => h, fun i hi => absurd (hr ▸ hi) (by simp)⟩
/-- An operation without a guard that gives a value. -/
theorem opB_step {i : Nat} {o : Oper} {f : Nat} {listed : Array Bool} {a : Act} {w : World} (hi : ops[i]? = some o) (hg : o.guard = none) (v : Value) (w' : World) (hrun : (execOp a.eval o).run P w = .ok (.value v) w') (hB : B w')
    (h : ∀ K : Act → Prop, (∀ a', anyB P md ops Q B f (listed.setIfInBounds i true) a' w' → K a') → K (a.put o.dst v)) : wpOp P ops Q i (fun a' w' => B w' ∧ anyB P md ops Q B f (listed.setIfInBounds i true) a' w') a w := by
  unfold wpOp
  rw [hi]
  dsimp only
  rw [if_pos (by unfold Region.wanted; rw [hg])]
  left
  unfold Oper.wp
  rw [hrun]
  exact ⟨hB, h _ fun _ h => h⟩
theorem wp_regionB {id : Nat} {a : Act} {w : World} (B : World → Prop) (hm : P.follows .mixedOrders = true) (h : anyB P .any ops Q B ops.size (Array.replicate ops.size false) a { w with drawn := w.drawn + 1 }) : (Code.region id ops true).wp P Q a w :=
  wp_region_any hm (anyB_sound B _ _ _ _ h)
end
end Go.Proofs.Ytimkijmjbnmcbaa
