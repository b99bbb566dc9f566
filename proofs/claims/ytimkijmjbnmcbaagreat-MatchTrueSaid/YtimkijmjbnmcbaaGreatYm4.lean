/- Regions that draw their order, whose operations and callees may make memory but turn nothing that was there: one walk in the order of the text serves every order. What a call or a new block hands back is told by a fact that lasts. No program is named here. -/
import Derived.Still
import Derived.StillTail
import Derived.Tactics
import Derived.Tactics2
import Derived.KernelRfl
namespace Go.Proofs.YtimkijmjbnmcbaaGreat
open Go

section
variable {P : Program} {ops : Array Oper} {md : Region.Mode} (Le : World → World → Prop) (C : World → Prop) (Ph : Nat → Option (World → Value → Prop))

/-- The facts of the operations that have run. -/
def upd (G : Nat → World → Prop) (i : Nat) (F : World → Prop) : Nat → World → Prop := fun j W => G j W ∧ (j = i → F W)
def Cls (C : World → Prop) (o : Oper) (G : Nat → World → Prop) (W : World) : Prop := C W ∧ ∀ e ∈ o.after, Region.binds .any e = true → G e.on W
def AllF (C : World → Prop) (G : Nat → World → Prop) (W : World) : Prop := C W ∧ ∀ j, G j W

/-- What is asked of an operation that may make memory: a value with a fact that lasts. -/
def newUpon (P : Program) (Le : World → World → Prop) (W : World) (F : World → Value → Prop) : Result Next → Prop
  | .ok (.value u) W' => Le W W' ∧ F W' u
  | .ok .skip W' => Le W W' ∧ F W' undef
  | .ok (.enter f args) W' => Le W W' ∧ Calls P f args W' (fun e W'' => ∃ v, e = .returned v ∧ Le W' W'' ∧ F W'' v)
  | _ => False
/-- What is asked of the others: one value, the world as it was. -/
def oneUpon (W : World) (v : Value) (r : Result Next) : Prop := r = .ok (.value v) W ∨ (r = .ok .skip W ∧ v = undef)

def opE (P : Program) (ops : Array Oper) (Le : World → World → Prop) (C : World → Prop) (Ph : Nat → Option (World → Value → Prop)) (i : Nat) (K : (Nat → World → Prop) → Act → Prop) (G : Nat → World → Prop) (a : Act) : Prop :=
  match ops[i]? with
  | none => K G a
  | some o =>
    (∃ W, AllF C G W) →
    if Region.wanted o (yielded ops a.tmps) then
      match Ph i with
      | none => ∃ v, (∀ W, Cls C o G W → oneUpon W v ((execOp a.eval o).run P W)) ∧ K G (a.put o.dst v)
      | some F => (∀ W, Cls C o G W → newUpon P Le W F ((execOp a.eval o).run P W)) ∧ ∀ v, (∃ W, AllF C (upd G i (fun W => F W v)) W) → K (upd G i (fun W => F W v)) (a.put o.dst v)
    else K G (a.put o.dst undef)

variable {Le C Ph}

def anyE (P : Program) (md : Region.Mode) (ops : Array Oper) (Le : World → World → Prop) (C : World → Prop) (Ph : Nat → Option (World → Value → Prop)) (Q : (Nat → World → Prop) → Act → Prop) : Nat → Array Bool → (Nat → World → Prop) → Act → Prop
  | 0, listed, G, a => Region.ready md ops listed = [] ∧ Q G a
  | fuel + 1, listed, G, a => (Region.ready md ops listed = [] → Q G a) ∧ ∀ i ∈ Region.ready md ops listed, opE P ops Le C Ph i (anyE P md ops Le C Ph Q fuel (listed.setIfInBounds i true)) G a

structure Good (Le : World → World → Prop) (C : World → Prop) (Ph : Nat → Option (World → Value → Prop)) : Prop where
  rfl_ : ∀ W, Le W W
  tr : ∀ a b c, Le a b → Le b c → Le a c
  keepC : ∀ W W', Le W W' → C W → C W'
  keepF : ∀ i F, Ph i = some F → ∀ W W' v, Le W W' → F W v → F W' v

def KeepG (Le : World → World → Prop) (G : Nat → World → Prop) : Prop := ∀ j W W', Le W W' → G j W → G j W'
theorem KeepG.upd {G : Nat → World → Prop} (h : KeepG Le G) {i : Nat} {F : World → Value → Prop} (hF : ∀ W W' v, Le W W' → F W v → F W' v) (v : Value) : KeepG Le (upd G i (fun W => F W v)) := by
  intro j W W' hl hj
  exact ⟨h _ _ _ hl hj.1, fun e => hF _ _ _ hl (hj.2 e)⟩
theorem AllF.keep {G : Nat → World → Prop} {W W' : World} (hg : Good Le C Ph) (hG : KeepG Le G) (hl : Le W W') (h : AllF C G W) : AllF C G W' := ⟨hg.keepC _ _ hl h.1, fun j => hG _ _ _ hl (h.2 j)⟩
theorem AllF.upd {G : Nat → World → Prop} {W : World} {i : Nat} {F : World → Prop} (h : AllF C G W) (hF : F W) : AllF C (Go.Proofs.YtimkijmjbnmcbaaGreat.upd G i F) W :=
  ⟨h.1, fun j => ⟨h.2 j, fun _ => hF⟩⟩
theorem AllF.cls {G : Nat → World → Prop} {W : World} (o : Oper) (h : AllF C G W) : Cls C o G W := ⟨h.1, fun e _ _ => h.2 e.on⟩
theorem cls_upd {G : Nat → World → Prop} {o : Oper} {i : Nat} {F : World → Prop} (hno : ∀ e ∈ o.after, Region.binds .any e = true → e.on ≠ i) (W : World) : Cls C o (upd G i F) W ↔ Cls C o G W := by
  unfold Cls upd
  constructor
  · rintro ⟨h1, h2⟩; exact ⟨h1, fun e he hb => (h2 e he hb).1⟩
  · rintro ⟨h1, h2⟩; exact ⟨h1, fun e he hb => ⟨h2 e he hb, fun hx => absurd hx (hno e he hb)⟩⟩
theorem AllF.of_upd {G : Nat → World → Prop} {W : World} {o : Oper} {i : Nat} {F : World → Prop} (hno : ∀ e ∈ o.after, Region.binds .any e = true → e.on ≠ i) (h : AllF C (Go.Proofs.YtimkijmjbnmcbaaGreat.upd G i F) W) : Cls C o G W :=
  (cls_upd hno W).1 (h.cls o)
theorem upd_comm (G : Nat → World → Prop) (i j : Nat) (F E : World → Prop) : upd (upd G i F) j E = upd (upd G j E) i F := by
  funext k W
  unfold upd
  rw [and_assoc, and_assoc, and_comm (a := k = i → F W)]
theorem AllF.less {G : Nat → World → Prop} {W : World} {i : Nat} {F : World → Prop} (h : AllF C (Go.Proofs.YtimkijmjbnmcbaaGreat.upd G i F) W) : AllF C G W := ⟨h.1, fun j => (h.2 j).1⟩

/-- An operation that hands something back, and keeps the facts. -/
theorem new_out {G : Nat → World → Prop} {W : World} {F : World → Value → Prop} {r : Result Next} (hg : Good Le C Ph) (hG : KeepG Le G) (h : AllF C G W) (i : Nat) (hr : newUpon P Le W F r) : ∃ v W', AllF C (upd G i (fun W => F W v)) W' := by
  cases r with
  | ok n W' =>
    cases n <;> simp only [newUpon] at hr
    case value u => exact ⟨u, W', (h.keep hg hG hr.1).upd hr.2⟩
    case skip => exact ⟨_, W', (h.keep hg hG hr.1).upd hr.2⟩
    case enter f args =>
      obtain ⟨hl, hc⟩ := hr
      obtain ⟨e, W'', fr, ⟨v, _, hl2, hF⟩, _⟩ := hc []
      exact ⟨v, W'', (h.keep hg hG (hg.tr _ _ _ hl hl2)).upd hF⟩
  | halt x W' => simp only [newUpon] at hr

theorem opE_mono {i : Nat} {G : Nat → World → Prop} {a : Act} {K K' : (Nat → World → Prop) → Act → Prop} (hg : Good Le C Ph) (hG : KeepG Le G) (h : ∀ G a, KeepG Le G → K G a → K' G a) (hh : opE P ops Le C Ph i K G a) : opE P ops Le C Ph i K' G a := by
  unfold opE at *
  split
  · rename_i ho; simp only [ho] at hh; exact h _ _ hG hh
  · rename_i o ho
    simp only [ho] at hh
    intro hne
    have hh := hh hne
    split
    · rename_i hw
      simp only [hw, if_true] at hh
      split
      · rename_i hp; simp only [hp] at hh; obtain ⟨v, h1, h2⟩ := hh; exact ⟨v, h1, h _ _ hG h2⟩
      · rename_i F hp; simp only [hp] at hh; exact ⟨hh.1, fun v hv => h _ _ (hG.upd (hg.keepF i F hp) v) (hh.2 v hv)⟩
    · rename_i hw; simp only [hw] at hh; exact h _ _ hG hh

theorem wpOp_of_opE {i : Nat} {G : Nat → World → Prop} {a : Act} {K : (Nat → World → Prop) → Act → Prop} {K' : Act → World → Prop} {Q' : Exit → Act → World → Prop} {W : World} (hg : Good Le C Ph) (hG : KeepG Le G) (hW : AllF C G W)
    (h : ∀ G' a' W', KeepG Le G' → AllF C G' W' → K G' a' → K' a' W') (hh : opE P ops Le C Ph i K G a) : wpOp P ops Q' i K' a W := by
  unfold opE at hh
  unfold wpOp
  split
  · rename_i ho; simp only [ho] at hh; exact h _ _ _ hG hW hh
  · rename_i o ho
    simp only [ho] at hh
    have hh := hh ⟨W, hW⟩
    split
    · rename_i hw
      simp only [hw, if_true] at hh
      refine .inl ?_
      unfold Oper.wp
      cases hp : Ph i with
      | none =>
        simp only [hp] at hh
        obtain ⟨v, h1, h2⟩ := hh
        rcases h1 W (hW.cls o) with e | ⟨e, rfl⟩
        · rw [e]; exact h _ _ _ hG hW h2
        · rw [e]; exact h _ _ _ hG hW h2
      | some F =>
        simp only [hp] at hh
        obtain ⟨h1, h2⟩ := hh
        have h3 := h1 W (hW.cls o)
        generalize (execOp a.eval o).run P W = r at h3
        cases r with
        | ok n W' =>
          cases n <;> simp only [newUpon] at h3 <;> simp only [Oper.upon]
          case value u => exact h _ _ _ (hG.upd (hg.keepF i F hp) u) ((hW.keep hg hG h3.1).upd h3.2) (h2 u ⟨W', (hW.keep hg hG h3.1).upd h3.2⟩)
          case skip => exact h _ _ _ (hG.upd (hg.keepF i F hp) _) ((hW.keep hg hG h3.1).upd h3.2) (h2 _ ⟨W', (hW.keep hg hG h3.1).upd h3.2⟩)
          case enter f args =>
            obtain ⟨hl, hc⟩ := h3
            refine hc.mono fun e W'' he => ?_
            obtain ⟨v, rfl, hl2, hF⟩ := he
            have hA := (hW.keep hg hG (hg.tr _ _ _ hl hl2)).upd (i := i) (F := fun W => F W v) hF
            exact h _ _ _ (hG.upd (hg.keepF i F hp) v) hA (h2 v ⟨W'', hA⟩)
        | halt x W' => simp only [newUpon] at h3
    · rename_i hw; simp only [hw] at hh; exact h _ _ _ hG hW hh

theorem wpAny_of_anyE {Q : (Nat → World → Prop) → Act → Prop} {Q' : Exit → Act → World → Prop} (hg : Good Le C Ph) (hQ : ∀ G a W, KeepG Le G → AllF C G W → Q G a → Q' .normal a W) :
    ∀ (fuel : Nat) (listed : Array Bool) (G : Nat → World → Prop) (a : Act) (W : World), KeepG Le G → AllF C G W → anyE P md ops Le C Ph Q fuel listed G a → wpAny P md ops Q' fuel listed a W
  | 0, _, _, _, _, hG, hW, h => ⟨h.1, hQ _ _ _ hG hW h.2⟩
  | fuel + 1, _, _, _, _, hG, hW, h => ⟨fun h0 => hQ _ _ _ hG hW (h.1 h0), fun i hi => wpOp_of_opE hg hG hW (fun G' a' W' hG' hW' => wpAny_of_anyE hg hQ fuel _ G' a' W' hG' hW') (h.2 i hi)⟩

/-- Two operations that are apart may change places. -/
theorem opE_swap {i j : Nat} {oi oj : Oper} (hg : Good Le C Ph) (hi : ops[i]? = some oi) (hj : ops[j]? = some oj) (hap : oi.apart ops oj = true) (hsi : ∀ cs b, oi.op ≠ .select cs b) (hsj : ∀ cs b, oj.op ≠ .select cs b)
    (hnj : ∀ e ∈ oj.after, Region.binds .any e = true → e.on ≠ i) (hni : ∀ e ∈ oi.after, Region.binds .any e = true → e.on ≠ j)
    {K : (Nat → World → Prop) → Act → Prop} {G : Nat → World → Prop} {a : Act} (hG : KeepG Le G) (h : opE P ops Le C Ph i (fun G' a' => opE P ops Le C Ph j K G' a') G a) : opE P ops Le C Ph j (fun G' a' => opE P ops Le C Ph i K G' a') G a := by
  obtain ⟨h1, h2, h3⟩ := Oper.apart_spec hap
  have wj : ∀ v, Region.wanted oj (yielded ops (a.put oi.dst v).tmps) = Region.wanted oj (yielded ops a.tmps) := fun v => wanted_put oj a oi.dst v h1
  have wi : ∀ v, Region.wanted oi (yielded ops (a.put oj.dst v).tmps) = Region.wanted oi (yielded ops a.tmps) := fun v => wanted_put oi a oj.dst v h3
  have xj : ∀ v, execOp (a.put oi.dst v).eval oj = execOp a.eval oj := fun v => execOp_put oj hsj a oi.dst v h1
  have xi : ∀ v, execOp (a.put oj.dst v).eval oi = execOp a.eval oi := fun v => execOp_put oi hsi a oj.dst v h3
  have pc : ∀ v u, (a.put oj.dst u).put oi.dst v = (a.put oi.dst v).put oj.dst u := fun v u => (Act.put_comm a v u h2).symm
  unfold opE at h ⊢
  simp only [hi, hj, wj, wi, xj, xi, pc] at h ⊢
  intro hne
  have h := h hne
  by_cases hwi : Region.wanted oi (yielded ops a.tmps) = true
  · by_cases hwj : Region.wanted oj (yielded ops a.tmps) = true
    · simp only [hwi, hwj, if_true] at h ⊢
      obtain ⟨W0, hW0⟩ := hne
      cases hpi : Ph i with
      | none =>
        simp only [hpi] at h
        obtain ⟨v, hv, h⟩ := h
        have h := h ⟨W0, hW0⟩
        cases hpj : Ph j with
        | none =>
          simp only [hpj] at h
          obtain ⟨u, hu, h⟩ := h
          exact ⟨u, hu, fun _ => ⟨v, hv, h⟩⟩
        | some F =>
          simp only [hpj] at h
          obtain ⟨hu, h⟩ := h
          exact ⟨hu, fun u hW1 _ => ⟨v, fun W hW => hv W ((cls_upd hni W).1 hW), h u hW1⟩⟩
      | some E =>
        simp only [hpi] at h
        obtain ⟨hv, h⟩ := h
        obtain ⟨v0, W1, hW1⟩ := new_out hg hG hW0 i (hv W0 (hW0.cls oi))
        have h0 := h v0 ⟨W1, hW1⟩ ⟨W1, hW1⟩
        cases hpj : Ph j with
        | none =>
          simp only [hpj] at h h0
          obtain ⟨u, hu, _⟩ := h0
          have hu' : ∀ W, Cls C oj G W → oneUpon W u ((execOp a.eval oj).run P W) := fun W hW => hu W ((cls_upd hnj W).2 hW)
          refine ⟨u, hu', fun _ => ⟨hv, fun v hne => ?_⟩⟩
          obtain ⟨W2, hW2⟩ := hne
          obtain ⟨u2, hu2, h5⟩ := h v ⟨W2, hW2⟩ ⟨W2, hW2⟩
          have e1 := hu W2 ((cls_upd hnj W2).2 (hW2.of_upd hnj))
          have e2 := hu2 W2 (hW2.cls oj)
          have : u = u2 := by
            unfold oneUpon at e1 e2
            rcases e1 with e1 | ⟨e1, r1⟩ <;> rcases e2 with e2 | ⟨e2, r2⟩ <;> rw [e1] at e2 <;> simp_all
          subst this
          exact h5
        | some F =>
          simp only [hpj] at h h0
          obtain ⟨hu, _⟩ := h0
          refine ⟨fun W hW => hu W ((cls_upd hnj W).2 hW), fun u hne _ => ⟨fun W hW => hv W ((cls_upd hni W).1 hW), fun v hne2 => ?_⟩⟩
          rw [upd_comm] at hne2 ⊢
          obtain ⟨W2, hW2⟩ := hne2
          exact (h v ⟨W2, hW2.less⟩ ⟨W2, hW2.less⟩).2 u ⟨W2, hW2⟩
    · simp only [hwi, hwj, if_true] at h ⊢
      intro _
      cases hpi : Ph i with
      | none => simp only [hpi] at h; obtain ⟨v, hv, h⟩ := h; exact ⟨v, hv, h hne⟩
      | some E => simp only [hpi] at h; exact ⟨h.1, fun v hv => h.2 v hv hv⟩
  · by_cases hwj : Region.wanted oj (yielded ops a.tmps) = true
    · simp only [hwi, hwj, if_true] at h ⊢
      have h := h hne
      cases hpj : Ph j with
      | none => simp only [hpj] at h; obtain ⟨v, hv, h⟩ := h; exact ⟨v, hv, fun _ => h⟩
      | some E => simp only [hpj] at h; exact ⟨h.1, fun v hv _ => h.2 v hv⟩
    · simp only [hwi, hwj] at h ⊢
      exact fun _ => h hne

theorem opE_out {i : Nat} {G : Nat → World → Prop} {a : Act} {K : (Nat → World → Prop) → Act → Prop} (hg : Good Le C Ph) (hG : KeepG Le G) (hne : ∃ W, AllF C G W) (h : opE P ops Le C Ph i K G a) : ∃ G' a', K G' a' := by
  unfold opE at h
  split at h
  · exact ⟨_, _, h⟩
  · rename_i o ho
    have h := h hne
    split at h
    · split at h
      · obtain ⟨v, _, h⟩ := h; exact ⟨_, _, h⟩
      · obtain ⟨h1, h2⟩ := h
        obtain ⟨W0, hW0⟩ := hne
        obtain ⟨v0, W1, hW1⟩ := new_out hg hG hW0 i (h1 W0 (hW0.cls o))
        exact ⟨_, _, h2 v0 ⟨W1, hW1⟩⟩
    · exact ⟨_, _, h⟩

theorem anyE_first {Q : (Nat → World → Prop) → Act → Prop} {i : Nat} {oi : Oper} (hg : Good Le C Ph) (hi : ops[i]? = some oi) (hsel : ∀ (j : Nat) (o : Oper) cs b, ops[j]? = some o → o.op ≠ .select cs b) :
    ∀ (fuel : Nat) (listed : Array Bool) (G : Nat → World → Prop) (a : Act),
      (∀ j oj, ops[j]? = some oj → j ≠ i → listed.getD j true = false → (∀ e ∈ oj.after, Region.binds .any e = true → e.on ≠ i) → oi.apart ops oj = true) →
      i ∈ Region.ready .any ops listed → KeepG Le G → opE P ops Le C Ph i (anyE P .any ops Le C Ph Q fuel (listed.setIfInBounds i true)) G a → anyE P .any ops Le C Ph Q (fuel + 1) listed G a := by
  intro fuel
  induction fuel with
  | zero =>
    intro listed G a _ hr hG H
    refine ⟨fun h => (by rw [h] at hr; cases hr), fun j hj => ?_⟩
    by_cases hji : j = i
    · subst hji; exact H
    · have hm := ready_mono hj hji
      obtain ⟨_, oj, hoj, _⟩ := mem_ready.1 hj
      unfold opE
      simp only [hoj]
      intro hne
      obtain ⟨G', a', hK⟩ := opE_out hg hG hne H
      rw [hK.1] at hm
      cases hm
  | succ fuel ih =>
    intro listed G a hfree hr hG H
    refine ⟨fun h => (by rw [h] at hr; cases hr), fun j hj => ?_⟩
    by_cases hji : j = i
    · subst hji; exact H
    · obtain ⟨hjun, oj, hoj, hall⟩ := mem_ready.1 hj
      have hnot : ∀ (x y : Nat) (ox : Oper), (listed.getD y true = false) → (∀ e ∈ ox.after, Region.binds .any e = true → listed.getD e.on false = true) → ∀ e ∈ ox.after, Region.binds .any e = true → e.on ≠ y := fun x y ox h0 hall e he hb heq => by
        have h1 := hall e he hb
        rw [heq] at h1
        rcases Nat.lt_or_ge y listed.size with h' | h'
        · simp [h'] at h0 h1; rw [h0] at h1; cases h1
        · simp [Array.getElem?_eq_none h'] at h1
      obtain ⟨hiun, oi', hoi', halli⟩ := mem_ready.1 hr
      obtain rfl : oi' = oi := by rw [hi] at hoi'; exact (Option.some.inj hoi').symm
      have hnj := hnot j i oj hiun hall
      have hni := hnot i j oi' hjun halli
      have h1 : opE P ops Le C Ph i (fun G' a' => opE P ops Le C Ph j (anyE P .any ops Le C Ph Q fuel ((listed.setIfInBounds i true).setIfInBounds j true)) G' a') G a :=
        opE_mono hg hG (fun G' a' _ hK => hK.2 j (ready_mono hj hji)) H
      have h2 := opE_swap hg hi hoj (hfree j oj hoj hji hjun hnj) (fun cs b => hsel i oi' cs b hi) (fun cs b => hsel j oj cs b hoj) hnj hni hG h1
      have hfree' : ∀ k ok, ops[k]? = some ok → k ≠ i → (listed.setIfInBounds j true).getD k true = false →
          (∀ e ∈ ok.after, Region.binds .any e = true → e.on ≠ i) → oi'.apart ops ok = true := fun k ok hk hki hun hno => by
        refine hfree k ok hk hki ?_ hno
        by_cases hjk : j = k
        · subst hjk; exact hjun
        · rw [getD_set_ne true hjk] at hun; exact hun
      refine opE_mono hg hG (fun G' a' hG' h3 => ih (listed.setIfInBounds j true) G' a' hfree' (ready_mono hr (Ne.symm hji)) hG' ?_) h2
      rw [Array.setIfInBounds_comm _ _ hji]
      exact h3

/-- The walk in the order of the text. -/
def wpE (P : Program) (ops : Array Oper) (Le : World → World → Prop) (C : World → Prop) (Ph : Nat → Option (World → Value → Prop)) (Q : (Nat → World → Prop) → Act → Prop) : Nat → List Oper → (Nat → World → Prop) → Act → Prop
  | _, [], G, a => Q G a
  | k, o :: rest, G, a =>
    if Region.wanted o (yielded ops a.tmps) then
      match Ph k with
      | none => ∃ v, (∀ W, Cls C o G W → oneUpon W v ((execOp a.eval o).run P W)) ∧ wpE P ops Le C Ph Q (k + 1) rest G (a.put o.dst v)
      | some F => (∀ W, Cls C o G W → newUpon P Le W F ((execOp a.eval o).run P W)) ∧ ∀ v, (∃ W, F W v) → wpE P ops Le C Ph Q (k + 1) rest (upd G k (fun W => F W v)) (a.put o.dst v)
    else wpE P ops Le C Ph Q (k + 1) rest G (a.put o.dst undef)

theorem wpE_det {Q : (Nat → World → Prop) → Act → Prop} {k : Nat} {o : Oper} {rest : List Oper} {G : Nat → World → Prop} {a : Act} (v : Value) (hp : Ph k = none) (hw : Region.wanted o (yielded ops a.tmps) = true)
    (hr : ∀ W, Cls C o G W → (execOp a.eval o).run P W = .ok (.value v) W) (h : wpE P ops Le C Ph Q (k + 1) rest G (a.put o.dst v)) : wpE P ops Le C Ph Q k (o :: rest) G a := by
  unfold wpE
  rw [if_pos hw]
  simp only [hp]
  exact ⟨v, fun W hW => .inl (hr W hW), h⟩
theorem wpE_void {Q : (Nat → World → Prop) → Act → Prop} {k : Nat} {o : Oper} {rest : List Oper} {G : Nat → World → Prop} {a : Act} (hp : Ph k = none) (hw : Region.wanted o (yielded ops a.tmps) = true)
    (hr : ∀ W, Cls C o G W → (execOp a.eval o).run P W = .ok .skip W) (h : wpE P ops Le C Ph Q (k + 1) rest G (a.put o.dst undef)) : wpE P ops Le C Ph Q k (o :: rest) G a := by
  unfold wpE
  rw [if_pos hw]
  simp only [hp]
  exact ⟨undef, fun W hW => .inr ⟨hr W hW, rfl⟩, h⟩
theorem wpE_new {Q : (Nat → World → Prop) → Act → Prop} {k : Nat} {o : Oper} {rest : List Oper} {G : Nat → World → Prop} {a : Act} (F : World → Value → Prop) (hp : Ph k = some F) (hw : Region.wanted o (yielded ops a.tmps) = true)
    (hr : ∀ W, Cls C o G W → newUpon P Le W F ((execOp a.eval o).run P W)) (h : ∀ v, (∃ W, F W v) → wpE P ops Le C Ph Q (k + 1) rest (upd G k (fun W => F W v)) (a.put o.dst v)) : wpE P ops Le C Ph Q k (o :: rest) G a := by
  unfold wpE
  rw [if_pos hw]
  simp only [hp]
  exact ⟨hr, h⟩
theorem wpE_skip {Q : (Nat → World → Prop) → Act → Prop} {k : Nat} {o : Oper} {rest : List Oper} {G : Nat → World → Prop} {a : Act} (hw : Region.wanted o (yielded ops a.tmps) = false) (h : wpE P ops Le C Ph Q (k + 1) rest G (a.put o.dst undef)) : wpE P ops Le C Ph Q k (o :: rest) G a := by
  unfold wpE
  rw [if_neg (by rw [hw]; simp)]
  exact h
theorem wpE_detK {Q : (Nat → World → Prop) → Act → Prop} {k : Nat} {o : Oper} {rest : List Oper} {G : Nat → World → Prop} {a : Act} (hp : Ph k = none) (hw : Region.wanted o (yielded ops a.tmps) = true)
    (h : ∀ K : Act → Prop, (∀ a', wpE P ops Le C Ph Q (k + 1) rest G a' → K a') → ∃ v, (∀ W, Cls C o G W → (execOp a.eval o).run P W = .ok (.value v) W) ∧ K (a.put o.dst v)) : wpE P ops Le C Ph Q k (o :: rest) G a := by
  obtain ⟨v, h1, h2⟩ := h _ (fun _ h => h)
  exact wpE_det v hp hw h1 h2
theorem wpE_newK {Q : (Nat → World → Prop) → Act → Prop} {k : Nat} {o : Oper} {rest : List Oper} {G : Nat → World → Prop} {a : Act} (F : World → Value → Prop) (hp : Ph k = some F) (hw : Region.wanted o (yielded ops a.tmps) = true)
    (hr : ∀ W, Cls C o G W → newUpon P Le W F ((execOp a.eval o).run P W))
    (h : ∀ v, (∃ W, F W v) → ∀ K : Act → Prop, (∀ a', wpE P ops Le C Ph Q (k + 1) rest (upd G k (fun W => F W v)) a' → K a') → K (a.put o.dst v)) : wpE P ops Le C Ph Q k (o :: rest) G a :=
  wpE_new F hp hw hr fun v hv => h v hv _ (fun _ h => h)
theorem wpE_skipK {Q : (Nat → World → Prop) → Act → Prop} {k : Nat} {o : Oper} {rest : List Oper} {G : Nat → World → Prop} {a : Act} (hw : Region.wanted o (yielded ops a.tmps) = false)
    (h : ∀ K : Act → Prop, (∀ a', wpE P ops Le C Ph Q (k + 1) rest G a' → K a') → K (a.put o.dst undef)) : wpE P ops Le C Ph Q k (o :: rest) G a :=
  wpE_skip hw (h _ (fun _ h => h))
theorem wpE_nil {Q : (Nat → World → Prop) → Act → Prop} {k : Nat} {G : Nat → World → Prop} {a : Act} (h : Q G a) : wpE P ops Le C Ph Q k [] G a := by unfold wpE; exact h

theorem anyE_lex {Q : (Nat → World → Prop) → Act → Prop} (hg : Good Le C Ph) (hs : Region.noSelect ops = true) : ∀ (l : List Oper) (k : Nat) (listed : Array Bool) (G : Nat → World → Prop) (a : Act), KeepG Le G → (∀ j, l[j]? = ops[k + j]?) →
    Region.lexFrom .any ops l.length k listed = true → wpE P ops Le C Ph Q k l G a → anyE P .any ops Le C Ph Q l.length listed G a
  | [], _, _, _, _, _, _, hB, h => ⟨by simpa [Region.lexFrom] using hB, h⟩
  | o :: l, k, listed, G, a, hG, hl, hB, h => by
    have h0 : ops[k]? = some o := by simpa using (hl 0).symm
    simp only [List.length_cons, Region.lexFrom, Bool.and_eq_true] at hB
    obtain ⟨⟨hr, hf⟩, hB'⟩ := hB
    have hst : opE P ops Le C Ph k (wpE P ops Le C Ph Q (k + 1) l) G a := by
      unfold opE; simp only [h0]
      unfold wpE at h
      intro _
      split
      · rename_i hw
        simp only [hw, if_true] at h
        split
        · rename_i hp; simp only [hp] at h; exact h
        · rename_i F hp; simp only [hp] at h; exact ⟨h.1, fun v hv => h.2 v (by obtain ⟨W, hW⟩ := hv; exact ⟨W, (hW.2 k).2 rfl⟩)⟩
      · rename_i hw; simp only [hw] at h; exact h
    refine anyE_first hg h0 (Region.noSelect_spec hs) l.length listed G a (Region.free_spec h0 hf) (by simpa using hr) hG ?_
    exact opE_mono hg hG (fun G' a' hG' hK => anyE_lex hg hs l (k + 1) _ G' a' hG' (fun j => by have := hl (j + 1); simpa [Nat.add_assoc, Nat.add_comm 1 j] using this) hB' hK) hst

/-- One walk in the order of the text serves every order. -/
theorem wp_region_ext {id : Nat} {Q : Exit → Act → World → Prop} {a : Act} {w : World} {l : List Oper} (Le : World → World → Prop) (C : World → Prop) (Ph : Nat → Option (World → Value → Prop)) (hm : P.follows .mixedOrders = true) (hB : Region.lexB .any l.toArray = true)
    (hg : Good Le C Ph) (hC : C { w with drawn := w.drawn + 1 })
    (h : wpE P l.toArray Le C Ph (fun G a' => ∀ W, AllF C G W → Q .normal a' W) 0 l (fun _ _ => True) a) : (Code.region id l.toArray true).wp P Q a w := by
  simp only [Region.lexB, Bool.and_eq_true] at hB
  refine wp_region_any hm (wpAny_of_anyE (Q := fun G a' => ∀ W, AllF C G W → Q .normal a' W) hg (fun G a W _ hW h => h W hW) _ _ (fun _ _ => True) _ _ (fun _ _ _ _ h => h) ⟨hC, fun _ => trivial⟩ ?_)
  have := anyE_lex (P := P) hg hB.1 l 0 (Array.replicate l.toArray.size false) (fun _ _ => True) a (fun _ _ _ _ h => h) (by simp) (by simpa using hB.2) h
  simpa using this

/-! ### The same, with last operations that come behind all others in every order. -/
def anyLE (P : Program) (ops : Array Oper) (Le : World → World → Prop) (C : World → Prop) (Ph : Nat → Option (World → Value → Prop)) (n : Nat) (L : Array Bool → (Nat → World → Prop) → Act → Prop) : Nat → Array Bool → (Nat → World → Prop) → Act → Prop
  | 0, listed, G, a => L listed G a
  | f + 1, listed, G, a => Region.ready .any ops listed ≠ [] ∧ ∀ i ∈ Region.ready .any ops listed, i < n ∧ opE P ops Le C Ph i (anyLE P ops Le C Ph n L f (listed.setIfInBounds i true)) G a

theorem wpAny_of_headE {n g : Nat} {L : Array Bool → (Nat → World → Prop) → Act → Prop} {Q' : Exit → Act → World → Prop} (hg : Good Le C Ph) (hL : ∀ listed G a W, KeepG Le G → AllF C G W → L listed G a → wpAny P .any ops Q' g listed a W) :
    ∀ (f : Nat) (listed : Array Bool) (G : Nat → World → Prop) (a : Act) (W : World), KeepG Le G → AllF C G W → anyLE P ops Le C Ph n L f listed G a → wpAny P .any ops Q' (f + g) listed a W
  | 0, listed, G, a, W, hG, hW, h => by rw [Nat.zero_add]; exact hL _ _ _ _ hG hW h
  | f + 1, listed, G, a, W, hG, hW, h => by
    rw [show f + 1 + g = (f + g) + 1 by omega]
    exact ⟨fun h0 => absurd h0 h.1, fun i hi => wpOp_of_opE hg hG hW (fun G' a' W' hG' hW' h' => wpAny_of_headE hg hL f _ G' a' W' hG' hW' h') (h.2 i hi).2⟩

theorem anyLE_first {n i : Nat} {oi : Oper} {L : Array Bool → (Nat → World → Prop) → Act → Prop} (hg : Good Le C Ph) (hi : ops[i]? = some oi) (hsel : ∀ (j : Nat) (o : Oper) cs b, ops[j]? = some o → o.op ≠ .select cs b)
    (hs : Region.sinkB .any ops n = true) (hc : Region.chainB .any ops n = true) (hn : n < ops.size) (hin : i < n) (hdone : ∀ listed G a, L listed G a → ∀ j ∈ Region.ready .any ops listed, n ≤ j) :
    ∀ (fuel : Nat) (listed : Array Bool) (G : Nat → World → Prop) (a : Act), HeadInv .any ops n listed →
      (∀ j oj, ops[j]? = some oj → j ≠ i → listed.getD j true = false → (∀ e ∈ oj.after, Region.binds .any e = true → e.on ≠ i) → oi.apart ops oj = true) →
      i ∈ Region.ready .any ops listed → KeepG Le G → opE P ops Le C Ph i (anyLE P ops Le C Ph n L fuel (listed.setIfInBounds i true)) G a → anyLE P ops Le C Ph n L (fuel + 1) listed G a := by
  intro fuel
  induction fuel with
  | zero =>
    intro listed G a inv _ hr hG H
    have hun := (mem_ready.1 hr).1
    refine ⟨fun h => (by rw [h] at hr; cases hr), fun j hj => ?_⟩
    have hjn : j < n := by
      rcases Nat.lt_or_ge j n with h | h
      · exact h
      · exact absurd hj (tail_waits hs hc hn inv _ i rfl hin hun j h)
    refine ⟨hjn, ?_⟩
    by_cases hji : j = i
    · subst hji; exact H
    · have hm := ready_mono hj hji
      obtain ⟨_, oj, hoj, _⟩ := mem_ready.1 hj
      unfold opE
      simp only [hoj]
      intro hne
      obtain ⟨G', a', hK⟩ := opE_out hg hG hne H
      have := hdone _ _ _ hK j hm
      omega
  | succ fuel ih =>
    intro listed G a inv hfree hr hG H
    have hun := (mem_ready.1 hr).1
    refine ⟨fun h => (by rw [h] at hr; cases hr), fun j hj => ?_⟩
    have hjn : j < n := by
      rcases Nat.lt_or_ge j n with h | h
      · exact h
      · exact absurd hj (tail_waits hs hc hn inv _ i rfl hin hun j h)
    refine ⟨hjn, ?_⟩
    by_cases hji : j = i
    · subst hji; exact H
    · obtain ⟨hjun, oj, hoj, hall⟩ := mem_ready.1 hj
      have hnot : ∀ (y : Nat) (ox : Oper), (listed.getD y true = false) → (∀ e ∈ ox.after, Region.binds .any e = true → listed.getD e.on false = true) → ∀ e ∈ ox.after, Region.binds .any e = true → e.on ≠ y := fun y ox h0 hall e he hb heq => by
        have h1 := hall e he hb
        rw [heq, getD_both h0] at h1
        cases h1
      obtain ⟨hiun, oi', hoi', halli⟩ := mem_ready.1 hr
      obtain rfl : oi' = oi := by rw [hi] at hoi'; exact (Option.some.inj hoi').symm
      have hnj := hnot i oj hiun hall
      have hni := hnot j oi' hjun halli
      have h1 : opE P ops Le C Ph i (fun G' a' => opE P ops Le C Ph j (anyLE P ops Le C Ph n L fuel ((listed.setIfInBounds i true).setIfInBounds j true)) G' a') G a :=
        opE_mono hg hG (fun G' a' _ hK => (hK.2 j (ready_mono hj hji)).2) H
      have h2 := opE_swap hg hi hoj (hfree j oj hoj hji hjun hnj) (fun cs b => hsel i oi' cs b hi) (fun cs b => hsel j oj cs b hoj) hnj hni hG h1
      have hfree' : ∀ k ok, ops[k]? = some ok → k ≠ i → (listed.setIfInBounds j true).getD k true = false →
          (∀ e ∈ ok.after, Region.binds .any e = true → e.on ≠ i) → oi'.apart ops ok = true := fun k ok hk hki hun hno => by
        refine hfree k ok hk hki ?_ hno
        by_cases hjk : j = k
        · subst hjk; exact hjun
        · rw [getD_set_ne true hjk] at hun; exact hun
      refine opE_mono hg hG (fun G' a' hG' h3 => ih (listed.setIfInBounds j true) G' a' (inv.set hj hjn) hfree' (ready_mono hr (Ne.symm hji)) hG' ?_) h2
      rw [Array.setIfInBounds_comm _ _ hji]
      exact h3

theorem anyLE_lex {n g : Nat} {Lq : (Nat → World → Prop) → Act → Prop} (hg : Good Le C Ph) (hsel : Region.noSelect ops = true) (hs : Region.sinkB .any ops n = true) (hc : Region.chainB .any ops n = true) (hn : n < ops.size) :
    ∀ (l : List Oper) (k : Nat) (listed : Array Bool) (G : Nat → World → Prop) (a : Act), KeepG Le G → (∀ j, j < l.length → l[j]? = ops[k + j]?) → k + l.length = n → HeadInv .any ops n listed →
    Region.lexHead .any ops g l.length k listed = true → wpE P ops Le C Ph Lq k l G a →
    anyLE P ops Le C Ph n (fun listed' G' a' => Region.seqB .any ops g n listed' = true ∧ Lq G' a') l.length listed G a
  | [], k, listed, G, a, _, _, hk, _, hB, h => by
    have : k = n := by simpa using hk
    subst this
    exact ⟨by simpa [Region.lexHead] using hB, h⟩
  | o :: l, k, listed, G, a, hG, hl, hk, inv, hB, h => by
    have h0 : ops[k]? = some o := by simpa using (hl 0 (by simp)).symm
    simp only [List.length_cons, Region.lexHead, Bool.and_eq_true] at hB
    obtain ⟨⟨hr, hf⟩, hB'⟩ := hB
    have hkn : k < n := by simp only [List.length_cons] at hk; omega
    have hr' : k ∈ Region.ready .any ops listed := by simpa using hr
    have hst : opE P ops Le C Ph k (wpE P ops Le C Ph Lq (k + 1) l) G a := by
      unfold opE; simp only [h0]
      unfold wpE at h
      intro _
      split
      · rename_i hw
        simp only [hw, if_true] at h
        split
        · rename_i hp; simp only [hp] at h; exact h
        · rename_i F hp; simp only [hp] at h; exact ⟨h.1, fun v hv => h.2 v (by obtain ⟨W, hW⟩ := hv; exact ⟨W, (hW.2 k).2 rfl⟩)⟩
      · rename_i hw; simp only [hw] at h; exact h
    refine anyLE_first hg h0 (Region.noSelect_spec hsel) hs hc hn hkn (fun listed' G' a' hL => seqB_ready hL.1) l.length listed G a inv (Region.free_spec h0 hf) hr' hG ?_
    exact opE_mono hg hG (fun G' a' hG' hK => anyLE_lex hg hsel hs hc hn l (k + 1) _ G' a' hG' (fun j hj => by have := hl (j + 1) (by simp; omega); simpa [Nat.add_assoc, Nat.add_comm 1 j] using this) (by simp only [List.length_cons] at hk; omega) (inv.set hr' hkn) hB' hK) hst

/-- One walk in the order of the text; the operations from n on as they stand. -/
theorem wp_region_ext_tail {id : Nat} {Q : Exit → Act → World → Prop} {a : Act} {w : World} {l : List Oper} (n : Nat) (Le : World → World → Prop) (C : World → Prop) (Ph : Nat → Option (World → Value → Prop)) (hm : P.follows .mixedOrders = true) (hB : Region.lexTailB .any l.toArray n = true)
    (hg : Good Le C Ph) (hC : C { w with drawn := w.drawn + 1 })
    (h : wpE P l.toArray Le C Ph (fun G a' => ∀ W, AllF C G W → wpList P l.toArray Q (l.drop n) a' W) 0 (l.take n) (fun _ _ => True) a) : (Code.region id l.toArray true).wp P Q a w := by
  simp only [Region.lexTailB, Bool.and_eq_true, decide_eq_true_eq] at hB
  obtain ⟨⟨⟨⟨hsel, hn⟩, hs⟩, hc⟩, hlex⟩ := hB
  have hn' : n < l.length := by simpa using hn
  have htl : (l.take n).length = n := by simp; omega
  have hdl : (l.drop n).length = l.toArray.size - n := by simp
  have inv0 : HeadInv .any l.toArray n (Array.replicate l.toArray.size false) :=
    ⟨by simp, fun j oj _ hl => (by rw [getD_replicate_false] at hl; cases hl), fun t _ ht => getD_in (by simpa using ht) (getD_replicate_false _ _)⟩
  have H := anyLE_lex (P := P) (g := l.toArray.size - n) hg hsel hs hc hn (l.take n) 0 _ (fun _ _ => True) a (fun _ _ _ _ h => h) (fun j hj => by
    have hj' : j < n := by rw [htl] at hj; exact hj
    simp [hj']) (by simpa using htl) inv0 (by rw [htl]; exact hlex) h
  refine wp_region_any hm ?_
  have := wpAny_of_headE (Q' := Q) (g := l.toArray.size - n) hg (fun listed G' a' W hG hW hL => by
    have := wpAny_of_seq (md := .any) (Q' := Q) (l.drop n) n listed a' W (fun j => by simp [List.getElem?_drop]) (by rw [hdl]; exact hL.1) (hL.2 W hW)
    rwa [hdl] at this) _ _ _ _ { w with drawn := w.drawn + 1 } (fun _ _ _ _ h => h) ⟨hC, fun _ => trivial⟩ H
  rw [htl, show n + (l.toArray.size - n) = l.toArray.size by omega] at this
  exact this
end
end Go.Proofs.YtimkijmjbnmcbaaGreat
