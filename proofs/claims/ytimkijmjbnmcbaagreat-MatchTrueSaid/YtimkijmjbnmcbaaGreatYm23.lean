/- Regions that draw their order, within a round of a loop over a function: one walk in the order of the text. -/
import Derived.OwnWalkIn
import Derived.RangeFuncCalls
import Derived.Test.YtimkijmjbnmcbaaGreatYm5
namespace Go.Proofs.YtimkijmjbnmcbaaGreat
open Go Go.RowKit
section
variable {P : Program} {ops : Array Oper} {md : Region.Mode} {Le : World → World → Prop} {C : World → Prop} {Ph : Nat → Option (World → Value → Prop)}
theorem wpOpIn_of_opE {r n i : Nat} {G : Nat → World → Prop} {a : Act} {K : (Nat → World → Prop) → Act → Prop} {K' : Act → World → Prop} {Q' : Exit → Act → World → Prop} {W : World} (hnd : ∀ (i : Nat) o c, ops[i]? = some o → o.op ≠ .defer c) (hg : Good Le C Ph) (hG : KeepG Le G) (hW : AllF C G W)
    (h : ∀ G' a' W', KeepG Le G' → AllF C G' W' → K G' a' → K' a' W') (hh : opE P ops Le C Ph i K G a) : wpOpIn (Fence.wide.inRound r) n P ops Q' i K' a W := by
  unfold opE at hh
  unfold wpOpIn
  split
  · rename_i ho; simp only [ho] at hh; exact h _ _ _ hG hW hh
  · rename_i o ho
    simp only [ho] at hh
    have hh := hh ⟨W, hW⟩
    split
    · rename_i hw
      simp only [hw, if_true] at hh
      unfold Oper.wpIn
      refine ⟨fun _ _ => trivial, ?_⟩
      rw [Oper.semAt_plain _ _ _ (fun c => hnd i o c ho)]
      cases hp : Ph i with
      | none =>
        simp only [hp] at hh
        obtain ⟨v, h1, h2⟩ := hh
        rcases h1 W (hW.cls o) with e | ⟨e, rfl⟩
        · rw [e]; exact h _ _ _ hG hW h2
        · rw [e]; exact h _ _ _ hG hW h2
      | some F =>
        simp only [hp] at hh
        obtain ⟨h1, h2⟩ := hh
        have h3 := h1 W (hW.cls o)
        generalize (execOp a.eval o).run P W = r at h3
        cases r with
        | ok n W' =>
          cases n <;> simp only [newUpon] at h3 <;> simp only [Oper.uponIn]
          case value u => exact h _ _ _ (hG.upd (hg.keepF i F hp) u) ((hW.keep hg hG h3.1).upd h3.2) (h2 u ⟨W', (hW.keep hg hG h3.1).upd h3.2⟩)
          case skip => exact h _ _ _ (hG.upd (hg.keepF i F hp) _) ((hW.keep hg hG h3.1).upd h3.2) (h2 _ ⟨W', (hW.keep hg hG h3.1).upd h3.2⟩)
          case enter f args =>
            obtain ⟨hl, hc⟩ := h3
            refine ⟨fun h => by simp [Fence.wide] at h, CallsIn.inRound _ (callsIn_wide.2 (hc.mono fun e W'' he => ?_))⟩
            obtain ⟨v, rfl, hl2, hF⟩ := he
            have hA := (hW.keep hg hG (hg.tr _ _ _ hl hl2)).upd (i := i) (F := fun W => F W v) hF
            exact h _ _ _ (hG.upd (hg.keepF i F hp) v) hA (h2 v ⟨W'', hA⟩)
        | halt x W' => simp only [newUpon] at h3
    · rename_i hw; simp only [hw] at hh; exact ⟨fun _ _ => trivial, h _ _ _ hG hW hh⟩
theorem wpAnyIn_of_anyE {r n : Nat} {Q : (Nat → World → Prop) → Act → Prop} {Q' : Exit → Act → World → Prop} (hnd : ∀ (i : Nat) o c, ops[i]? = some o → o.op ≠ .defer c) (hg : Good Le C Ph) (hQ : ∀ G a W, KeepG Le G → AllF C G W → Q G a → Q' .normal a W) :
    ∀ (fuel : Nat) (listed : Array Bool) (G : Nat → World → Prop) (a : Act) (W : World), KeepG Le G → AllF C G W → anyE P md ops Le C Ph Q fuel listed G a → wpAnyIn (Fence.wide.inRound r) n P md ops Q' fuel listed a W
  | 0, _, _, _, _, hG, hW, h => ⟨h.1, hQ _ _ _ hG hW h.2⟩
  | fuel + 1, _, _, _, _, hG, hW, h => ⟨fun h0 => hQ _ _ _ hG hW (h.1 h0), fun i hi => wpOpIn_of_opE hnd hg hG hW (fun G' a' W' hG' hW' => wpAnyIn_of_anyE hnd hg hQ fuel _ G' a' W' hG' hW') (h.2 i hi)⟩
end
/-- No operation of the list is a defer statement. -/
def noDefer (l : List Oper) : Bool := l.all fun o => match o.op with | .defer _ => false | _ => true
theorem noDefer_spec {l : List Oper} (h : noDefer l = true) : ∀ (i : Nat) o c, l.toArray[i]? = some o → o.op ≠ .defer c := by
  intro i o c hi e
  have hm : o ∈ l := by
    have h2 : l[i]? = some o := by simpa using hi
    exact List.mem_of_getElem? h2
  have := List.all_eq_true.1 h o hm
  rw [e] at this
  cases this
theorem wpIn_region_sf {P : Program} {id r n : Nat} {Q : Exit → Act → World → Prop} {a : Act} {w : World} {l : List Oper} (tab : Nat → Option SF) (hm : P.follows .mixedOrders = true) (hB : Region.lexB .any l.toArray = true) (hnd : noDefer l = true)
    (h : wpE P l.toArray Ext (Ext w) (fun i => (tab i).map SF.f) (fun G a' => ∀ W, AllF (Ext w) G W → Q .normal a' W) 0 l (fun _ _ => True) a) : (Code.region id l.toArray true).wpIn (Fence.wide.inRound r) n P Q a w := by
  simp only [Region.lexB, Bool.and_eq_true] at hB
  have hg : Good Ext (Ext w) (fun i => (tab i).map SF.f) := ⟨Ext.rfl', fun _ _ _ h k => h.tr k, fun _ _ h h1 => h1.tr h, fun i F hF W W' v hl hv => by
    cases ht : tab i with
    | none => simp [ht] at hF
    | some s =>
      simp [ht] at hF
      subst hF
      exact s.keep _ _ _ hl hv⟩
  refine wpIn_region_any hm (wpAnyIn_of_anyE (Q := fun G a' => ∀ W, AllF (Ext w) G W → Q .normal a' W) (noDefer_spec hnd) hg (fun G a W _ hW h => h W hW) _ _ (fun _ _ => True) _ _ (fun _ _ _ _ h => h) ⟨Ext.dr (Ext.rfl' _), fun _ => trivial⟩ ?_)
  have := anyE_lex (P := P) hg hB.1 l 0 (Array.replicate l.toArray.size false) (fun _ _ => True) a (fun _ _ _ _ h => h) (by simp) (by simpa using hB.2) h
  simpa using this
end Go.Proofs.YtimkijmjbnmcbaaGreat
