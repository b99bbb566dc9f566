/- Facts that last, for the operations of a region that draws its order. Regions that draw their order: quick steps. No program is named here. -/
import Derived.Test.YtimkijmjbnmcbaaGreatYm4
import Derived.Test.YtimkijmjbnmcbaaGreatYm1
namespace Go.Proofs.YtimkijmjbnmcbaaGreat
open Go.RowKit

structure SF where
  f : World → Value → Prop
  keep : ∀ W W' v, Ext W W' → f W v → f W' v
/-- This very value. -/
def SF.val (v0 : Value) : SF := ⟨fun _ v => v = v0, fun _ _ _ _ h => h⟩
/-- A slice that holds these integers. -/
def SF.ints (l : List Int) : SF := ⟨fun W v => ∃ A c, v = .slice A l.length c ∧ RInts W A l, fun _ _ _ hb ⟨A, c, e, h⟩ => ⟨A, c, e, h.to hb⟩⟩
/-- Any fact on a slice's address that lasts. -/
def SF.sl {α : Type} (sz n : Nat) (R : World → List Value → α → Prop) (hR : Keeps R) (l : List α) : SF := ⟨fun W v => ∃ A c, v = .slice A n c ∧ n = l.length ∧ RSl sz R W A l, fun _ _ _ hb ⟨A, c, e, hn, h⟩ => ⟨A, c, e, hn, h.to hR hb⟩⟩

/-- A block of one cell that has been made for 'append'. -/
def SF.one (x : Int) : SF := ⟨fun W v => ∃ g, v = .slice (some ⟨g, 0, none⟩) 1 1 ∧ g < W.heap.size ∧ W.cell? ⟨g, 0, none⟩ = some (.int .i64 x), fun _ _ _ hb ⟨g, e, h, hc⟩ => ⟨g, e, hb.lt h, cellE hb hc h⟩⟩
/-- Two results: a list of integers, an error. -/
def SF.intsErr (l : List Int) (er : Int) : SF := ⟨fun W v => ∃ A c, v = .tuple #[.slice A l.length c, .int .i64 er] ∧ RInts W A l, fun _ _ _ hb ⟨A, c, e, h⟩ => ⟨A, c, e, h.to hb⟩⟩

theorem wp_region_sf {P : Program} {id : Nat} {Q : Exit → Act → World → Prop} {a : Act} {w : World} {l : List Oper} (tab : Nat → Option SF) (hm : P.follows .mixedOrders = true) (hB : Region.lexB .any l.toArray = true)
    (h : wpE P l.toArray Ext (Ext w) (fun i => (tab i).map SF.f) (fun G a' => ∀ W, AllF (Ext w) G W → Q .normal a' W) 0 l (fun _ _ => True) a) : (Code.region id l.toArray true).wp P Q a w :=
  wp_region_ext Ext (Ext w) _ hm hB ⟨Ext.rfl', fun _ _ _ h k => h.tr k, fun _ _ h h1 => h1.tr h, fun i F hF W W' v hl hv => by
    cases ht : tab i with
    | none => simp [ht] at hF
    | some s =>
      simp [ht] at hF
      subst hF
      exact s.keep _ _ _ hl hv⟩ (Ext.dr (Ext.rfl' _)) h

theorem wp_region_sf_tail {P : Program} {id : Nat} {Q : Exit → Act → World → Prop} {a : Act} {w : World} {l : List Oper} (n : Nat) (tab : Nat → Option SF) (hm : P.follows .mixedOrders = true) (hB : Region.lexTailB .any l.toArray n = true)
    (h : wpE P l.toArray Ext (Ext w) (fun i => (tab i).map SF.f) (fun G a' => ∀ W, AllF (Ext w) G W → wpList P l.toArray Q (l.drop n) a' W) 0 (l.take n) (fun _ _ => True) a) : (Code.region id l.toArray true).wp P Q a w :=
  wp_region_ext_tail n Ext (Ext w) _ hm hB ⟨Ext.rfl', fun _ _ _ h k => h.tr k, fun _ _ h h1 => h1.tr h, fun i F hF W W' v hl hv => by
    cases ht : tab i with
    | none => simp [ht] at hF
    | some s =>
      simp [ht] at hF
      subst hF
      exact s.keep _ _ _ hl hv⟩ (Ext.dr (Ext.rfl' _)) h
end Go.Proofs.YtimkijmjbnmcbaaGreat
namespace Go.Proofs.YtimkijmjbnmcbaaGreat
open Go
section
variable {P : Program} {ops : Array Oper} {Le : World → World → Prop} {C : World → Prop} {Ph : Nat → Option (World → Value → Prop)}
theorem wanted_no {tmps : Array Value} {o : Oper} {j s : Nat} {b want : Bool} (hg : o.guard = some (j, want)) (hs : (ops[j]?).bind (·.dst) = some s) (hv : tmps[s]? = some (.bool b)) (hb : (b == want) = false) : Region.wanted o (yielded ops tmps) = false := by
  unfold Region.wanted
  rw [hg]
  show (yielded ops tmps j == some want) = false
  unfold yielded
  rw [hs]
  simp only [Option.bind_some, hv]
  simpa using hb
theorem wanted_yes {tmps : Array Value} {o : Oper} {j s : Nat} {b want : Bool} (hg : o.guard = some (j, want)) (hs : (ops[j]?).bind (·.dst) = some s) (hv : tmps[s]? = some (.bool b)) (hb : (b == want) = true) : Region.wanted o (yielded ops tmps) = true := by
  unfold Region.wanted
  rw [hg]
  show (yielded ops tmps j == some want) = true
  unfold yielded
  rw [hs]
  simp only [Option.bind_some, hv]
  simpa using hb
theorem wanted_not {tmps : Array Value} {o : Oper} {j s : Nat} {want : Bool} (hg : o.guard = some (j, want)) (hs : (ops[j]?).bind (·.dst) = some s) (hv : tmps[s]? = some (.bool (!want))) : Region.wanted o (yielded ops tmps) = false := wanted_no hg hs hv (by cases want <;> rfl)
theorem wanted_notF {tmps : Array Value} {o : Oper} {j s : Nat} (hg : o.guard = some (j, false)) (hs : (ops[j]?).bind (·.dst) = some s) (hv : tmps[s]? = some (.bool true)) : Region.wanted o (yielded ops tmps) = false := wanted_no hg hs hv rfl
theorem wanted_notT {tmps : Array Value} {o : Oper} {j s : Nat} (hg : o.guard = some (j, true)) (hs : (ops[j]?).bind (·.dst) = some s) (hv : tmps[s]? = some (.bool false)) : Region.wanted o (yielded ops tmps) = false := wanted_no hg hs hv rfl
theorem wanted_so {tmps : Array Value} {o : Oper} {j s : Nat} {want : Bool} (hg : o.guard = some (j, want)) (hs : (ops[j]?).bind (·.dst) = some s) (hv : tmps[s]? = some (.bool want)) : Region.wanted o (yielded ops tmps) = true := wanted_yes hg hs hv (by simp)
theorem wanted_any {tmps : Array Value} {o : Oper} (hg : o.guard = none) : Region.wanted o (yielded ops tmps) = true := by unfold Region.wanted; rw [hg]
theorem wpE_skipV {Q : (Nat → World → Prop) → Act → Prop} {k : Nat} {o : Oper} {rest : List Oper} {G : Nat → World → Prop} {a : Act} {j s : Nat} {want : Bool} (hg : o.guard = some (j, want)) (hs : (ops[j]?).bind (·.dst) = some s) (hv : a.tmps[s]? = some (.bool (!want)))
    (h : ∀ K : Act → Prop, (∀ a', wpE P ops Le C Ph Q (k + 1) rest G a' → K a') → K (a.put o.dst undef)) : wpE P ops Le C Ph Q k (o :: rest) G a := wpE_skipK (wanted_no hg hs hv (by cases want <;> rfl)) h
theorem wpE_detN {Q : (Nat → World → Prop) → Act → Prop} {k : Nat} {o : Oper} {rest : List Oper} {G : Nat → World → Prop} {a : Act} (hg : o.guard = none) (hp : Ph k = none)
    (h : ∀ K : Act → Prop, (∀ a', wpE P ops Le C Ph Q (k + 1) rest G a' → K a') → ∃ v, (∀ W, Cls C o G W → (execOp a.eval o).run P W = .ok (.value v) W) ∧ K (a.put o.dst v)) : wpE P ops Le C Ph Q k (o :: rest) G a := wpE_detK hp (wanted_any hg) h
theorem wpE_detV {Q : (Nat → World → Prop) → Act → Prop} {k : Nat} {o : Oper} {rest : List Oper} {G : Nat → World → Prop} {a : Act} {j s : Nat} {want : Bool} (hg : o.guard = some (j, want)) (hp : Ph k = none) (hs : (ops[j]?).bind (·.dst) = some s) (hv : a.tmps[s]? = some (.bool want))
    (h : ∀ K : Act → Prop, (∀ a', wpE P ops Le C Ph Q (k + 1) rest G a' → K a') → ∃ v, (∀ W, Cls C o G W → (execOp a.eval o).run P W = .ok (.value v) W) ∧ K (a.put o.dst v)) : wpE P ops Le C Ph Q k (o :: rest) G a := wpE_detK hp (wanted_yes hg hs hv (by simp)) h
theorem wpE_newN {Q : (Nat → World → Prop) → Act → Prop} {k : Nat} {o : Oper} {rest : List Oper} {G : Nat → World → Prop} {a : Act} (F : World → Value → Prop) (hg : o.guard = none) (hp : Ph k = some F)
    (hr : ∀ W, Cls C o G W → newUpon P Le W F ((execOp a.eval o).run P W))
    (h : ∀ v, (∃ W, F W v) → ∀ K : Act → Prop, (∀ a', wpE P ops Le C Ph Q (k + 1) rest (upd G k (fun W => F W v)) a' → K a') → K (a.put o.dst v)) : wpE P ops Le C Ph Q k (o :: rest) G a := wpE_newK F hp (wanted_any hg) hr h
theorem wpE_newV {Q : (Nat → World → Prop) → Act → Prop} {k : Nat} {o : Oper} {rest : List Oper} {G : Nat → World → Prop} {a : Act} (F : World → Value → Prop) {j s : Nat} {want : Bool} (hg : o.guard = some (j, want)) (hp : Ph k = some F) (hs : (ops[j]?).bind (·.dst) = some s) (hv : a.tmps[s]? = some (.bool want))
    (hr : ∀ W, Cls C o G W → newUpon P Le W F ((execOp a.eval o).run P W))
    (h : ∀ v, (∃ W, F W v) → ∀ K : Act → Prop, (∀ a', wpE P ops Le C Ph Q (k + 1) rest (upd G k (fun W => F W v)) a' → K a') → K (a.put o.dst v)) : wpE P ops Le C Ph Q k (o :: rest) G a := wpE_newK F hp (wanted_yes hg hs hv (by simp)) hr h
end
end Go.Proofs.YtimkijmjbnmcbaaGreat
