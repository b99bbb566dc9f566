/- Facts that last, for the operations of a region that draws its order. -/
import Derived.Test.YtjinbjkbchnhpaaReg
import Derived.Test.YtjinbjkbchnhpaaLib
namespace Go.Proofs.Ytjinbjkbchnhpaa
open Go.RowKit

structure SF where
  f : World → Value → Prop
  keep : ∀ W W' v, Ext W W' → f W v → f W' v
/-- This very value. -/
def SF.val (v0 : Value) : SF := ⟨fun _ v => v = v0, fun _ _ _ _ h => h⟩
/-- A slice that holds these integers. -/
def SF.ints (l : List Int) : SF := ⟨fun W v => ∃ A c, v = .slice A l.length c ∧ RInts W A l, fun _ _ _ hb ⟨A, c, e, h⟩ => ⟨A, c, e, h.to hb⟩⟩
/-- Any fact on a slice's address that lasts. -/
def SF.sl {α : Type} (sz n : Nat) (R : World → List Value → α → Prop) (hR : Keeps R) (l : List α) : SF := ⟨fun W v => ∃ A c, v = .slice A n c ∧ n = l.length ∧ RSl sz R W A l, fun _ _ _ hb ⟨A, c, e, hn, h⟩ => ⟨A, c, e, hn, h.to hR hb⟩⟩

/-- A block of one cell that has been made for 'append'. -/
def SF.one (x : Int) : SF := ⟨fun W v => ∃ g, v = .slice (some ⟨g, 0, none⟩) 1 1 ∧ g < W.heap.size ∧ W.cell? ⟨g, 0, none⟩ = some (.int .i64 x), fun _ _ _ hb ⟨g, e, h, hc⟩ => ⟨g, e, hb.lt h, cellE hb hc h⟩⟩
/-- Two results: a list of integers, an error. -/
def SF.intsErr (l : List Int) (er : Int) : SF := ⟨fun W v => ∃ A c, v = .tuple #[.slice A l.length c, .int .i64 er] ∧ RInts W A l, fun _ _ _ hb ⟨A, c, e, h⟩ => ⟨A, c, e, h.to hb⟩⟩

theorem wp_region_sf {P : Program} {id : Nat} {Q : Exit → Act → World → Prop} {a : Act} {w : World} {l : List Oper} (tab : Nat → Option SF) (hm : P.follows .mixedOrders = true) (hB : Region.lexB .any l.toArray = true)
    (h : wpE P l.toArray Ext (Ext w) (fun i => (tab i).map SF.f) (fun G a' => ∀ W, AllF (Ext w) G W → Q .normal a' W) 0 l (fun _ _ => True) a) : (Code.region id l.toArray true).wp P Q a w :=
  wp_region_ext Ext (Ext w) _ hm hB ⟨Ext.rfl', fun _ _ _ h k => h.tr k, fun _ _ h h1 => h1.tr h, fun i F hF W W' v hl hv => by
    cases ht : tab i with
    | none => simp [ht] at hF
    | some s =>
      simp [ht] at hF
      subst hF
      exact s.keep _ _ _ hl hv⟩ (Ext.dr (Ext.rfl' _)) h

theorem wp_region_sf_tail {P : Program} {id : Nat} {Q : Exit → Act → World → Prop} {a : Act} {w : World} {l : List Oper} (n : Nat) (tab : Nat → Option SF) (hm : P.follows .mixedOrders = true) (hB : Region.lexTailB .any l.toArray n = true)
    (h : wpE P l.toArray Ext (Ext w) (fun i => (tab i).map SF.f) (fun G a' => ∀ W, AllF (Ext w) G W → wpList P l.toArray Q (l.drop n) a' W) 0 (l.take n) (fun _ _ => True) a) : (Code.region id l.toArray true).wp P Q a w :=
  wp_region_ext_tail n Ext (Ext w) _ hm hB ⟨Ext.rfl', fun _ _ _ h k => h.tr k, fun _ _ h h1 => h1.tr h, fun i F hF W W' v hl hv => by
    cases ht : tab i with
    | none => simp [ht] at hF
    | some s =>
      simp [ht] at hF
      subst hF
      exact s.keep _ _ _ hl hv⟩ (Ext.dr (Ext.rfl' _)) h
end Go.Proofs.Ytjinbjkbchnhpaa
