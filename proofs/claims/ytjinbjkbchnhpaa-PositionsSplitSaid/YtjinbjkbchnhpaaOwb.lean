/- More on lists that a function owns. -/
import Derived.Test.YtjinbjkbchnhpaaOwn
namespace Go.Proofs.Ytjinbjkbchnhpaa
open Go.RowKit

/-- 'append(s, v)', where the cell of v was made before. -/
theorem app_at {ops : Array Oper} {rest : List Oper} {o : Oper} {a : Act} {Q : Exit → Act → World → Prop} {w : World} (w0 : World) (hx0 : Ext w0 w) (hgd : o.guard = none) (s x : Operand) (ho : o.op = Op.call { callee := Callee.builtin Builtin.append, args := #[s, x], argTypes := #[22, 22] })
    (A : Option Addr) (n c0 : Nat) (l : List Int) (hs : a.eval s = .slice A n c0) (hown : OwnI w w0.heap.size (.slice A n c0) l) (g : Nat) (v : Int) (hx : a.eval x = .slice (some ⟨g, 0, none⟩) 1 1) (hc : w.cell? ⟨g, 0, none⟩ = some (.int .i64 v)) (hv : I64 v) (hl : n < 17592186044416)
    (h : ∀ (A' : Option Addr) (c' : Nat) (w' : World), OwnI w' w0.heap.size (.slice A' (n + 1) c') (l ++ [v]) → Ext w0 w' → w.grownBy w' (Value.slice A n c0).ownBlock → wpList Try.prog ops Q rest (a.put o.dst (.slice A' (n + 1) c')) w') :
    wpList Try.prog ops Q (o :: rest) a w := by
  obtain rfl := hown.lenEq
  refine app_own w0 hx0 hgd s x ho A l.length c0 l hs rfl hown ⟨g, 0, none⟩ 1 1 hx [v] rfl ?_ (by simpa using hv) (by simp; omega) ?_
  · intro j hj
    obtain rfl : j = 0 := by simpa using hj
    simpa [Addr.add] using hc
  · intro A' c' w' h1 h2 h3
    exact h A' c' w' (h1.as (by simp) rfl) h2 h3
end Go.Proofs.Ytjinbjkbchnhpaa
