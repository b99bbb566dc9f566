/-
  No cell of these rows narrows 'for every input' (looked for: loops, veiled, ifaces, maps, wideKeys, modest, calm, conditions, laid).
  DERIVED. THE GIVEN ROWS OF THIS SEAT. 5 by the template 'for every input the law returns true; each argument reads behind the call as it read before'; 0 by the template 'total and deterministic' (their statements: YtjinbjkbchnhpaaTotals.lean).
  GIVEN WITH THE SEED: the statements are not yours to turn. If you find one false, say at which input.
  Laid BY PROGRAM, IN A SANDBOX (cutbox-rows.mjs): the forced cells as the released guide's own fill.sh prints them over the translation 5726ad6ca46ce831… (all of the seat's roots in one cut). By AI agents, Wed Nov 11 2026. No macro, syntax, notation, axiom, sorry.
-/
import Derived.Test.YtjinbjkbchnhpaaChecked
import GoSem.Claim
import GoSem.ClaimJoined
import GoSem.ClaimMapViews
import Derived.JoinedTies
import Derived.KernelRfl
namespace Go.Proofs.Ytjinbjkbchnhpaa
/- THE CELL 'sum', in the pinned program and in every row, IS THE sha256 OF THE DUMP (.gsa) THAT YtjinbjkbchnhpaaProg.lean LOADS. Nothing in Lean hashes anything: it is a label: what it is worth is what the hold of that sum in a sandbox is worth. -/
noncomputable def Try.pinned : Pinned := { name := "ytjinbjkbchnhpaa", sum := "5726ad6ca46ce83105c35e7a28babc483d655e808a9d754f843aa494d8d1faec", checked := Try.checked }
namespace Rows
def none {H : Type} : Left H := { results := [], args := [] }

/-- 'gridwrightlaw25.PositionsStartSpec': WHATEVER THE INPUT: true; the input reads as it did. -/
def positionsStartSpecSpec : ChangeSpec := { name := "positionsStartSpec", fn := fun _ => fun
  | [d1, d2] => { results := [.lit (.bool true)], args := [d1, d2] }
  | _ => none }
def positionsStartSpecRow : OpenClaim := { program := "ytjinbjkbchnhpaa", sum := "5726ad6ca46ce83105c35e7a28babc483d655e808a9d754f843aa494d8d1faec", func := "gridwright/gridwrightlaw25.PositionsStartSpec", spec := "positionsStartSpec", unfollowed := true, recurses := true, apart := false }
def PositionsStartSpecSaid : Prop := positionsStartSpecRow.holds Try.pinned (OpenSpec.ofChange positionsStartSpecSpec)

/-- ITS FALSE NEIGHBOUR: 'it returns false'. Refute it at one input. -/
def positionsStartSpecWrong : ChangeSpec := { name := "positionsStartSpec", fn := fun _ => fun
  | [d1, d2] => { results := [.lit (.bool false)], args := [d1, d2] }
  | _ => none }
def PositionsStartSpecWrongFalsely : Prop := positionsStartSpecRow.holds Try.pinned (OpenSpec.ofChange positionsStartSpecWrong)

/-- 'gridwrightlaw25.PositionsChangeSpec': WHATEVER THE INPUT: true; the input reads as it did. -/
def positionsChangeSpecSpec : ChangeSpec := { name := "positionsChangeSpec", fn := fun _ => fun
  | [d1, d2, d3, d4] => { results := [.lit (.bool true)], args := [d1, d2, d3, d4] }
  | _ => none }
def positionsChangeSpecRow : OpenClaim := { program := "ytjinbjkbchnhpaa", sum := "5726ad6ca46ce83105c35e7a28babc483d655e808a9d754f843aa494d8d1faec", func := "gridwright/gridwrightlaw25.PositionsChangeSpec", spec := "positionsChangeSpec", unfollowed := true, recurses := true, apart := false }
def PositionsChangeSpecSaid : Prop := positionsChangeSpecRow.holds Try.pinned (OpenSpec.ofChange positionsChangeSpecSpec)

/-- ITS FALSE NEIGHBOUR: 'it returns false'. Refute it at one input. -/
def positionsChangeSpecWrong : ChangeSpec := { name := "positionsChangeSpec", fn := fun _ => fun
  | [d1, d2, d3, d4] => { results := [.lit (.bool false)], args := [d1, d2, d3, d4] }
  | _ => none }
def PositionsChangeSpecWrongFalsely : Prop := positionsChangeSpecRow.holds Try.pinned (OpenSpec.ofChange positionsChangeSpecWrong)

/-- 'gridwrightlaw25.PositionsSplit': WHATEVER THE INPUT: true; the input reads as it did. -/
def positionsSplitSpec : ChangeSpec := { name := "positionsSplit", fn := fun _ => fun
  | [d1, d2, d3, d4, d5] => { results := [.lit (.bool true)], args := [d1, d2, d3, d4, d5] }
  | _ => none }
def positionsSplitRow : OpenClaim := { program := "ytjinbjkbchnhpaa", sum := "5726ad6ca46ce83105c35e7a28babc483d655e808a9d754f843aa494d8d1faec", func := "gridwright/gridwrightlaw25.PositionsSplit", spec := "positionsSplit", unfollowed := true, recurses := true, apart := false }
def PositionsSplitSaid : Prop := positionsSplitRow.holds Try.pinned (OpenSpec.ofChange positionsSplitSpec)

/-- ITS FALSE NEIGHBOUR: 'it returns false'. Refute it at one input. -/
def positionsSplitWrong : ChangeSpec := { name := "positionsSplit", fn := fun _ => fun
  | [d1, d2, d3, d4, d5] => { results := [.lit (.bool false)], args := [d1, d2, d3, d4, d5] }
  | _ => none }
def PositionsSplitWrongFalsely : Prop := positionsSplitRow.holds Try.pinned (OpenSpec.ofChange positionsSplitWrong)

/-- 'gridwrightlaw25.PositionsMeet': WHATEVER THE INPUT: true; the input reads as it did. -/
def positionsMeetSpec : ChangeSpec := { name := "positionsMeet", fn := fun _ => fun
  | [d1, d2, d3] => { results := [.lit (.bool true)], args := [d1, d2, d3] }
  | _ => none }
def positionsMeetRow : OpenClaim := { program := "ytjinbjkbchnhpaa", sum := "5726ad6ca46ce83105c35e7a28babc483d655e808a9d754f843aa494d8d1faec", func := "gridwright/gridwrightlaw25.PositionsMeet", spec := "positionsMeet", unfollowed := true, recurses := true, apart := false }
def PositionsMeetSaid : Prop := positionsMeetRow.holds Try.pinned (OpenSpec.ofChange positionsMeetSpec)

/-- ITS FALSE NEIGHBOUR: 'it returns false'. Refute it at one input. -/
def positionsMeetWrong : ChangeSpec := { name := "positionsMeet", fn := fun _ => fun
  | [d1, d2, d3] => { results := [.lit (.bool false)], args := [d1, d2, d3] }
  | _ => none }
def PositionsMeetWrongFalsely : Prop := positionsMeetRow.holds Try.pinned (OpenSpec.ofChange positionsMeetWrong)

/-- 'gridwrightlaw25.PositionsOrder': WHATEVER THE INPUT: true; the input reads as it did. -/
def positionsOrderSpec : ChangeSpec := { name := "positionsOrder", fn := fun _ => fun
  | [d1, d2, d3, d4, d5, d6] => { results := [.lit (.bool true)], args := [d1, d2, d3, d4, d5, d6] }
  | _ => none }
def positionsOrderRow : OpenClaim := { program := "ytjinbjkbchnhpaa", sum := "5726ad6ca46ce83105c35e7a28babc483d655e808a9d754f843aa494d8d1faec", func := "gridwright/gridwrightlaw25.PositionsOrder", spec := "positionsOrder", unfollowed := true, recurses := true, apart := false }
def PositionsOrderSaid : Prop := positionsOrderRow.holds Try.pinned (OpenSpec.ofChange positionsOrderSpec)

/-- ITS FALSE NEIGHBOUR: 'it returns false'. Refute it at one input. -/
def positionsOrderWrong : ChangeSpec := { name := "positionsOrder", fn := fun _ => fun
  | [d1, d2, d3, d4, d5, d6] => { results := [.lit (.bool false)], args := [d1, d2, d3, d4, d5, d6] }
  | _ => none }
def PositionsOrderWrongFalsely : Prop := positionsOrderRow.holds Try.pinned (OpenSpec.ofChange positionsOrderWrong)

/- THE SECOND FORM. 'bulk': how many values and letters a reading holds, each counted each time it is reached (what is shared counts as often as it is met; a slice's spare places count too). A statement '..UptoSaid' is the law's where the arguments, and the package variables that the reading takes, are together of bulk at most 1048576: NARROWER than '..Said'. Prove '..Said' where nothing that the law and all that it calls make is longer than what came in: it says more and counts as full. Else prove '..UptoSaid'. A law counts once. -/
mutual
def uptoBulk {H : Type} : DataW H → Nat
  | .lit (.string bytes) => bytes.length + 1
  | .lit _ => 1
  | .nil => 1
  | .ptr d => uptoBulk d + 1
  | .slice elems spare => uptoBulkAll elems + uptoBulkAll spare + 1
  | .agg parts => uptoBulkAll parts + 1
  | .iface _ d => uptoBulk d + 1
  | .map entries => uptoBulkEntries entries + 1
  | .held _ => 1
def uptoBulkAll {H : Type} : List (DataW H) → Nat
  | [] => 0
  | d :: r => uptoBulk d + uptoBulkAll r
def uptoBulkEntries {H : Type} : List (Lit × DataW H) → Nat
  | [] => 0
  | x :: r => uptoBulkEntry x + uptoBulkEntries r
def uptoBulkEntry {H : Type} : Lit × DataW H → Nat
  | (.string bytes, d) => bytes.length + uptoBulk d + 1
  | (_, d) => uptoBulk d + 1
 end
def uptoSmall : (H : Type) → List (DataW H) → Bool := fun _ ds => decide (uptoBulkAll ds ≤ 1048576)
def OpenSpec.upto (s : _root_.Go.ChangeSpec) : _root_.Go.OpenSpec := { _root_.Go.OpenSpec.ofChange s with cond := some uptoSmall }

/-- 'gridwrightlaw25.PositionsStartSpec', WHERE WHAT IT READS IS OF BULK AT MOST 1048576: true; the input reads as it did. -/
def positionsStartSpecUptoRow : OpenClaim := { program := "ytjinbjkbchnhpaa", sum := "5726ad6ca46ce83105c35e7a28babc483d655e808a9d754f843aa494d8d1faec", func := "gridwright/gridwrightlaw25.PositionsStartSpec", spec := "positionsStartSpec", unfollowed := true, recurses := true, apart := false, narrowed := true }
def PositionsStartSpecUptoSaid : Prop := positionsStartSpecUptoRow.holds Try.pinned (OpenSpec.upto positionsStartSpecSpec)

/-- 'gridwrightlaw25.PositionsChangeSpec', WHERE WHAT IT READS IS OF BULK AT MOST 1048576: true; the input reads as it did. -/
def positionsChangeSpecUptoRow : OpenClaim := { program := "ytjinbjkbchnhpaa", sum := "5726ad6ca46ce83105c35e7a28babc483d655e808a9d754f843aa494d8d1faec", func := "gridwright/gridwrightlaw25.PositionsChangeSpec", spec := "positionsChangeSpec", unfollowed := true, recurses := true, apart := false, narrowed := true }
def PositionsChangeSpecUptoSaid : Prop := positionsChangeSpecUptoRow.holds Try.pinned (OpenSpec.upto positionsChangeSpecSpec)

/-- 'gridwrightlaw25.PositionsSplit', WHERE WHAT IT READS IS OF BULK AT MOST 1048576: true; the input reads as it did. -/
def positionsSplitUptoRow : OpenClaim := { program := "ytjinbjkbchnhpaa", sum := "5726ad6ca46ce83105c35e7a28babc483d655e808a9d754f843aa494d8d1faec", func := "gridwright/gridwrightlaw25.PositionsSplit", spec := "positionsSplit", unfollowed := true, recurses := true, apart := false, narrowed := true }
def PositionsSplitUptoSaid : Prop := positionsSplitUptoRow.holds Try.pinned (OpenSpec.upto positionsSplitSpec)

/-- 'gridwrightlaw25.PositionsMeet', WHERE WHAT IT READS IS OF BULK AT MOST 1048576: true; the input reads as it did. -/
def positionsMeetUptoRow : OpenClaim := { program := "ytjinbjkbchnhpaa", sum := "5726ad6ca46ce83105c35e7a28babc483d655e808a9d754f843aa494d8d1faec", func := "gridwright/gridwrightlaw25.PositionsMeet", spec := "positionsMeet", unfollowed := true, recurses := true, apart := false, narrowed := true }
def PositionsMeetUptoSaid : Prop := positionsMeetUptoRow.holds Try.pinned (OpenSpec.upto positionsMeetSpec)

/-- 'gridwrightlaw25.PositionsOrder', WHERE WHAT IT READS IS OF BULK AT MOST 1048576: true; the input reads as it did. -/
def positionsOrderUptoRow : OpenClaim := { program := "ytjinbjkbchnhpaa", sum := "5726ad6ca46ce83105c35e7a28babc483d655e808a9d754f843aa494d8d1faec", func := "gridwright/gridwrightlaw25.PositionsOrder", spec := "positionsOrder", unfollowed := true, recurses := true, apart := false, narrowed := true }
def PositionsOrderUptoSaid : Prop := positionsOrderUptoRow.holds Try.pinned (OpenSpec.upto positionsOrderSpec)

end Rows
end Go.Proofs.Ytjinbjkbchnhpaa
