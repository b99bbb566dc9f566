/-
  No cell of these rows narrows 'for every input' (looked for: loops, veiled, ifaces, maps, wideKeys, modest, calm, conditions, laid).
  DERIVED. THE GIVEN ROWS OF THIS SEAT. 6 by the template 'for every input the law returns true; each argument reads behind the call as it read before'; 0 by the template 'total and deterministic' (their statements: YtimkijmjbnmcbaaTotals.lean).
  GIVEN WITH THE SEED: the statements are not yours to turn. If you find one false, say at which input.
  Laid BY PROGRAM, IN A SANDBOX (cutbox-rows.mjs): the forced cells as the released guide's own fill.sh prints them over the translation 6771999cab5b6ed4… (all of the seat's roots in one cut). By AI agents, Wed Nov 11 2026. No macro, syntax, notation, axiom, sorry.
-/
import Derived.Test.YtimkijmjbnmcbaaChecked
import GoSem.Claim
import GoSem.ClaimJoined
import GoSem.ClaimMapViews
import Derived.JoinedTies
import Derived.KernelRfl
namespace Go.Proofs.Ytimkijmjbnmcbaa
/- THE CELL 'sum', in the pinned program and in every row, IS THE sha256 OF THE DUMP (.gsa) THAT YtimkijmjbnmcbaaProg.lean LOADS. Nothing in Lean hashes anything: it is a label: what it is worth is what the hold of that sum in a sandbox is worth. -/
noncomputable def Try.pinned : Pinned := { name := "ytimkijmjbnmcbaa", sum := "6771999cab5b6ed46b8c068c7efbd3a7ca519e4dcab50c8457cca41f79c479d6", checked := Try.checked }
namespace Rows
def none {H : Type} : Left H := { results := [], args := [] }

/-- 'gridwrightlaw33.MatchCondSpec': WHATEVER THE INPUT: true; the input reads as it did. -/
def matchCondSpecSpec : ChangeSpec := { name := "matchCondSpec", fn := fun _ => fun
  | [d1, d2, d3, d4, d5] => { results := [.lit (.bool true)], args := [d1, d2, d3, d4, d5] }
  | _ => none }
def matchCondSpecRow : OpenClaim := { program := "ytimkijmjbnmcbaa", sum := "6771999cab5b6ed46b8c068c7efbd3a7ca519e4dcab50c8457cca41f79c479d6", func := "gridwright/gridwrightlaw33.MatchCondSpec", spec := "matchCondSpec", inPlace := ["internal/bytealg.IndexByteString"], unfollowed := true, recurses := true, apart := false }
def MatchCondSpecSaid : Prop := matchCondSpecRow.holds Try.pinned (OpenSpec.ofChange matchCondSpecSpec)

/-- ITS FALSE NEIGHBOUR: 'it returns false'. Refute it at one input. -/
def matchCondSpecWrong : ChangeSpec := { name := "matchCondSpec", fn := fun _ => fun
  | [d1, d2, d3, d4, d5] => { results := [.lit (.bool false)], args := [d1, d2, d3, d4, d5] }
  | _ => none }
def MatchCondSpecWrongFalsely : Prop := matchCondSpecRow.holds Try.pinned (OpenSpec.ofChange matchCondSpecWrong)

/-- 'gridwrightlaw33.MatchFitsSpec': WHATEVER THE INPUT: true; the input reads as it did. -/
def matchFitsSpecSpec : ChangeSpec := { name := "matchFitsSpec", fn := fun _ => fun
  | [d1, d2, d3, d4] => { results := [.lit (.bool true)], args := [d1, d2, d3, d4] }
  | _ => none }
def matchFitsSpecRow : OpenClaim := { program := "ytimkijmjbnmcbaa", sum := "6771999cab5b6ed46b8c068c7efbd3a7ca519e4dcab50c8457cca41f79c479d6", func := "gridwright/gridwrightlaw33.MatchFitsSpec", spec := "matchFitsSpec", inPlace := ["internal/bytealg.IndexByteString"], unfollowed := true, recurses := true, apart := false }
def MatchFitsSpecSaid : Prop := matchFitsSpecRow.holds Try.pinned (OpenSpec.ofChange matchFitsSpecSpec)

/-- ITS FALSE NEIGHBOUR: 'it returns false'. Refute it at one input. -/
def matchFitsSpecWrong : ChangeSpec := { name := "matchFitsSpec", fn := fun _ => fun
  | [d1, d2, d3, d4] => { results := [.lit (.bool false)], args := [d1, d2, d3, d4] }
  | _ => none }
def MatchFitsSpecWrongFalsely : Prop := matchFitsSpecRow.holds Try.pinned (OpenSpec.ofChange matchFitsSpecWrong)

/-- 'gridwrightlaw33.MatchListSpec': WHATEVER THE INPUT: true; the input reads as it did. -/
def matchListSpecSpec : ChangeSpec := { name := "matchListSpec", fn := fun _ => fun
  | [d1, d2, d3, d4] => { results := [.lit (.bool true)], args := [d1, d2, d3, d4] }
  | _ => none }
def matchListSpecRow : OpenClaim := { program := "ytimkijmjbnmcbaa", sum := "6771999cab5b6ed46b8c068c7efbd3a7ca519e4dcab50c8457cca41f79c479d6", func := "gridwright/gridwrightlaw33.MatchListSpec", spec := "matchListSpec", inPlace := ["internal/bytealg.IndexByteString"], unfollowed := true, recurses := true, apart := false }
def MatchListSpecSaid : Prop := matchListSpecRow.holds Try.pinned (OpenSpec.ofChange matchListSpecSpec)

/-- ITS FALSE NEIGHBOUR: 'it returns false'. Refute it at one input. -/
def matchListSpecWrong : ChangeSpec := { name := "matchListSpec", fn := fun _ => fun
  | [d1, d2, d3, d4] => { results := [.lit (.bool false)], args := [d1, d2, d3, d4] }
  | _ => none }
def MatchListSpecWrongFalsely : Prop := matchListSpecRow.holds Try.pinned (OpenSpec.ofChange matchListSpecWrong)

/-- 'gridwrightlaw33.MatchListed': WHATEVER THE INPUT: true; the input reads as it did. -/
def matchListedSpec : ChangeSpec := { name := "matchListed", fn := fun _ => fun
  | [d1, d2, d3, d4, d5] => { results := [.lit (.bool true)], args := [d1, d2, d3, d4, d5] }
  | _ => none }
def matchListedRow : OpenClaim := { program := "ytimkijmjbnmcbaa", sum := "6771999cab5b6ed46b8c068c7efbd3a7ca519e4dcab50c8457cca41f79c479d6", func := "gridwright/gridwrightlaw33.MatchListed", spec := "matchListed", inPlace := ["internal/bytealg.IndexByteString"], unfollowed := true, recurses := true, apart := false }
def MatchListedSaid : Prop := matchListedRow.holds Try.pinned (OpenSpec.ofChange matchListedSpec)

/-- ITS FALSE NEIGHBOUR: 'it returns false'. Refute it at one input. -/
def matchListedWrong : ChangeSpec := { name := "matchListed", fn := fun _ => fun
  | [d1, d2, d3, d4, d5] => { results := [.lit (.bool false)], args := [d1, d2, d3, d4, d5] }
  | _ => none }
def MatchListedWrongFalsely : Prop := matchListedRow.holds Try.pinned (OpenSpec.ofChange matchListedWrong)

/-- 'gridwrightlaw33.MatchWithin': WHATEVER THE INPUT: true; the input reads as it did. -/
def matchWithinSpec : ChangeSpec := { name := "matchWithin", fn := fun _ => fun
  | [d1, d2, d3, d4, d5] => { results := [.lit (.bool true)], args := [d1, d2, d3, d4, d5] }
  | _ => none }
def matchWithinRow : OpenClaim := { program := "ytimkijmjbnmcbaa", sum := "6771999cab5b6ed46b8c068c7efbd3a7ca519e4dcab50c8457cca41f79c479d6", func := "gridwright/gridwrightlaw33.MatchWithin", spec := "matchWithin", inPlace := ["internal/bytealg.IndexByteString"], unfollowed := true, recurses := true, apart := false }
def MatchWithinSaid : Prop := matchWithinRow.holds Try.pinned (OpenSpec.ofChange matchWithinSpec)

/-- ITS FALSE NEIGHBOUR: 'it returns false'. Refute it at one input. -/
def matchWithinWrong : ChangeSpec := { name := "matchWithin", fn := fun _ => fun
  | [d1, d2, d3, d4, d5] => { results := [.lit (.bool false)], args := [d1, d2, d3, d4, d5] }
  | _ => none }
def MatchWithinWrongFalsely : Prop := matchWithinRow.holds Try.pinned (OpenSpec.ofChange matchWithinWrong)

/-- 'gridwrightlaw33.MatchLevels': WHATEVER THE INPUT: true; the input reads as it did. -/
def matchLevelsSpec : ChangeSpec := { name := "matchLevels", fn := fun _ => fun
  | [d1, d2, d3, d4] => { results := [.lit (.bool true)], args := [d1, d2, d3, d4] }
  | _ => none }
def matchLevelsRow : OpenClaim := { program := "ytimkijmjbnmcbaa", sum := "6771999cab5b6ed46b8c068c7efbd3a7ca519e4dcab50c8457cca41f79c479d6", func := "gridwright/gridwrightlaw33.MatchLevels", spec := "matchLevels", inPlace := ["internal/bytealg.IndexByteString"], unfollowed := true, recurses := true, apart := false }
def MatchLevelsSaid : Prop := matchLevelsRow.holds Try.pinned (OpenSpec.ofChange matchLevelsSpec)

/-- ITS FALSE NEIGHBOUR: 'it returns false'. Refute it at one input. -/
def matchLevelsWrong : ChangeSpec := { name := "matchLevels", fn := fun _ => fun
  | [d1, d2, d3, d4] => { results := [.lit (.bool false)], args := [d1, d2, d3, d4] }
  | _ => none }
def MatchLevelsWrongFalsely : Prop := matchLevelsRow.holds Try.pinned (OpenSpec.ofChange matchLevelsWrong)

/- THE SECOND FORM. 'bulk': how many values and letters a reading holds, each counted each time it is reached (what is shared counts as often as it is met; a slice's spare places count too). A statement '..UptoSaid' is the law's where the arguments, and the package variables that the reading takes, are together of bulk at most 1048576: NARROWER than '..Said'. Prove '..Said' where nothing that the law and all that it calls make is longer than what came in: it says more and counts as full. Else prove '..UptoSaid'. A law counts once. -/
mutual
def uptoBulk {H : Type} : DataW H → Nat
  | .lit (.string bytes) => bytes.length + 1
  | .lit _ => 1
  | .nil => 1
  | .ptr d => uptoBulk d + 1
  | .slice elems spare => uptoBulkAll elems + uptoBulkAll spare + 1
  | .agg parts => uptoBulkAll parts + 1
  | .iface _ d => uptoBulk d + 1
  | .map entries => uptoBulkEntries entries + 1
  | .held _ => 1
def uptoBulkAll {H : Type} : List (DataW H) → Nat
  | [] => 0
  | d :: r => uptoBulk d + uptoBulkAll r
def uptoBulkEntries {H : Type} : List (Lit × DataW H) → Nat
  | [] => 0
  | x :: r => uptoBulkEntry x + uptoBulkEntries r
def uptoBulkEntry {H : Type} : Lit × DataW H → Nat
  | (.string bytes, d) => bytes.length + uptoBulk d + 1
  | (_, d) => uptoBulk d + 1
 end
def uptoSmall : (H : Type) → List (DataW H) → Bool := fun _ ds => decide (uptoBulkAll ds ≤ 1048576)
def OpenSpec.upto (s : _root_.Go.ChangeSpec) : _root_.Go.OpenSpec := { _root_.Go.OpenSpec.ofChange s with cond := some uptoSmall }

/-- 'gridwrightlaw33.MatchCondSpec', WHERE WHAT IT READS IS OF BULK AT MOST 1048576: true; the input reads as it did. -/
def matchCondSpecUptoRow : OpenClaim := { program := "ytimkijmjbnmcbaa", sum := "6771999cab5b6ed46b8c068c7efbd3a7ca519e4dcab50c8457cca41f79c479d6", func := "gridwright/gridwrightlaw33.MatchCondSpec", spec := "matchCondSpec", inPlace := ["internal/bytealg.IndexByteString"], unfollowed := true, recurses := true, apart := false, narrowed := true }
def MatchCondSpecUptoSaid : Prop := matchCondSpecUptoRow.holds Try.pinned (OpenSpec.upto matchCondSpecSpec)

/-- 'gridwrightlaw33.MatchFitsSpec', WHERE WHAT IT READS IS OF BULK AT MOST 1048576: true; the input reads as it did. -/
def matchFitsSpecUptoRow : OpenClaim := { program := "ytimkijmjbnmcbaa", sum := "6771999cab5b6ed46b8c068c7efbd3a7ca519e4dcab50c8457cca41f79c479d6", func := "gridwright/gridwrightlaw33.MatchFitsSpec", spec := "matchFitsSpec", inPlace := ["internal/bytealg.IndexByteString"], unfollowed := true, recurses := true, apart := false, narrowed := true }
def MatchFitsSpecUptoSaid : Prop := matchFitsSpecUptoRow.holds Try.pinned (OpenSpec.upto matchFitsSpecSpec)

/-- 'gridwrightlaw33.MatchListSpec', WHERE WHAT IT READS IS OF BULK AT MOST 1048576: true; the input reads as it did. -/
def matchListSpecUptoRow : OpenClaim := { program := "ytimkijmjbnmcbaa", sum := "6771999cab5b6ed46b8c068c7efbd3a7ca519e4dcab50c8457cca41f79c479d6", func := "gridwright/gridwrightlaw33.MatchListSpec", spec := "matchListSpec", inPlace := ["internal/bytealg.IndexByteString"], unfollowed := true, recurses := true, apart := false, narrowed := true }
def MatchListSpecUptoSaid : Prop := matchListSpecUptoRow.holds Try.pinned (OpenSpec.upto matchListSpecSpec)

/-- 'gridwrightlaw33.MatchListed', WHERE WHAT IT READS IS OF BULK AT MOST 1048576: true; the input reads as it did. -/
def matchListedUptoRow : OpenClaim := { program := "ytimkijmjbnmcbaa", sum := "6771999cab5b6ed46b8c068c7efbd3a7ca519e4dcab50c8457cca41f79c479d6", func := "gridwright/gridwrightlaw33.MatchListed", spec := "matchListed", inPlace := ["internal/bytealg.IndexByteString"], unfollowed := true, recurses := true, apart := false, narrowed := true }
def MatchListedUptoSaid : Prop := matchListedUptoRow.holds Try.pinned (OpenSpec.upto matchListedSpec)

/-- 'gridwrightlaw33.MatchWithin', WHERE WHAT IT READS IS OF BULK AT MOST 1048576: true; the input reads as it did. -/
def matchWithinUptoRow : OpenClaim := { program := "ytimkijmjbnmcbaa", sum := "6771999cab5b6ed46b8c068c7efbd3a7ca519e4dcab50c8457cca41f79c479d6", func := "gridwright/gridwrightlaw33.MatchWithin", spec := "matchWithin", inPlace := ["internal/bytealg.IndexByteString"], unfollowed := true, recurses := true, apart := false, narrowed := true }
def MatchWithinUptoSaid : Prop := matchWithinUptoRow.holds Try.pinned (OpenSpec.upto matchWithinSpec)

/-- 'gridwrightlaw33.MatchLevels', WHERE WHAT IT READS IS OF BULK AT MOST 1048576: true; the input reads as it did. -/
def matchLevelsUptoRow : OpenClaim := { program := "ytimkijmjbnmcbaa", sum := "6771999cab5b6ed46b8c068c7efbd3a7ca519e4dcab50c8457cca41f79c479d6", func := "gridwright/gridwrightlaw33.MatchLevels", spec := "matchLevels", inPlace := ["internal/bytealg.IndexByteString"], unfollowed := true, recurses := true, apart := false, narrowed := true }
def MatchLevelsUptoSaid : Prop := matchLevelsUptoRow.holds Try.pinned (OpenSpec.upto matchLevelsSpec)

end Rows
end Go.Proofs.Ytimkijmjbnmcbaa
