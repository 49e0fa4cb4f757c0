/-
  No cell of these rows narrows 'for every input' (looked for: loops, veiled, ifaces, maps, wideKeys, modest, calm, conditions, laid).
  DERIVED. THE GIVEN ROWS OF THIS SEAT. 11 by the template 'for every input the law returns true; each argument reads behind the call as it read before'; 0 by the template 'total and deterministic' (their statements: YtofdmkglhjpbcaaTotals.lean).
  GIVEN WITH THE SEED: the statements are not yours to turn. If you find one false, say at which input.
  Laid BY PROGRAM, IN A SANDBOX (cutbox-rows.mjs): the forced cells as the released guide's own fill.sh prints them over the translation e80e452f2058c2ba… (all of the seat's roots in one cut). By AI agents, Wed Nov 11 2026. No macro, syntax, notation, axiom, sorry.
-/
import Derived.Test.YtofdmkglhjpbcaaChecked
import GoSem.Claim
import GoSem.ClaimJoined
import GoSem.ClaimMapViews
import Derived.JoinedTies
import Derived.KernelRfl
namespace Go.Proofs.Ytofdmkglhjpbcaa
/- THE CELL 'sum', in the pinned program and in every row, IS THE sha256 OF THE DUMP (.gsa) THAT YtofdmkglhjpbcaaProg.lean LOADS. Nothing in Lean hashes anything: it is a label: what it is worth is what the hold of that sum in a sandbox is worth. -/
noncomputable def Try.pinned : Pinned := { name := "ytofdmkglhjpbcaa", sum := "e80e452f2058c2ba249d4796a844578bb60902a22c920216c12763d5708d8557", checked := Try.checked }
namespace Rows
def none {H : Type} : Left H := { results := [], args := [] }

/-- 'apographlaw11.DiffTurns': WHATEVER THE INPUT: true; the input reads as it did. -/
def diffTurnsSpec : ChangeSpec := { name := "diffTurns", fn := fun _ => fun
  | [d1, d2] => { results := [.lit (.bool true)], args := [d1, d2] }
  | _ => none }
def diffTurnsRow : OpenClaim := { program := "ytofdmkglhjpbcaa", sum := "e80e452f2058c2ba249d4796a844578bb60902a22c920216c12763d5708d8557", func := "apograph/apographlaw11.DiffTurns", spec := "diffTurns", unfollowed := true, recurses := true, apart := false }
def DiffTurnsSaid : Prop := diffTurnsRow.holds Try.pinned (OpenSpec.ofChange diffTurnsSpec)

/-- ITS FALSE NEIGHBOUR: 'it returns false'. Refute it at one input. -/
def diffTurnsWrong : ChangeSpec := { name := "diffTurns", fn := fun _ => fun
  | [d1, d2] => { results := [.lit (.bool false)], args := [d1, d2] }
  | _ => none }
def DiffTurnsWrongFalsely : Prop := diffTurnsRow.holds Try.pinned (OpenSpec.ofChange diffTurnsWrong)

/-- 'apographlaw11.DiffEdits': WHATEVER THE INPUT: true; the input reads as it did. -/
def diffEditsSpec : ChangeSpec := { name := "diffEdits", fn := fun _ => fun
  | [d1, d2, d3] => { results := [.lit (.bool true)], args := [d1, d2, d3] }
  | _ => none }
def diffEditsRow : OpenClaim := { program := "ytofdmkglhjpbcaa", sum := "e80e452f2058c2ba249d4796a844578bb60902a22c920216c12763d5708d8557", func := "apograph/apographlaw11.DiffEdits", spec := "diffEdits", unfollowed := true, recurses := true, apart := false }
def DiffEditsSaid : Prop := diffEditsRow.holds Try.pinned (OpenSpec.ofChange diffEditsSpec)

/-- ITS FALSE NEIGHBOUR: 'it returns false'. Refute it at one input. -/
def diffEditsWrong : ChangeSpec := { name := "diffEdits", fn := fun _ => fun
  | [d1, d2, d3] => { results := [.lit (.bool false)], args := [d1, d2, d3] }
  | _ => none }
def DiffEditsWrongFalsely : Prop := diffEditsRow.holds Try.pinned (OpenSpec.ofChange diffEditsWrong)

/-- 'apographlaw12.MergeOf': WHATEVER THE INPUT: true; the input reads as it did. -/
def mergeOfSpec : ChangeSpec := { name := "mergeOf", fn := fun _ => fun
  | [d1, d2, d3] => { results := [.lit (.bool true)], args := [d1, d2, d3] }
  | _ => none }
def mergeOfRow : OpenClaim := { program := "ytofdmkglhjpbcaa", sum := "e80e452f2058c2ba249d4796a844578bb60902a22c920216c12763d5708d8557", func := "apograph/apographlaw12.MergeOf", spec := "mergeOf", unfollowed := true, recurses := true, apart := false }
def MergeOfSaid : Prop := mergeOfRow.holds Try.pinned (OpenSpec.ofChange mergeOfSpec)

/-- ITS FALSE NEIGHBOUR: 'it returns false'. Refute it at one input. -/
def mergeOfWrong : ChangeSpec := { name := "mergeOf", fn := fun _ => fun
  | [d1, d2, d3] => { results := [.lit (.bool false)], args := [d1, d2, d3] }
  | _ => none }
def MergeOfWrongFalsely : Prop := mergeOfRow.holds Try.pinned (OpenSpec.ofChange mergeOfWrong)

/-- 'apographlaw12.MergeTurned': WHATEVER THE INPUT: true; the input reads as it did. -/
def mergeTurnedSpec : ChangeSpec := { name := "mergeTurned", fn := fun _ => fun
  | [d1, d2, d3] => { results := [.lit (.bool true)], args := [d1, d2, d3] }
  | _ => none }
def mergeTurnedRow : OpenClaim := { program := "ytofdmkglhjpbcaa", sum := "e80e452f2058c2ba249d4796a844578bb60902a22c920216c12763d5708d8557", func := "apograph/apographlaw12.MergeTurned", spec := "mergeTurned", unfollowed := true, recurses := true, apart := false }
def MergeTurnedSaid : Prop := mergeTurnedRow.holds Try.pinned (OpenSpec.ofChange mergeTurnedSpec)

/-- ITS FALSE NEIGHBOUR: 'it returns false'. Refute it at one input. -/
def mergeTurnedWrong : ChangeSpec := { name := "mergeTurned", fn := fun _ => fun
  | [d1, d2, d3] => { results := [.lit (.bool false)], args := [d1, d2, d3] }
  | _ => none }
def MergeTurnedWrongFalsely : Prop := mergeTurnedRow.holds Try.pinned (OpenSpec.ofChange mergeTurnedWrong)

/-- 'apographlaw12.MergeSides': WHATEVER THE INPUT: true; the input reads as it did. -/
def mergeSidesSpec : ChangeSpec := { name := "mergeSides", fn := fun _ => fun
  | [d1, d2, d3, d4] => { results := [.lit (.bool true)], args := [d1, d2, d3, d4] }
  | _ => none }
def mergeSidesRow : OpenClaim := { program := "ytofdmkglhjpbcaa", sum := "e80e452f2058c2ba249d4796a844578bb60902a22c920216c12763d5708d8557", func := "apograph/apographlaw12.MergeSides", spec := "mergeSides", unfollowed := true, recurses := true, apart := false }
def MergeSidesSaid : Prop := mergeSidesRow.holds Try.pinned (OpenSpec.ofChange mergeSidesSpec)

/-- ITS FALSE NEIGHBOUR: 'it returns false'. Refute it at one input. -/
def mergeSidesWrong : ChangeSpec := { name := "mergeSides", fn := fun _ => fun
  | [d1, d2, d3, d4] => { results := [.lit (.bool false)], args := [d1, d2, d3, d4] }
  | _ => none }
def MergeSidesWrongFalsely : Prop := mergeSidesRow.holds Try.pinned (OpenSpec.ofChange mergeSidesWrong)

/-- 'apographlaw12.MergeIdle': WHATEVER THE INPUT: true; the input reads as it did. -/
def mergeIdleSpec : ChangeSpec := { name := "mergeIdle", fn := fun _ => fun
  | [d1, d2] => { results := [.lit (.bool true)], args := [d1, d2] }
  | _ => none }
def mergeIdleRow : OpenClaim := { program := "ytofdmkglhjpbcaa", sum := "e80e452f2058c2ba249d4796a844578bb60902a22c920216c12763d5708d8557", func := "apograph/apographlaw12.MergeIdle", spec := "mergeIdle", unfollowed := true, recurses := true, apart := false }
def MergeIdleSaid : Prop := mergeIdleRow.holds Try.pinned (OpenSpec.ofChange mergeIdleSpec)

/-- ITS FALSE NEIGHBOUR: 'it returns false'. Refute it at one input. -/
def mergeIdleWrong : ChangeSpec := { name := "mergeIdle", fn := fun _ => fun
  | [d1, d2] => { results := [.lit (.bool false)], args := [d1, d2] }
  | _ => none }
def MergeIdleWrongFalsely : Prop := mergeIdleRow.holds Try.pinned (OpenSpec.ofChange mergeIdleWrong)

/-- 'apographlaw28.PatchApplies': WHATEVER THE INPUT: true; the input reads as it did. -/
def patchAppliesSpec : ChangeSpec := { name := "patchApplies", fn := fun _ => fun
  | [d1, d2] => { results := [.lit (.bool true)], args := [d1, d2] }
  | _ => none }
def patchAppliesRow : OpenClaim := { program := "ytofdmkglhjpbcaa", sum := "e80e452f2058c2ba249d4796a844578bb60902a22c920216c12763d5708d8557", func := "apograph/apographlaw28.PatchApplies", spec := "patchApplies", unfollowed := true, recurses := true, apart := false }
def PatchAppliesSaid : Prop := patchAppliesRow.holds Try.pinned (OpenSpec.ofChange patchAppliesSpec)

/-- ITS FALSE NEIGHBOUR: 'it returns false'. Refute it at one input. -/
def patchAppliesWrong : ChangeSpec := { name := "patchApplies", fn := fun _ => fun
  | [d1, d2] => { results := [.lit (.bool false)], args := [d1, d2] }
  | _ => none }
def PatchAppliesWrongFalsely : Prop := patchAppliesRow.holds Try.pinned (OpenSpec.ofChange patchAppliesWrong)

/-- 'apographlaw28.PatchPuts': WHATEVER THE INPUT: true; the input reads as it did. -/
def patchPutsSpec : ChangeSpec := { name := "patchPuts", fn := fun _ => fun
  | [d1, d2] => { results := [.lit (.bool true)], args := [d1, d2] }
  | _ => none }
def patchPutsRow : OpenClaim := { program := "ytofdmkglhjpbcaa", sum := "e80e452f2058c2ba249d4796a844578bb60902a22c920216c12763d5708d8557", func := "apograph/apographlaw28.PatchPuts", spec := "patchPuts", unfollowed := true, recurses := true, apart := false }
def PatchPutsSaid : Prop := patchPutsRow.holds Try.pinned (OpenSpec.ofChange patchPutsSpec)

/-- ITS FALSE NEIGHBOUR: 'it returns false'. Refute it at one input. -/
def patchPutsWrong : ChangeSpec := { name := "patchPuts", fn := fun _ => fun
  | [d1, d2] => { results := [.lit (.bool false)], args := [d1, d2] }
  | _ => none }
def PatchPutsWrongFalsely : Prop := patchPutsRow.holds Try.pinned (OpenSpec.ofChange patchPutsWrong)

/-- 'apographlaw28.PatchJoins': WHATEVER THE INPUT: true; the input reads as it did. -/
def patchJoinsSpec : ChangeSpec := { name := "patchJoins", fn := fun _ => fun
  | [d1, d2] => { results := [.lit (.bool true)], args := [d1, d2] }
  | _ => none }
def patchJoinsRow : OpenClaim := { program := "ytofdmkglhjpbcaa", sum := "e80e452f2058c2ba249d4796a844578bb60902a22c920216c12763d5708d8557", func := "apograph/apographlaw28.PatchJoins", spec := "patchJoins", unfollowed := true, recurses := true, apart := false }
def PatchJoinsSaid : Prop := patchJoinsRow.holds Try.pinned (OpenSpec.ofChange patchJoinsSpec)

/-- ITS FALSE NEIGHBOUR: 'it returns false'. Refute it at one input. -/
def patchJoinsWrong : ChangeSpec := { name := "patchJoins", fn := fun _ => fun
  | [d1, d2] => { results := [.lit (.bool false)], args := [d1, d2] }
  | _ => none }
def PatchJoinsWrongFalsely : Prop := patchJoinsRow.holds Try.pinned (OpenSpec.ofChange patchJoinsWrong)

/-- 'apographlaw28.PatchTurns': WHATEVER THE INPUT: true; the input reads as it did. -/
def patchTurnsSpec : ChangeSpec := { name := "patchTurns", fn := fun _ => fun
  | [d1, d2] => { results := [.lit (.bool true)], args := [d1, d2] }
  | _ => none }
def patchTurnsRow : OpenClaim := { program := "ytofdmkglhjpbcaa", sum := "e80e452f2058c2ba249d4796a844578bb60902a22c920216c12763d5708d8557", func := "apograph/apographlaw28.PatchTurns", spec := "patchTurns", unfollowed := true, recurses := true, apart := false }
def PatchTurnsSaid : Prop := patchTurnsRow.holds Try.pinned (OpenSpec.ofChange patchTurnsSpec)

/-- ITS FALSE NEIGHBOUR: 'it returns false'. Refute it at one input. -/
def patchTurnsWrong : ChangeSpec := { name := "patchTurns", fn := fun _ => fun
  | [d1, d2] => { results := [.lit (.bool false)], args := [d1, d2] }
  | _ => none }
def PatchTurnsWrongFalsely : Prop := patchTurnsRow.holds Try.pinned (OpenSpec.ofChange patchTurnsWrong)

/-- 'apographlaw28.PatchSteps': WHATEVER THE INPUT: true; the input reads as it did. -/
def patchStepsSpec : ChangeSpec := { name := "patchSteps", fn := fun _ => fun
  | [d1, d2, d3] => { results := [.lit (.bool true)], args := [d1, d2, d3] }
  | _ => none }
def patchStepsRow : OpenClaim := { program := "ytofdmkglhjpbcaa", sum := "e80e452f2058c2ba249d4796a844578bb60902a22c920216c12763d5708d8557", func := "apograph/apographlaw28.PatchSteps", spec := "patchSteps", unfollowed := true, recurses := true, apart := false }
def PatchStepsSaid : Prop := patchStepsRow.holds Try.pinned (OpenSpec.ofChange patchStepsSpec)

/-- ITS FALSE NEIGHBOUR: 'it returns false'. Refute it at one input. -/
def patchStepsWrong : ChangeSpec := { name := "patchSteps", fn := fun _ => fun
  | [d1, d2, d3] => { results := [.lit (.bool false)], args := [d1, d2, d3] }
  | _ => none }
def PatchStepsWrongFalsely : Prop := patchStepsRow.holds Try.pinned (OpenSpec.ofChange patchStepsWrong)

/- THE SECOND FORM. 'bulk': how many values and letters a reading holds, each counted each time it is reached (what is shared counts as often as it is met; a slice's spare places count too). A statement '..UptoSaid' is the law's where the arguments, and the package variables that the reading takes, are together of bulk at most 1048576: NARROWER than '..Said'. Prove '..Said' where nothing that the law and all that it calls make is longer than what came in: it says more and counts as full. Else prove '..UptoSaid'. A law counts once. -/
mutual
def uptoBulk {H : Type} : DataW H → Nat
  | .lit (.string bytes) => bytes.length + 1
  | .lit _ => 1
  | .nil => 1
  | .ptr d => uptoBulk d + 1
  | .slice elems spare => uptoBulkAll elems + uptoBulkAll spare + 1
  | .agg parts => uptoBulkAll parts + 1
  | .iface _ d => uptoBulk d + 1
  | .map entries => uptoBulkEntries entries + 1
  | .held _ => 1
def uptoBulkAll {H : Type} : List (DataW H) → Nat
  | [] => 0
  | d :: r => uptoBulk d + uptoBulkAll r
def uptoBulkEntries {H : Type} : List (Lit × DataW H) → Nat
  | [] => 0
  | x :: r => uptoBulkEntry x + uptoBulkEntries r
def uptoBulkEntry {H : Type} : Lit × DataW H → Nat
  | (.string bytes, d) => bytes.length + uptoBulk d + 1
  | (_, d) => uptoBulk d + 1
 end
def uptoSmall : (H : Type) → List (DataW H) → Bool := fun _ ds => decide (uptoBulkAll ds ≤ 1048576)
def OpenSpec.upto (s : _root_.Go.ChangeSpec) : _root_.Go.OpenSpec := { _root_.Go.OpenSpec.ofChange s with cond := some uptoSmall }

/-- 'apographlaw11.DiffTurns', WHERE WHAT IT READS IS OF BULK AT MOST 1048576: true; the input reads as it did. -/
def diffTurnsUptoRow : OpenClaim := { program := "ytofdmkglhjpbcaa", sum := "e80e452f2058c2ba249d4796a844578bb60902a22c920216c12763d5708d8557", func := "apograph/apographlaw11.DiffTurns", spec := "diffTurns", unfollowed := true, recurses := true, apart := false, narrowed := true }
def DiffTurnsUptoSaid : Prop := diffTurnsUptoRow.holds Try.pinned (OpenSpec.upto diffTurnsSpec)

/-- 'apographlaw11.DiffEdits', WHERE WHAT IT READS IS OF BULK AT MOST 1048576: true; the input reads as it did. -/
def diffEditsUptoRow : OpenClaim := { program := "ytofdmkglhjpbcaa", sum := "e80e452f2058c2ba249d4796a844578bb60902a22c920216c12763d5708d8557", func := "apograph/apographlaw11.DiffEdits", spec := "diffEdits", unfollowed := true, recurses := true, apart := false, narrowed := true }
def DiffEditsUptoSaid : Prop := diffEditsUptoRow.holds Try.pinned (OpenSpec.upto diffEditsSpec)

/-- 'apographlaw12.MergeOf', WHERE WHAT IT READS IS OF BULK AT MOST 1048576: true; the input reads as it did. -/
def mergeOfUptoRow : OpenClaim := { program := "ytofdmkglhjpbcaa", sum := "e80e452f2058c2ba249d4796a844578bb60902a22c920216c12763d5708d8557", func := "apograph/apographlaw12.MergeOf", spec := "mergeOf", unfollowed := true, recurses := true, apart := false, narrowed := true }
def MergeOfUptoSaid : Prop := mergeOfUptoRow.holds Try.pinned (OpenSpec.upto mergeOfSpec)

/-- 'apographlaw12.MergeTurned', WHERE WHAT IT READS IS OF BULK AT MOST 1048576: true; the input reads as it did. -/
def mergeTurnedUptoRow : OpenClaim := { program := "ytofdmkglhjpbcaa", sum := "e80e452f2058c2ba249d4796a844578bb60902a22c920216c12763d5708d8557", func := "apograph/apographlaw12.MergeTurned", spec := "mergeTurned", unfollowed := true, recurses := true, apart := false, narrowed := true }
def MergeTurnedUptoSaid : Prop := mergeTurnedUptoRow.holds Try.pinned (OpenSpec.upto mergeTurnedSpec)

/-- 'apographlaw12.MergeSides', WHERE WHAT IT READS IS OF BULK AT MOST 1048576: true; the input reads as it did. -/
def mergeSidesUptoRow : OpenClaim := { program := "ytofdmkglhjpbcaa", sum := "e80e452f2058c2ba249d4796a844578bb60902a22c920216c12763d5708d8557", func := "apograph/apographlaw12.MergeSides", spec := "mergeSides", unfollowed := true, recurses := true, apart := false, narrowed := true }
def MergeSidesUptoSaid : Prop := mergeSidesUptoRow.holds Try.pinned (OpenSpec.upto mergeSidesSpec)

/-- 'apographlaw12.MergeIdle', WHERE WHAT IT READS IS OF BULK AT MOST 1048576: true; the input reads as it did. -/
def mergeIdleUptoRow : OpenClaim := { program := "ytofdmkglhjpbcaa", sum := "e80e452f2058c2ba249d4796a844578bb60902a22c920216c12763d5708d8557", func := "apograph/apographlaw12.MergeIdle", spec := "mergeIdle", unfollowed := true, recurses := true, apart := false, narrowed := true }
def MergeIdleUptoSaid : Prop := mergeIdleUptoRow.holds Try.pinned (OpenSpec.upto mergeIdleSpec)

/-- 'apographlaw28.PatchApplies', WHERE WHAT IT READS IS OF BULK AT MOST 1048576: true; the input reads as it did. -/
def patchAppliesUptoRow : OpenClaim := { program := "ytofdmkglhjpbcaa", sum := "e80e452f2058c2ba249d4796a844578bb60902a22c920216c12763d5708d8557", func := "apograph/apographlaw28.PatchApplies", spec := "patchApplies", unfollowed := true, recurses := true, apart := false, narrowed := true }
def PatchAppliesUptoSaid : Prop := patchAppliesUptoRow.holds Try.pinned (OpenSpec.upto patchAppliesSpec)

/-- 'apographlaw28.PatchPuts', WHERE WHAT IT READS IS OF BULK AT MOST 1048576: true; the input reads as it did. -/
def patchPutsUptoRow : OpenClaim := { program := "ytofdmkglhjpbcaa", sum := "e80e452f2058c2ba249d4796a844578bb60902a22c920216c12763d5708d8557", func := "apograph/apographlaw28.PatchPuts", spec := "patchPuts", unfollowed := true, recurses := true, apart := false, narrowed := true }
def PatchPutsUptoSaid : Prop := patchPutsUptoRow.holds Try.pinned (OpenSpec.upto patchPutsSpec)

/-- 'apographlaw28.PatchJoins', WHERE WHAT IT READS IS OF BULK AT MOST 1048576: true; the input reads as it did. -/
def patchJoinsUptoRow : OpenClaim := { program := "ytofdmkglhjpbcaa", sum := "e80e452f2058c2ba249d4796a844578bb60902a22c920216c12763d5708d8557", func := "apograph/apographlaw28.PatchJoins", spec := "patchJoins", unfollowed := true, recurses := true, apart := false, narrowed := true }
def PatchJoinsUptoSaid : Prop := patchJoinsUptoRow.holds Try.pinned (OpenSpec.upto patchJoinsSpec)

/-- 'apographlaw28.PatchTurns', WHERE WHAT IT READS IS OF BULK AT MOST 1048576: true; the input reads as it did. -/
def patchTurnsUptoRow : OpenClaim := { program := "ytofdmkglhjpbcaa", sum := "e80e452f2058c2ba249d4796a844578bb60902a22c920216c12763d5708d8557", func := "apograph/apographlaw28.PatchTurns", spec := "patchTurns", unfollowed := true, recurses := true, apart := false, narrowed := true }
def PatchTurnsUptoSaid : Prop := patchTurnsUptoRow.holds Try.pinned (OpenSpec.upto patchTurnsSpec)

/-- 'apographlaw28.PatchSteps', WHERE WHAT IT READS IS OF BULK AT MOST 1048576: true; the input reads as it did. -/
def patchStepsUptoRow : OpenClaim := { program := "ytofdmkglhjpbcaa", sum := "e80e452f2058c2ba249d4796a844578bb60902a22c920216c12763d5708d8557", func := "apograph/apographlaw28.PatchSteps", spec := "patchSteps", unfollowed := true, recurses := true, apart := false, narrowed := true }
def PatchStepsUptoSaid : Prop := patchStepsUptoRow.holds Try.pinned (OpenSpec.upto patchStepsSpec)

end Rows
end Go.Proofs.Ytofdmkglhjpbcaa
