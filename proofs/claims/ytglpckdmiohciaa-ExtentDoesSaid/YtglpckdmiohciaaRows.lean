/-
  No cell of these rows narrows 'for every input' (looked for: loops, veiled, ifaces, maps, wideKeys, modest, calm, conditions, laid).
  DERIVED. THE GIVEN ROWS OF THIS SEAT. 12 by the template 'for every input the law returns true; each argument reads behind the call as it read before'; 0 by the template 'total and deterministic' (their statements: YtglpckdmiohciaaTotals.lean).
  GIVEN WITH THE SEED: the statements are not yours to turn. If you find one false, say at which input.
  Laid BY PROGRAM, IN A SANDBOX (cutbox-rows.mjs): the forced cells as the released guide's own fill.sh prints them over the translation 8a2b21a8c69ec994… (all of the seat's roots in one cut). By AI agents, Wed Nov 11 2026. No macro, syntax, notation, axiom, sorry.
-/
import Derived.Test.YtglpckdmiohciaaChecked
import GoSem.Claim
import GoSem.ClaimJoined
import GoSem.ClaimMapViews
import Derived.JoinedTies
import Derived.KernelRfl
namespace Go.Proofs.Ytglpckdmiohciaa
/- THE CELL 'sum', in the pinned program and in every row, IS THE sha256 OF THE DUMP (.gsa) THAT YtglpckdmiohciaaProg.lean LOADS. Nothing in Lean hashes anything: it is a label: what it is worth is what the hold of that sum in a sandbox is worth. -/
noncomputable def Try.pinned : Pinned := { name := "ytglpckdmiohciaa", sum := "8a2b21a8c69ec994175fd5378be829c4e5d7cccdac6bdd134275d50945622391", checked := Try.checked }
namespace Rows
def none {H : Type} : Left H := { results := [], args := [] }

/-- 'apographlaw12.MergeKeys': WHATEVER THE INPUT: true; the input reads as it did. -/
def mergeKeysSpec : ChangeSpec := { name := "mergeKeys", fn := fun _ => fun
  | [d1, d2, d3] => { results := [.lit (.bool true)], args := [d1, d2, d3] }
  | _ => none }
def mergeKeysRow : OpenClaim := { program := "ytglpckdmiohciaa", sum := "8a2b21a8c69ec994175fd5378be829c4e5d7cccdac6bdd134275d50945622391", func := "apograph/apographlaw12.MergeKeys", spec := "mergeKeys", apart := false }
def MergeKeysSaid : Prop := mergeKeysRow.holds Try.pinned (OpenSpec.ofChange mergeKeysSpec)

/-- ITS FALSE NEIGHBOUR: 'it returns false'. Refute it at one input. -/
def mergeKeysWrong : ChangeSpec := { name := "mergeKeys", fn := fun _ => fun
  | [d1, d2, d3] => { results := [.lit (.bool false)], args := [d1, d2, d3] }
  | _ => none }
def MergeKeysWrongFalsely : Prop := mergeKeysRow.holds Try.pinned (OpenSpec.ofChange mergeKeysWrong)

/-- 'apographlaw11.DiffOf': WHATEVER THE INPUT: true; the input reads as it did. -/
def diffOfSpec : ChangeSpec := { name := "diffOf", fn := fun _ => fun
  | [d1, d2] => { results := [.lit (.bool true)], args := [d1, d2] }
  | _ => none }
def diffOfRow : OpenClaim := { program := "ytglpckdmiohciaa", sum := "8a2b21a8c69ec994175fd5378be829c4e5d7cccdac6bdd134275d50945622391", func := "apograph/apographlaw11.DiffOf", spec := "diffOf", unfollowed := true, recurses := true, apart := false }
def DiffOfSaid : Prop := diffOfRow.holds Try.pinned (OpenSpec.ofChange diffOfSpec)

/-- ITS FALSE NEIGHBOUR: 'it returns false'. Refute it at one input. -/
def diffOfWrong : ChangeSpec := { name := "diffOf", fn := fun _ => fun
  | [d1, d2] => { results := [.lit (.bool false)], args := [d1, d2] }
  | _ => none }
def DiffOfWrongFalsely : Prop := diffOfRow.holds Try.pinned (OpenSpec.ofChange diffOfWrong)

/-- 'apographlaw05.SuperPuts': WHATEVER THE INPUT: true; the input reads as it did. -/
def superPutsSpec : ChangeSpec := { name := "superPuts", fn := fun _ => fun
  | [d1, d2] => { results := [.lit (.bool true)], args := [d1, d2] }
  | _ => none }
def superPutsRow : OpenClaim := { program := "ytglpckdmiohciaa", sum := "8a2b21a8c69ec994175fd5378be829c4e5d7cccdac6bdd134275d50945622391", func := "apograph/apographlaw05.SuperPuts", spec := "superPuts", unfollowed := true, recurses := true, apart := false }
def SuperPutsSaid : Prop := superPutsRow.holds Try.pinned (OpenSpec.ofChange superPutsSpec)

/-- ITS FALSE NEIGHBOUR: 'it returns false'. Refute it at one input. -/
def superPutsWrong : ChangeSpec := { name := "superPuts", fn := fun _ => fun
  | [d1, d2] => { results := [.lit (.bool false)], args := [d1, d2] }
  | _ => none }
def SuperPutsWrongFalsely : Prop := superPutsRow.holds Try.pinned (OpenSpec.ofChange superPutsWrong)

/-- 'apographlaw05.SuperTorn': WHATEVER THE INPUT: true; the input reads as it did. -/
def superTornSpec : ChangeSpec := { name := "superTorn", fn := fun _ => fun
  | [d1, d2, d3] => { results := [.lit (.bool true)], args := [d1, d2, d3] }
  | _ => none }
def superTornRow : OpenClaim := { program := "ytglpckdmiohciaa", sum := "8a2b21a8c69ec994175fd5378be829c4e5d7cccdac6bdd134275d50945622391", func := "apograph/apographlaw05.SuperTorn", spec := "superTorn", unfollowed := true, recurses := true, apart := false }
def SuperTornSaid : Prop := superTornRow.holds Try.pinned (OpenSpec.ofChange superTornSpec)

/-- ITS FALSE NEIGHBOUR: 'it returns false'. Refute it at one input. -/
def superTornWrong : ChangeSpec := { name := "superTorn", fn := fun _ => fun
  | [d1, d2, d3] => { results := [.lit (.bool false)], args := [d1, d2, d3] }
  | _ => none }
def SuperTornWrongFalsely : Prop := superTornRow.holds Try.pinned (OpenSpec.ofChange superTornWrong)

/-- 'apographlaw04.DevArms': WHATEVER THE INPUT: true; the input reads as it did. -/
def devArmsSpec : ChangeSpec := { name := "devArms", fn := fun _ => fun
  | [d1, d2, d3, d4] => { results := [.lit (.bool true)], args := [d1, d2, d3, d4] }
  | _ => none }
def devArmsRow : OpenClaim := { program := "ytglpckdmiohciaa", sum := "8a2b21a8c69ec994175fd5378be829c4e5d7cccdac6bdd134275d50945622391", func := "apograph/apographlaw04.DevArms", spec := "devArms", unfollowed := true, recurses := true, apart := false }
def DevArmsSaid : Prop := devArmsRow.holds Try.pinned (OpenSpec.ofChange devArmsSpec)

/-- ITS FALSE NEIGHBOUR: 'it returns false'. Refute it at one input. -/
def devArmsWrong : ChangeSpec := { name := "devArms", fn := fun _ => fun
  | [d1, d2, d3, d4] => { results := [.lit (.bool false)], args := [d1, d2, d3, d4] }
  | _ => none }
def DevArmsWrongFalsely : Prop := devArmsRow.holds Try.pinned (OpenSpec.ofChange devArmsWrong)

/-- 'apographlaw04.DevKeeps': WHATEVER THE INPUT: true; the input reads as it did. -/
def devKeepsSpec : ChangeSpec := { name := "devKeeps", fn := fun _ => fun
  | [d1, d2, d3, d4] => { results := [.lit (.bool true)], args := [d1, d2, d3, d4] }
  | _ => none }
def devKeepsRow : OpenClaim := { program := "ytglpckdmiohciaa", sum := "8a2b21a8c69ec994175fd5378be829c4e5d7cccdac6bdd134275d50945622391", func := "apograph/apographlaw04.DevKeeps", spec := "devKeeps", inPlace := ["maps.clone"], unfollowed := true, recurses := true, apart := false }
def DevKeepsSaid : Prop := devKeepsRow.holds Try.pinned (OpenSpec.ofChange devKeepsSpec)

/-- ITS FALSE NEIGHBOUR: 'it returns false'. Refute it at one input. -/
def devKeepsWrong : ChangeSpec := { name := "devKeeps", fn := fun _ => fun
  | [d1, d2, d3, d4] => { results := [.lit (.bool false)], args := [d1, d2, d3, d4] }
  | _ => none }
def DevKeepsWrongFalsely : Prop := devKeepsRow.holds Try.pinned (OpenSpec.ofChange devKeepsWrong)

/-- 'apographlaw04.DevDoes': WHATEVER THE INPUT: true; the input reads as it did. -/
def devDoesSpec : ChangeSpec := { name := "devDoes", fn := fun _ => fun
  | [d1, d2] => { results := [.lit (.bool true)], args := [d1, d2] }
  | _ => none }
def devDoesRow : OpenClaim := { program := "ytglpckdmiohciaa", sum := "8a2b21a8c69ec994175fd5378be829c4e5d7cccdac6bdd134275d50945622391", func := "apograph/apographlaw04.DevDoes", spec := "devDoes", inPlace := ["maps.clone"], unfollowed := true, recurses := true, apart := false }
def DevDoesSaid : Prop := devDoesRow.holds Try.pinned (OpenSpec.ofChange devDoesSpec)

/-- ITS FALSE NEIGHBOUR: 'it returns false'. Refute it at one input. -/
def devDoesWrong : ChangeSpec := { name := "devDoes", fn := fun _ => fun
  | [d1, d2] => { results := [.lit (.bool false)], args := [d1, d2] }
  | _ => none }
def DevDoesWrongFalsely : Prop := devDoesRow.holds Try.pinned (OpenSpec.ofChange devDoesWrong)

/-- 'apographlaw04.DevOwn': WHATEVER THE INPUT: true; the input reads as it did. -/
def devOwnSpec : ChangeSpec := { name := "devOwn", fn := fun _ => fun
  | [d1, d2, d3] => { results := [.lit (.bool true)], args := [d1, d2, d3] }
  | _ => none }
def devOwnRow : OpenClaim := { program := "ytglpckdmiohciaa", sum := "8a2b21a8c69ec994175fd5378be829c4e5d7cccdac6bdd134275d50945622391", func := "apograph/apographlaw04.DevOwn", spec := "devOwn", inPlace := ["maps.clone"], unfollowed := true, recurses := true, apart := false }
def DevOwnSaid : Prop := devOwnRow.holds Try.pinned (OpenSpec.ofChange devOwnSpec)

/-- ITS FALSE NEIGHBOUR: 'it returns false'. Refute it at one input. -/
def devOwnWrong : ChangeSpec := { name := "devOwn", fn := fun _ => fun
  | [d1, d2, d3] => { results := [.lit (.bool false)], args := [d1, d2, d3] }
  | _ => none }
def DevOwnWrongFalsely : Prop := devOwnRow.holds Try.pinned (OpenSpec.ofChange devOwnWrong)

/-- 'apographlaw05.SuperKeeps': WHATEVER THE INPUT: true; the input reads as it did. -/
def superKeepsSpec : ChangeSpec := { name := "superKeeps", fn := fun _ => fun
  | [d1, d2, d3, d4] => { results := [.lit (.bool true)], args := [d1, d2, d3, d4] }
  | _ => none }
def superKeepsRow : OpenClaim := { program := "ytglpckdmiohciaa", sum := "8a2b21a8c69ec994175fd5378be829c4e5d7cccdac6bdd134275d50945622391", func := "apograph/apographlaw05.SuperKeeps", spec := "superKeeps", unfollowed := true, recurses := true, apart := false }
def SuperKeepsSaid : Prop := superKeepsRow.holds Try.pinned (OpenSpec.ofChange superKeepsSpec)

/-- ITS FALSE NEIGHBOUR: 'it returns false'. Refute it at one input. -/
def superKeepsWrong : ChangeSpec := { name := "superKeeps", fn := fun _ => fun
  | [d1, d2, d3, d4] => { results := [.lit (.bool false)], args := [d1, d2, d3, d4] }
  | _ => none }
def SuperKeepsWrongFalsely : Prop := superKeepsRow.holds Try.pinned (OpenSpec.ofChange superKeepsWrong)

/-- 'apographlaw06.ExtentTakes': WHATEVER THE INPUT: true; the input reads as it did. -/
def extentTakesSpec : ChangeSpec := { name := "extentTakes", fn := fun _ => fun
  | [d1, d2, d3] => { results := [.lit (.bool true)], args := [d1, d2, d3] }
  | _ => none }
def extentTakesRow : OpenClaim := { program := "ytglpckdmiohciaa", sum := "8a2b21a8c69ec994175fd5378be829c4e5d7cccdac6bdd134275d50945622391", func := "apograph/apographlaw06.ExtentTakes", spec := "extentTakes", inPlace := ["slices.overlaps[apograph/api.Span]"], unfollowed := true, recurses := true, apart := false }
def ExtentTakesSaid : Prop := extentTakesRow.holds Try.pinned (OpenSpec.ofChange extentTakesSpec)

/-- ITS FALSE NEIGHBOUR: 'it returns false'. Refute it at one input. -/
def extentTakesWrong : ChangeSpec := { name := "extentTakes", fn := fun _ => fun
  | [d1, d2, d3] => { results := [.lit (.bool false)], args := [d1, d2, d3] }
  | _ => none }
def ExtentTakesWrongFalsely : Prop := extentTakesRow.holds Try.pinned (OpenSpec.ofChange extentTakesWrong)

/-- 'apographlaw06.ExtentDoes': WHATEVER THE INPUT: true; the input reads as it did. -/
def extentDoesSpec : ChangeSpec := { name := "extentDoes", fn := fun _ => fun
  | [d1, d2, d3] => { results := [.lit (.bool true)], args := [d1, d2, d3] }
  | _ => none }
def extentDoesRow : OpenClaim := { program := "ytglpckdmiohciaa", sum := "8a2b21a8c69ec994175fd5378be829c4e5d7cccdac6bdd134275d50945622391", func := "apograph/apographlaw06.ExtentDoes", spec := "extentDoes", inPlace := ["slices.overlaps[apograph/api.Span]"], unfollowed := true, recurses := true, apart := false }
def ExtentDoesSaid : Prop := extentDoesRow.holds Try.pinned (OpenSpec.ofChange extentDoesSpec)

/-- ITS FALSE NEIGHBOUR: 'it returns false'. Refute it at one input. -/
def extentDoesWrong : ChangeSpec := { name := "extentDoes", fn := fun _ => fun
  | [d1, d2, d3] => { results := [.lit (.bool false)], args := [d1, d2, d3] }
  | _ => none }
def ExtentDoesWrongFalsely : Prop := extentDoesRow.holds Try.pinned (OpenSpec.ofChange extentDoesWrong)

/-- 'apographlaw06.ExtentNone': WHATEVER THE INPUT: true; the input reads as it did. -/
def extentNoneSpec : ChangeSpec := { name := "extentNone", fn := fun _ => fun
  | [d1, d2, d3, d4] => { results := [.lit (.bool true)], args := [d1, d2, d3, d4] }
  | _ => none }
def extentNoneRow : OpenClaim := { program := "ytglpckdmiohciaa", sum := "8a2b21a8c69ec994175fd5378be829c4e5d7cccdac6bdd134275d50945622391", func := "apograph/apographlaw06.ExtentNone", spec := "extentNone", inPlace := ["slices.overlaps[apograph/api.Span]"], unfollowed := true, recurses := true, apart := false }
def ExtentNoneSaid : Prop := extentNoneRow.holds Try.pinned (OpenSpec.ofChange extentNoneSpec)

/-- ITS FALSE NEIGHBOUR: 'it returns false'. Refute it at one input. -/
def extentNoneWrong : ChangeSpec := { name := "extentNone", fn := fun _ => fun
  | [d1, d2, d3, d4] => { results := [.lit (.bool false)], args := [d1, d2, d3, d4] }
  | _ => none }
def ExtentNoneWrongFalsely : Prop := extentNoneRow.holds Try.pinned (OpenSpec.ofChange extentNoneWrong)

/- THE SECOND FORM. 'bulk': how many values and letters a reading holds, each counted each time it is reached (what is shared counts as often as it is met; a slice's spare places count too). A statement '..UptoSaid' is the law's where the arguments, and the package variables that the reading takes, are together of bulk at most 1048576: NARROWER than '..Said'. Prove '..Said' where nothing that the law and all that it calls make is longer than what came in: it says more and counts as full. Else prove '..UptoSaid'. A law counts once. -/
mutual
def uptoBulk {H : Type} : DataW H → Nat
  | .lit (.string bytes) => bytes.length + 1
  | .lit _ => 1
  | .nil => 1
  | .ptr d => uptoBulk d + 1
  | .slice elems spare => uptoBulkAll elems + uptoBulkAll spare + 1
  | .agg parts => uptoBulkAll parts + 1
  | .iface _ d => uptoBulk d + 1
  | .map entries => uptoBulkEntries entries + 1
  | .held _ => 1
def uptoBulkAll {H : Type} : List (DataW H) → Nat
  | [] => 0
  | d :: r => uptoBulk d + uptoBulkAll r
def uptoBulkEntries {H : Type} : List (Lit × DataW H) → Nat
  | [] => 0
  | x :: r => uptoBulkEntry x + uptoBulkEntries r
def uptoBulkEntry {H : Type} : Lit × DataW H → Nat
  | (.string bytes, d) => bytes.length + uptoBulk d + 1
  | (_, d) => uptoBulk d + 1
 end
def uptoSmall : (H : Type) → List (DataW H) → Bool := fun _ ds => decide (uptoBulkAll ds ≤ 1048576)
def OpenSpec.upto (s : _root_.Go.ChangeSpec) : _root_.Go.OpenSpec := { _root_.Go.OpenSpec.ofChange s with cond := some uptoSmall }

/-- 'apographlaw12.MergeKeys', WHERE WHAT IT READS IS OF BULK AT MOST 1048576: true; the input reads as it did. -/
def mergeKeysUptoRow : OpenClaim := { program := "ytglpckdmiohciaa", sum := "8a2b21a8c69ec994175fd5378be829c4e5d7cccdac6bdd134275d50945622391", func := "apograph/apographlaw12.MergeKeys", spec := "mergeKeys", apart := false, narrowed := true }
def MergeKeysUptoSaid : Prop := mergeKeysUptoRow.holds Try.pinned (OpenSpec.upto mergeKeysSpec)

/-- 'apographlaw11.DiffOf', WHERE WHAT IT READS IS OF BULK AT MOST 1048576: true; the input reads as it did. -/
def diffOfUptoRow : OpenClaim := { program := "ytglpckdmiohciaa", sum := "8a2b21a8c69ec994175fd5378be829c4e5d7cccdac6bdd134275d50945622391", func := "apograph/apographlaw11.DiffOf", spec := "diffOf", unfollowed := true, recurses := true, apart := false, narrowed := true }
def DiffOfUptoSaid : Prop := diffOfUptoRow.holds Try.pinned (OpenSpec.upto diffOfSpec)

/-- 'apographlaw05.SuperPuts', WHERE WHAT IT READS IS OF BULK AT MOST 1048576: true; the input reads as it did. -/
def superPutsUptoRow : OpenClaim := { program := "ytglpckdmiohciaa", sum := "8a2b21a8c69ec994175fd5378be829c4e5d7cccdac6bdd134275d50945622391", func := "apograph/apographlaw05.SuperPuts", spec := "superPuts", unfollowed := true, recurses := true, apart := false, narrowed := true }
def SuperPutsUptoSaid : Prop := superPutsUptoRow.holds Try.pinned (OpenSpec.upto superPutsSpec)

/-- 'apographlaw05.SuperTorn', WHERE WHAT IT READS IS OF BULK AT MOST 1048576: true; the input reads as it did. -/
def superTornUptoRow : OpenClaim := { program := "ytglpckdmiohciaa", sum := "8a2b21a8c69ec994175fd5378be829c4e5d7cccdac6bdd134275d50945622391", func := "apograph/apographlaw05.SuperTorn", spec := "superTorn", unfollowed := true, recurses := true, apart := false, narrowed := true }
def SuperTornUptoSaid : Prop := superTornUptoRow.holds Try.pinned (OpenSpec.upto superTornSpec)

/-- 'apographlaw04.DevArms', WHERE WHAT IT READS IS OF BULK AT MOST 1048576: true; the input reads as it did. -/
def devArmsUptoRow : OpenClaim := { program := "ytglpckdmiohciaa", sum := "8a2b21a8c69ec994175fd5378be829c4e5d7cccdac6bdd134275d50945622391", func := "apograph/apographlaw04.DevArms", spec := "devArms", unfollowed := true, recurses := true, apart := false, narrowed := true }
def DevArmsUptoSaid : Prop := devArmsUptoRow.holds Try.pinned (OpenSpec.upto devArmsSpec)

/-- 'apographlaw04.DevKeeps', WHERE WHAT IT READS IS OF BULK AT MOST 1048576: true; the input reads as it did. -/
def devKeepsUptoRow : OpenClaim := { program := "ytglpckdmiohciaa", sum := "8a2b21a8c69ec994175fd5378be829c4e5d7cccdac6bdd134275d50945622391", func := "apograph/apographlaw04.DevKeeps", spec := "devKeeps", inPlace := ["maps.clone"], unfollowed := true, recurses := true, apart := false, narrowed := true }
def DevKeepsUptoSaid : Prop := devKeepsUptoRow.holds Try.pinned (OpenSpec.upto devKeepsSpec)

/-- 'apographlaw04.DevDoes', WHERE WHAT IT READS IS OF BULK AT MOST 1048576: true; the input reads as it did. -/
def devDoesUptoRow : OpenClaim := { program := "ytglpckdmiohciaa", sum := "8a2b21a8c69ec994175fd5378be829c4e5d7cccdac6bdd134275d50945622391", func := "apograph/apographlaw04.DevDoes", spec := "devDoes", inPlace := ["maps.clone"], unfollowed := true, recurses := true, apart := false, narrowed := true }
def DevDoesUptoSaid : Prop := devDoesUptoRow.holds Try.pinned (OpenSpec.upto devDoesSpec)

/-- 'apographlaw04.DevOwn', WHERE WHAT IT READS IS OF BULK AT MOST 1048576: true; the input reads as it did. -/
def devOwnUptoRow : OpenClaim := { program := "ytglpckdmiohciaa", sum := "8a2b21a8c69ec994175fd5378be829c4e5d7cccdac6bdd134275d50945622391", func := "apograph/apographlaw04.DevOwn", spec := "devOwn", inPlace := ["maps.clone"], unfollowed := true, recurses := true, apart := false, narrowed := true }
def DevOwnUptoSaid : Prop := devOwnUptoRow.holds Try.pinned (OpenSpec.upto devOwnSpec)

/-- 'apographlaw05.SuperKeeps', WHERE WHAT IT READS IS OF BULK AT MOST 1048576: true; the input reads as it did. -/
def superKeepsUptoRow : OpenClaim := { program := "ytglpckdmiohciaa", sum := "8a2b21a8c69ec994175fd5378be829c4e5d7cccdac6bdd134275d50945622391", func := "apograph/apographlaw05.SuperKeeps", spec := "superKeeps", unfollowed := true, recurses := true, apart := false, narrowed := true }
def SuperKeepsUptoSaid : Prop := superKeepsUptoRow.holds Try.pinned (OpenSpec.upto superKeepsSpec)

/-- 'apographlaw06.ExtentTakes', WHERE WHAT IT READS IS OF BULK AT MOST 1048576: true; the input reads as it did. -/
def extentTakesUptoRow : OpenClaim := { program := "ytglpckdmiohciaa", sum := "8a2b21a8c69ec994175fd5378be829c4e5d7cccdac6bdd134275d50945622391", func := "apograph/apographlaw06.ExtentTakes", spec := "extentTakes", inPlace := ["slices.overlaps[apograph/api.Span]"], unfollowed := true, recurses := true, apart := false, narrowed := true }
def ExtentTakesUptoSaid : Prop := extentTakesUptoRow.holds Try.pinned (OpenSpec.upto extentTakesSpec)

/-- 'apographlaw06.ExtentDoes', WHERE WHAT IT READS IS OF BULK AT MOST 1048576: true; the input reads as it did. -/
def extentDoesUptoRow : OpenClaim := { program := "ytglpckdmiohciaa", sum := "8a2b21a8c69ec994175fd5378be829c4e5d7cccdac6bdd134275d50945622391", func := "apograph/apographlaw06.ExtentDoes", spec := "extentDoes", inPlace := ["slices.overlaps[apograph/api.Span]"], unfollowed := true, recurses := true, apart := false, narrowed := true }
def ExtentDoesUptoSaid : Prop := extentDoesUptoRow.holds Try.pinned (OpenSpec.upto extentDoesSpec)

/-- 'apographlaw06.ExtentNone', WHERE WHAT IT READS IS OF BULK AT MOST 1048576: true; the input reads as it did. -/
def extentNoneUptoRow : OpenClaim := { program := "ytglpckdmiohciaa", sum := "8a2b21a8c69ec994175fd5378be829c4e5d7cccdac6bdd134275d50945622391", func := "apograph/apographlaw06.ExtentNone", spec := "extentNone", inPlace := ["slices.overlaps[apograph/api.Span]"], unfollowed := true, recurses := true, apart := false, narrowed := true }
def ExtentNoneUptoSaid : Prop := extentNoneUptoRow.holds Try.pinned (OpenSpec.upto extentNoneSpec)

end Rows
end Go.Proofs.Ytglpckdmiohciaa
