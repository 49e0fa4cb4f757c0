/-
  No cell of these rows narrows 'for every input' (looked for: loops, veiled, ifaces, maps, wideKeys, modest, calm, conditions, laid).
  DERIVED. THE GIVEN ROWS OF THIS SEAT. 8 by the template 'for every input the law returns true; each argument reads behind the call as it read before'; 0 by the template 'total and deterministic' (their statements: YtikgplhcadomcaaGreatTotals.lean).
  GIVEN WITH THE SEED: the statements are not yours to turn. If you find one false, say at which input.
  Laid BY PROGRAM, IN A SANDBOX (cutbox-rows.mjs): the forced cells as the released guide's own fill.sh prints them over the translation 11f9c6151b1f9b98… (all of the seat's roots in one cut). By AI agents, Wed Nov 11 2026. No macro, syntax, notation, axiom, sorry.
-/
import Derived.Test.YtikgplhcadomcaaGreatChecked
import GoSem.Claim
import GoSem.ClaimJoined
import GoSem.ClaimMapViews
import Derived.JoinedTies
import Derived.KernelRfl
namespace Go.Proofs.YtikgplhcadomcaaGreat
/- THE CELL 'sum', in the pinned program and in every row, IS THE sha256 OF THE DUMP (.gsa) THAT YtikgplhcadomcaaGreatProg.lean LOADS. Nothing in Lean hashes anything: it is a label: what it is worth is what the hold of that sum in a sandbox is worth. -/
noncomputable def Tryz.pinned : Pinned := { name := "ytikgplhcadomcaagreat", sum := "11f9c6151b1f9b98f97068687f03c72ca4dfc908bab6ff25e283f0c063591fcd", checked := Tryz.checked }
namespace Rows
def none {H : Type} : Left H := { results := [], args := [] }

/-- 'apographlaw26.ShapeTrees': WHATEVER THE INPUT: true; the input reads as it did. -/
def shapeTreesSpec : ChangeSpec := { name := "shapeTrees", fn := fun _ => fun
  | [d1, d2, d3] => { results := [.lit (.bool true)], args := [d1, d2, d3] }
  | _ => none }
def shapeTreesRow : OpenClaim := { program := "ytikgplhcadomcaagreat", sum := "11f9c6151b1f9b98f97068687f03c72ca4dfc908bab6ff25e283f0c063591fcd", func := "apograph/apographlaw26.ShapeTrees", spec := "shapeTrees", inPlace := ["maps.clone"], unfollowed := true, recurses := true, apart := false }
def ShapeTreesSaid : Prop := shapeTreesRow.holds Tryz.pinned (OpenSpec.ofChange shapeTreesSpec)

/-- ITS FALSE NEIGHBOUR: 'it returns false'. Refute it at one input. -/
def shapeTreesWrong : ChangeSpec := { name := "shapeTrees", fn := fun _ => fun
  | [d1, d2, d3] => { results := [.lit (.bool false)], args := [d1, d2, d3] }
  | _ => none }
def ShapeTreesWrongFalsely : Prop := shapeTreesRow.holds Tryz.pinned (OpenSpec.ofChange shapeTreesWrong)

/-- 'apographlaw10.TreeBuilds': WHATEVER THE INPUT: true; the input reads as it did. -/
def treeBuildsSpec : ChangeSpec := { name := "treeBuilds", fn := fun _ => fun
  | [d1, d2] => { results := [.lit (.bool true)], args := [d1, d2] }
  | _ => none }
def treeBuildsRow : OpenClaim := { program := "ytikgplhcadomcaagreat", sum := "11f9c6151b1f9b98f97068687f03c72ca4dfc908bab6ff25e283f0c063591fcd", func := "apograph/apographlaw10.TreeBuilds", spec := "treeBuilds", inPlace := ["maps.clone"], unfollowed := true, recurses := true, apart := false }
def TreeBuildsSaid : Prop := treeBuildsRow.holds Tryz.pinned (OpenSpec.ofChange treeBuildsSpec)

/-- ITS FALSE NEIGHBOUR: 'it returns false'. Refute it at one input. -/
def treeBuildsWrong : ChangeSpec := { name := "treeBuilds", fn := fun _ => fun
  | [d1, d2] => { results := [.lit (.bool false)], args := [d1, d2] }
  | _ => none }
def TreeBuildsWrongFalsely : Prop := treeBuildsRow.holds Tryz.pinned (OpenSpec.ofChange treeBuildsWrong)

/-- 'apographlaw29.StatTrees': WHATEVER THE INPUT: true; the input reads as it did. -/
def statTreesSpec : ChangeSpec := { name := "statTrees", fn := fun _ => fun
  | [d] => { results := [.lit (.bool true)], args := [d] }
  | _ => none }
def statTreesRow : OpenClaim := { program := "ytikgplhcadomcaagreat", sum := "11f9c6151b1f9b98f97068687f03c72ca4dfc908bab6ff25e283f0c063591fcd", func := "apograph/apographlaw29.StatTrees", spec := "statTrees", inPlace := ["maps.clone"], unfollowed := true, recurses := true, apart := false }
def StatTreesSaid : Prop := statTreesRow.holds Tryz.pinned (OpenSpec.ofChange statTreesSpec)

/-- ITS FALSE NEIGHBOUR: 'it returns false'. Refute it at one input. -/
def statTreesWrong : ChangeSpec := { name := "statTrees", fn := fun _ => fun
  | [d] => { results := [.lit (.bool false)], args := [d] }
  | _ => none }
def StatTreesWrongFalsely : Prop := statTreesRow.holds Tryz.pinned (OpenSpec.ofChange statTreesWrong)

/-- 'apographlaw08.ChunkKeeps': WHATEVER THE INPUT: true; the input reads as it did. -/
def chunkKeepsSpec : ChangeSpec := { name := "chunkKeeps", fn := fun _ => fun
  | [d1, d2, d3, d4] => { results := [.lit (.bool true)], args := [d1, d2, d3, d4] }
  | _ => none }
def chunkKeepsRow : OpenClaim := { program := "ytikgplhcadomcaagreat", sum := "11f9c6151b1f9b98f97068687f03c72ca4dfc908bab6ff25e283f0c063591fcd", func := "apograph/apographlaw08.ChunkKeeps", spec := "chunkKeeps", inPlace := ["maps.clone", "slices.overlaps[apograph/api.Span]"], unfollowed := true, recurses := true, apart := false }
def ChunkKeepsSaid : Prop := chunkKeepsRow.holds Tryz.pinned (OpenSpec.ofChange chunkKeepsSpec)

/-- ITS FALSE NEIGHBOUR: 'it returns false'. Refute it at one input. -/
def chunkKeepsWrong : ChangeSpec := { name := "chunkKeeps", fn := fun _ => fun
  | [d1, d2, d3, d4] => { results := [.lit (.bool false)], args := [d1, d2, d3, d4] }
  | _ => none }
def ChunkKeepsWrongFalsely : Prop := chunkKeepsRow.holds Tryz.pinned (OpenSpec.ofChange chunkKeepsWrong)

/-- 'apographlaw08.ChunkDoes': WHATEVER THE INPUT: true; the input reads as it did. -/
def chunkDoesSpec : ChangeSpec := { name := "chunkDoes", fn := fun _ => fun
  | [d1, d2] => { results := [.lit (.bool true)], args := [d1, d2] }
  | _ => none }
def chunkDoesRow : OpenClaim := { program := "ytikgplhcadomcaagreat", sum := "11f9c6151b1f9b98f97068687f03c72ca4dfc908bab6ff25e283f0c063591fcd", func := "apograph/apographlaw08.ChunkDoes", spec := "chunkDoes", inPlace := ["maps.clone", "slices.overlaps[apograph/api.Span]"], unfollowed := true, recurses := true, apart := false }
def ChunkDoesSaid : Prop := chunkDoesRow.holds Tryz.pinned (OpenSpec.ofChange chunkDoesSpec)

/-- ITS FALSE NEIGHBOUR: 'it returns false'. Refute it at one input. -/
def chunkDoesWrong : ChangeSpec := { name := "chunkDoes", fn := fun _ => fun
  | [d1, d2] => { results := [.lit (.bool false)], args := [d1, d2] }
  | _ => none }
def ChunkDoesWrongFalsely : Prop := chunkDoesRow.holds Tryz.pinned (OpenSpec.ofChange chunkDoesWrong)

/-- 'apographlaw08.ChunkOpens': WHATEVER THE INPUT: true; the input reads as it did. -/
def chunkOpensSpec : ChangeSpec := { name := "chunkOpens", fn := fun _ => fun
  | [d1, d2, d3, d4, d5, d6] => { results := [.lit (.bool true)], args := [d1, d2, d3, d4, d5, d6] }
  | _ => none }
def chunkOpensRow : OpenClaim := { program := "ytikgplhcadomcaagreat", sum := "11f9c6151b1f9b98f97068687f03c72ca4dfc908bab6ff25e283f0c063591fcd", func := "apograph/apographlaw08.ChunkOpens", spec := "chunkOpens", inPlace := ["maps.clone", "slices.overlaps[apograph/api.Span]"], unfollowed := true, recurses := true, apart := false }
def ChunkOpensSaid : Prop := chunkOpensRow.holds Tryz.pinned (OpenSpec.ofChange chunkOpensSpec)

/-- ITS FALSE NEIGHBOUR: 'it returns false'. Refute it at one input. -/
def chunkOpensWrong : ChangeSpec := { name := "chunkOpens", fn := fun _ => fun
  | [d1, d2, d3, d4, d5, d6] => { results := [.lit (.bool false)], args := [d1, d2, d3, d4, d5, d6] }
  | _ => none }
def ChunkOpensWrongFalsely : Prop := chunkOpensRow.holds Tryz.pinned (OpenSpec.ofChange chunkOpensWrong)

/-- 'apographlaw29.StatWidths': WHATEVER THE INPUT: true; the input reads as it did. -/
def statWidthsSpec : ChangeSpec := { name := "statWidths", fn := fun _ => fun
  | [d1, d2, d3] => { results := [.lit (.bool true)], args := [d1, d2, d3] }
  | _ => none }
def statWidthsRow : OpenClaim := { program := "ytikgplhcadomcaagreat", sum := "11f9c6151b1f9b98f97068687f03c72ca4dfc908bab6ff25e283f0c063591fcd", func := "apograph/apographlaw29.StatWidths", spec := "statWidths", inPlace := ["maps.clone"], unfollowed := true, recurses := true, apart := false }
def StatWidthsSaid : Prop := statWidthsRow.holds Tryz.pinned (OpenSpec.ofChange statWidthsSpec)

/-- ITS FALSE NEIGHBOUR: 'it returns false'. Refute it at one input. -/
def statWidthsWrong : ChangeSpec := { name := "statWidths", fn := fun _ => fun
  | [d1, d2, d3] => { results := [.lit (.bool false)], args := [d1, d2, d3] }
  | _ => none }
def StatWidthsWrongFalsely : Prop := statWidthsRow.holds Tryz.pinned (OpenSpec.ofChange statWidthsWrong)

/-- 'apographlaw10.TreeNodes': WHATEVER THE INPUT: true; the input reads as it did. -/
def treeNodesSpec : ChangeSpec := { name := "treeNodes", fn := fun _ => fun
  | [d] => { results := [.lit (.bool true)], args := [d] }
  | _ => none }
def treeNodesRow : OpenClaim := { program := "ytikgplhcadomcaagreat", sum := "11f9c6151b1f9b98f97068687f03c72ca4dfc908bab6ff25e283f0c063591fcd", func := "apograph/apographlaw10.TreeNodes", spec := "treeNodes", inPlace := ["maps.clone"], unfollowed := true, recurses := true, apart := false }
def TreeNodesSaid : Prop := treeNodesRow.holds Tryz.pinned (OpenSpec.ofChange treeNodesSpec)

/-- ITS FALSE NEIGHBOUR: 'it returns false'. Refute it at one input. -/
def treeNodesWrong : ChangeSpec := { name := "treeNodes", fn := fun _ => fun
  | [d] => { results := [.lit (.bool false)], args := [d] }
  | _ => none }
def TreeNodesWrongFalsely : Prop := treeNodesRow.holds Tryz.pinned (OpenSpec.ofChange treeNodesWrong)

/- THE SECOND FORM. 'bulk': how many values and letters a reading holds, each counted each time it is reached (what is shared counts as often as it is met; a slice's spare places count too). A statement '..UptoSaid' is the law's where the arguments, and the package variables that the reading takes, are together of bulk at most 1048576: NARROWER than '..Said'. Prove '..Said' where nothing that the law and all that it calls make is longer than what came in: it says more and counts as full. Else prove '..UptoSaid'. A law counts once. -/
mutual
def uptoBulk {H : Type} : DataW H → Nat
  | .lit (.string bytes) => bytes.length + 1
  | .lit _ => 1
  | .nil => 1
  | .ptr d => uptoBulk d + 1
  | .slice elems spare => uptoBulkAll elems + uptoBulkAll spare + 1
  | .agg parts => uptoBulkAll parts + 1
  | .iface _ d => uptoBulk d + 1
  | .map entries => uptoBulkEntries entries + 1
  | .held _ => 1
def uptoBulkAll {H : Type} : List (DataW H) → Nat
  | [] => 0
  | d :: r => uptoBulk d + uptoBulkAll r
def uptoBulkEntries {H : Type} : List (Lit × DataW H) → Nat
  | [] => 0
  | x :: r => uptoBulkEntry x + uptoBulkEntries r
def uptoBulkEntry {H : Type} : Lit × DataW H → Nat
  | (.string bytes, d) => bytes.length + uptoBulk d + 1
  | (_, d) => uptoBulk d + 1
 end
def uptoSmall : (H : Type) → List (DataW H) → Bool := fun _ ds => decide (uptoBulkAll ds ≤ 1048576)
def OpenSpec.upto (s : _root_.Go.ChangeSpec) : _root_.Go.OpenSpec := { _root_.Go.OpenSpec.ofChange s with cond := some uptoSmall }

/-- 'apographlaw26.ShapeTrees', WHERE WHAT IT READS IS OF BULK AT MOST 1048576: true; the input reads as it did. -/
def shapeTreesUptoRow : OpenClaim := { program := "ytikgplhcadomcaagreat", sum := "11f9c6151b1f9b98f97068687f03c72ca4dfc908bab6ff25e283f0c063591fcd", func := "apograph/apographlaw26.ShapeTrees", spec := "shapeTrees", inPlace := ["maps.clone"], unfollowed := true, recurses := true, apart := false, narrowed := true }
def ShapeTreesUptoSaid : Prop := shapeTreesUptoRow.holds Tryz.pinned (OpenSpec.upto shapeTreesSpec)

/-- 'apographlaw10.TreeBuilds', WHERE WHAT IT READS IS OF BULK AT MOST 1048576: true; the input reads as it did. -/
def treeBuildsUptoRow : OpenClaim := { program := "ytikgplhcadomcaagreat", sum := "11f9c6151b1f9b98f97068687f03c72ca4dfc908bab6ff25e283f0c063591fcd", func := "apograph/apographlaw10.TreeBuilds", spec := "treeBuilds", inPlace := ["maps.clone"], unfollowed := true, recurses := true, apart := false, narrowed := true }
def TreeBuildsUptoSaid : Prop := treeBuildsUptoRow.holds Tryz.pinned (OpenSpec.upto treeBuildsSpec)

/-- 'apographlaw29.StatTrees', WHERE WHAT IT READS IS OF BULK AT MOST 1048576: true; the input reads as it did. -/
def statTreesUptoRow : OpenClaim := { program := "ytikgplhcadomcaagreat", sum := "11f9c6151b1f9b98f97068687f03c72ca4dfc908bab6ff25e283f0c063591fcd", func := "apograph/apographlaw29.StatTrees", spec := "statTrees", inPlace := ["maps.clone"], unfollowed := true, recurses := true, apart := false, narrowed := true }
def StatTreesUptoSaid : Prop := statTreesUptoRow.holds Tryz.pinned (OpenSpec.upto statTreesSpec)

/-- 'apographlaw08.ChunkKeeps', WHERE WHAT IT READS IS OF BULK AT MOST 1048576: true; the input reads as it did. -/
def chunkKeepsUptoRow : OpenClaim := { program := "ytikgplhcadomcaagreat", sum := "11f9c6151b1f9b98f97068687f03c72ca4dfc908bab6ff25e283f0c063591fcd", func := "apograph/apographlaw08.ChunkKeeps", spec := "chunkKeeps", inPlace := ["maps.clone", "slices.overlaps[apograph/api.Span]"], unfollowed := true, recurses := true, apart := false, narrowed := true }
def ChunkKeepsUptoSaid : Prop := chunkKeepsUptoRow.holds Tryz.pinned (OpenSpec.upto chunkKeepsSpec)

/-- 'apographlaw08.ChunkDoes', WHERE WHAT IT READS IS OF BULK AT MOST 1048576: true; the input reads as it did. -/
def chunkDoesUptoRow : OpenClaim := { program := "ytikgplhcadomcaagreat", sum := "11f9c6151b1f9b98f97068687f03c72ca4dfc908bab6ff25e283f0c063591fcd", func := "apograph/apographlaw08.ChunkDoes", spec := "chunkDoes", inPlace := ["maps.clone", "slices.overlaps[apograph/api.Span]"], unfollowed := true, recurses := true, apart := false, narrowed := true }
def ChunkDoesUptoSaid : Prop := chunkDoesUptoRow.holds Tryz.pinned (OpenSpec.upto chunkDoesSpec)

/-- 'apographlaw08.ChunkOpens', WHERE WHAT IT READS IS OF BULK AT MOST 1048576: true; the input reads as it did. -/
def chunkOpensUptoRow : OpenClaim := { program := "ytikgplhcadomcaagreat", sum := "11f9c6151b1f9b98f97068687f03c72ca4dfc908bab6ff25e283f0c063591fcd", func := "apograph/apographlaw08.ChunkOpens", spec := "chunkOpens", inPlace := ["maps.clone", "slices.overlaps[apograph/api.Span]"], unfollowed := true, recurses := true, apart := false, narrowed := true }
def ChunkOpensUptoSaid : Prop := chunkOpensUptoRow.holds Tryz.pinned (OpenSpec.upto chunkOpensSpec)

/-- 'apographlaw29.StatWidths', WHERE WHAT IT READS IS OF BULK AT MOST 1048576: true; the input reads as it did. -/
def statWidthsUptoRow : OpenClaim := { program := "ytikgplhcadomcaagreat", sum := "11f9c6151b1f9b98f97068687f03c72ca4dfc908bab6ff25e283f0c063591fcd", func := "apograph/apographlaw29.StatWidths", spec := "statWidths", inPlace := ["maps.clone"], unfollowed := true, recurses := true, apart := false, narrowed := true }
def StatWidthsUptoSaid : Prop := statWidthsUptoRow.holds Tryz.pinned (OpenSpec.upto statWidthsSpec)

/-- 'apographlaw10.TreeNodes', WHERE WHAT IT READS IS OF BULK AT MOST 1048576: true; the input reads as it did. -/
def treeNodesUptoRow : OpenClaim := { program := "ytikgplhcadomcaagreat", sum := "11f9c6151b1f9b98f97068687f03c72ca4dfc908bab6ff25e283f0c063591fcd", func := "apograph/apographlaw10.TreeNodes", spec := "treeNodes", inPlace := ["maps.clone"], unfollowed := true, recurses := true, apart := false, narrowed := true }
def TreeNodesUptoSaid : Prop := treeNodesUptoRow.holds Tryz.pinned (OpenSpec.upto treeNodesSpec)

end Rows
end Go.Proofs.YtikgplhcadomcaaGreat
