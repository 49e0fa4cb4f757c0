/-
  No cell of these rows narrows 'for every input' (looked for: loops, veiled, ifaces, maps, wideKeys, modest, calm, conditions, laid).
  DERIVED. THE GIVEN ROWS OF THIS SEAT. 4 by the template 'for every input the law returns true; each argument reads behind the call as it read before'; 0 by the template 'total and deterministic' (their statements: YtikgplhcadomcaaTotals.lean).
  GIVEN WITH THE SEED: the statements are not yours to turn. If you find one false, say at which input.
  Laid BY PROGRAM, IN A SANDBOX (cutbox-rows.mjs): the forced cells as the released guide's own fill.sh prints them over the translation 243fe523e722ac37… (all of the seat's roots in one cut). By AI agents, Wed Nov 11 2026. No macro, syntax, notation, axiom, sorry.
-/
import Derived.Test.YtikgplhcadomcaaChecked
import GoSem.Claim
import GoSem.ClaimJoined
import GoSem.ClaimMapViews
import Derived.JoinedTies
import Derived.KernelRfl
namespace Go.Proofs.Ytikgplhcadomcaa
/- THE CELL 'sum', in the pinned program and in every row, IS THE sha256 OF THE DUMP (.gsa) THAT YtikgplhcadomcaaProg.lean LOADS. Nothing in Lean hashes anything: it is a label: what it is worth is what the hold of that sum in a sandbox is worth. -/
noncomputable def Try.pinned : Pinned := { name := "ytikgplhcadomcaa", sum := "243fe523e722ac3711c8365fc17b6ed0fbe9bf05b46f66c72edf5072b95acb72", checked := Try.checked }
namespace Rows
def none {H : Type} : Left H := { results := [], args := [] }

/-- 'apographlaw07.PagerCounts': WHATEVER THE INPUT: true; the input reads as it did. -/
def pagerCountsSpec : ChangeSpec := { name := "pagerCounts", fn := fun _ => fun
  | [d1, d2, d3] => { results := [.lit (.bool true)], args := [d1, d2, d3] }
  | _ => none }
def pagerCountsRow : OpenClaim := { program := "ytikgplhcadomcaa", sum := "243fe523e722ac3711c8365fc17b6ed0fbe9bf05b46f66c72edf5072b95acb72", func := "apograph/apographlaw07.PagerCounts", spec := "pagerCounts", inPlace := ["slices.overlaps[apograph/api.Span]"], unfollowed := true, recurses := true, apart := false }
def PagerCountsSaid : Prop := pagerCountsRow.holds Try.pinned (OpenSpec.ofChange pagerCountsSpec)

/-- ITS FALSE NEIGHBOUR: 'it returns false'. Refute it at one input. -/
def pagerCountsWrong : ChangeSpec := { name := "pagerCounts", fn := fun _ => fun
  | [d1, d2, d3] => { results := [.lit (.bool false)], args := [d1, d2, d3] }
  | _ => none }
def PagerCountsWrongFalsely : Prop := pagerCountsRow.holds Try.pinned (OpenSpec.ofChange pagerCountsWrong)

/-- 'apographlaw07.PagerKeeps': WHATEVER THE INPUT: true; the input reads as it did. -/
def pagerKeepsSpec : ChangeSpec := { name := "pagerKeeps", fn := fun _ => fun
  | [d1, d2, d3, d4, d5] => { results := [.lit (.bool true)], args := [d1, d2, d3, d4, d5] }
  | _ => none }
def pagerKeepsRow : OpenClaim := { program := "ytikgplhcadomcaa", sum := "243fe523e722ac3711c8365fc17b6ed0fbe9bf05b46f66c72edf5072b95acb72", func := "apograph/apographlaw07.PagerKeeps", spec := "pagerKeeps", inPlace := ["slices.overlaps[apograph/api.Span]"], unfollowed := true, recurses := true, apart := false }
def PagerKeepsSaid : Prop := pagerKeepsRow.holds Try.pinned (OpenSpec.ofChange pagerKeepsSpec)

/-- ITS FALSE NEIGHBOUR: 'it returns false'. Refute it at one input. -/
def pagerKeepsWrong : ChangeSpec := { name := "pagerKeeps", fn := fun _ => fun
  | [d1, d2, d3, d4, d5] => { results := [.lit (.bool false)], args := [d1, d2, d3, d4, d5] }
  | _ => none }
def PagerKeepsWrongFalsely : Prop := pagerKeepsRow.holds Try.pinned (OpenSpec.ofChange pagerKeepsWrong)

/-- 'apographlaw08.ChunkOnce': WHATEVER THE INPUT: true; the input reads as it did. -/
def chunkOnceSpec : ChangeSpec := { name := "chunkOnce", fn := fun _ => fun
  | [d1, d2] => { results := [.lit (.bool true)], args := [d1, d2] }
  | _ => none }
def chunkOnceRow : OpenClaim := { program := "ytikgplhcadomcaa", sum := "243fe523e722ac3711c8365fc17b6ed0fbe9bf05b46f66c72edf5072b95acb72", func := "apograph/apographlaw08.ChunkOnce", spec := "chunkOnce", inPlace := ["maps.clone"], unfollowed := true, recurses := true, apart := false }
def ChunkOnceSaid : Prop := chunkOnceRow.holds Try.pinned (OpenSpec.ofChange chunkOnceSpec)

/-- ITS FALSE NEIGHBOUR: 'it returns false'. Refute it at one input. -/
def chunkOnceWrong : ChangeSpec := { name := "chunkOnce", fn := fun _ => fun
  | [d1, d2] => { results := [.lit (.bool false)], args := [d1, d2] }
  | _ => none }
def ChunkOnceWrongFalsely : Prop := chunkOnceRow.holds Try.pinned (OpenSpec.ofChange chunkOnceWrong)

/-- 'apographlaw07.PagerNone': WHATEVER THE INPUT: true; the input reads as it did. -/
def pagerNoneSpec : ChangeSpec := { name := "pagerNone", fn := fun _ => fun
  | [d1, d2, d3] => { results := [.lit (.bool true)], args := [d1, d2, d3] }
  | _ => none }
def pagerNoneRow : OpenClaim := { program := "ytikgplhcadomcaa", sum := "243fe523e722ac3711c8365fc17b6ed0fbe9bf05b46f66c72edf5072b95acb72", func := "apograph/apographlaw07.PagerNone", spec := "pagerNone", inPlace := ["slices.overlaps[apograph/api.Span]"], unfollowed := true, recurses := true, apart := false }
def PagerNoneSaid : Prop := pagerNoneRow.holds Try.pinned (OpenSpec.ofChange pagerNoneSpec)

/-- ITS FALSE NEIGHBOUR: 'it returns false'. Refute it at one input. -/
def pagerNoneWrong : ChangeSpec := { name := "pagerNone", fn := fun _ => fun
  | [d1, d2, d3] => { results := [.lit (.bool false)], args := [d1, d2, d3] }
  | _ => none }
def PagerNoneWrongFalsely : Prop := pagerNoneRow.holds Try.pinned (OpenSpec.ofChange pagerNoneWrong)

/- THE SECOND FORM. 'bulk': how many values and letters a reading holds, each counted each time it is reached (what is shared counts as often as it is met; a slice's spare places count too). A statement '..UptoSaid' is the law's where the arguments, and the package variables that the reading takes, are together of bulk at most 1048576: NARROWER than '..Said'. Prove '..Said' where nothing that the law and all that it calls make is longer than what came in: it says more and counts as full. Else prove '..UptoSaid'. A law counts once. -/
mutual
def uptoBulk {H : Type} : DataW H → Nat
  | .lit (.string bytes) => bytes.length + 1
  | .lit _ => 1
  | .nil => 1
  | .ptr d => uptoBulk d + 1
  | .slice elems spare => uptoBulkAll elems + uptoBulkAll spare + 1
  | .agg parts => uptoBulkAll parts + 1
  | .iface _ d => uptoBulk d + 1
  | .map entries => uptoBulkEntries entries + 1
  | .held _ => 1
def uptoBulkAll {H : Type} : List (DataW H) → Nat
  | [] => 0
  | d :: r => uptoBulk d + uptoBulkAll r
def uptoBulkEntries {H : Type} : List (Lit × DataW H) → Nat
  | [] => 0
  | x :: r => uptoBulkEntry x + uptoBulkEntries r
def uptoBulkEntry {H : Type} : Lit × DataW H → Nat
  | (.string bytes, d) => bytes.length + uptoBulk d + 1
  | (_, d) => uptoBulk d + 1
 end
def uptoSmall : (H : Type) → List (DataW H) → Bool := fun _ ds => decide (uptoBulkAll ds ≤ 1048576)
def OpenSpec.upto (s : _root_.Go.ChangeSpec) : _root_.Go.OpenSpec := { _root_.Go.OpenSpec.ofChange s with cond := some uptoSmall }

/-- 'apographlaw07.PagerCounts', WHERE WHAT IT READS IS OF BULK AT MOST 1048576: true; the input reads as it did. -/
def pagerCountsUptoRow : OpenClaim := { program := "ytikgplhcadomcaa", sum := "243fe523e722ac3711c8365fc17b6ed0fbe9bf05b46f66c72edf5072b95acb72", func := "apograph/apographlaw07.PagerCounts", spec := "pagerCounts", inPlace := ["slices.overlaps[apograph/api.Span]"], unfollowed := true, recurses := true, apart := false, narrowed := true }
def PagerCountsUptoSaid : Prop := pagerCountsUptoRow.holds Try.pinned (OpenSpec.upto pagerCountsSpec)

/-- 'apographlaw07.PagerKeeps', WHERE WHAT IT READS IS OF BULK AT MOST 1048576: true; the input reads as it did. -/
def pagerKeepsUptoRow : OpenClaim := { program := "ytikgplhcadomcaa", sum := "243fe523e722ac3711c8365fc17b6ed0fbe9bf05b46f66c72edf5072b95acb72", func := "apograph/apographlaw07.PagerKeeps", spec := "pagerKeeps", inPlace := ["slices.overlaps[apograph/api.Span]"], unfollowed := true, recurses := true, apart := false, narrowed := true }
def PagerKeepsUptoSaid : Prop := pagerKeepsUptoRow.holds Try.pinned (OpenSpec.upto pagerKeepsSpec)

/-- 'apographlaw08.ChunkOnce', WHERE WHAT IT READS IS OF BULK AT MOST 1048576: true; the input reads as it did. -/
def chunkOnceUptoRow : OpenClaim := { program := "ytikgplhcadomcaa", sum := "243fe523e722ac3711c8365fc17b6ed0fbe9bf05b46f66c72edf5072b95acb72", func := "apograph/apographlaw08.ChunkOnce", spec := "chunkOnce", inPlace := ["maps.clone"], unfollowed := true, recurses := true, apart := false, narrowed := true }
def ChunkOnceUptoSaid : Prop := chunkOnceUptoRow.holds Try.pinned (OpenSpec.upto chunkOnceSpec)

/-- 'apographlaw07.PagerNone', WHERE WHAT IT READS IS OF BULK AT MOST 1048576: true; the input reads as it did. -/
def pagerNoneUptoRow : OpenClaim := { program := "ytikgplhcadomcaa", sum := "243fe523e722ac3711c8365fc17b6ed0fbe9bf05b46f66c72edf5072b95acb72", func := "apograph/apographlaw07.PagerNone", spec := "pagerNone", inPlace := ["slices.overlaps[apograph/api.Span]"], unfollowed := true, recurses := true, apart := false, narrowed := true }
def PagerNoneUptoSaid : Prop := pagerNoneUptoRow.holds Try.pinned (OpenSpec.upto pagerNoneSpec)

end Rows
end Go.Proofs.Ytikgplhcadomcaa
