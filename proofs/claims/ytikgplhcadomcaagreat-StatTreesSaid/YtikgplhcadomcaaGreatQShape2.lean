/- shape.Tree -/
import Derived.Test.YtikgplhcadomcaaGreatQShapeP
namespace Go.Proofs.YtikgplhcadomcaaGreat
open Go.RowKit
set_option linter.unusedVariables false
set_option linter.unusedSimpArgs false
theorem infoSs : (Tryz.prog.info? 49).map (fun i => (i.zero, i.size, i.bytes)) = some (some (.slice none 0 0), 1, 24) := by kernel_rfl
def ShT (q14 q13 : Nat) (lv : Int) (a : NdA) (n : Nat) (kl : Str) (ki : Int) (W : World) : Prop := W.heap[q14]? = some (.cells #[.int .i64 lv, .slice a.A 0 a.ca, .slice a.B n a.cb] 98 (0, 0)) ∧ W.heap[q13]? = some (.cells #[.string kl, .int .u64 ki] 109 (0, 0))
theorem ShT.below {q14 q13 : Nat} {lv : Int} {a : NdA} {n : Nat} {kl : Str} {ki : Int} {W W' : World} (h : ShT q14 q13 lv a n kl ki W) (hb : Below W.heap.size W W') : ShT q14 q13 lv a n kl ki W' := ⟨blk_below hb h.1 (blk_lt h.1), blk_below hb h.2 (blk_lt h.2)⟩
section
variable {w : World} {s p g : Nat} {F : Nat → Prop} {C : List (List Int)}
end
end Go.Proofs.YtikgplhcadomcaaGreat
