/- law08.awake, law08.ChunkOnce -/
import Derived.Test.YtikgplhcadomcaaGreatKM
import Derived.Lib.SlBytesConst
namespace Go.Proofs.YtikgplhcadomcaaGreat
open Go.RowKit
set_option linter.unusedVariables false
set_option linter.unusedSimpArgs false
/-- The store as a law holds it. -/
def StB (W1 wr : World) (s p g : Nat) (D : Dv) (S : Stor) : Prop := ∃ F, StAt wr s p g F D S ∧ (∀ i, F i → W1.heap.size ≤ i) ∧ Below W1.heap.size W1 wr
section
variable {W1 wr w3 : World} {s p g : Nat} {D D' : Dv} {S S' : Stor} {F : Nat → Prop}
theorem StB.below (h : StB W1 wr s p g D S) (hb : Below wr.heap.size wr w3) : StB W1 w3 s p g D S := by
  obtain ⟨F, h1, h2, h3⟩ := h
  exact ⟨F, h1.below hb, h2, bl_then h3 h3.size hb⟩
theorem StB.bl (h : StB W1 wr s p g D S) : Below W1.heap.size W1 wr := by obtain ⟨F, h1, h2, h3⟩ := h; exact h3
theorem devB_chOpenF (h : DevB W1 wr g D) {P : Pg} (hcl : D.cache.length ≤ 1000000000) (h1 : openR D = (none, 50)) (h2 : (formatR D).1 = 0) (h3 : openR (formatR D).2 = (some (P, []), 0)) :
    Calls Tryz.prog 31 #[.pointer (some ⟨g, 0, none⟩)] wr fun e w' => ∃ s p, e = .returned (.tuple #[.pointer (some ⟨s, 0, none⟩), .int .i64 0]) ∧ StB W1 w' s p g (formatR D).2 (stor0 P) := by
  obtain ⟨F, k1, k2, k3⟩ := h
  refine (chOpenF_calls k1 hcl h1 h2 h3).mono fun e w' hh => ?_
  obtain ⟨s, p, F', e1, e2, e3, e4⟩ := hh
  exact ⟨s, p, e1, F', e2, fun i hi => (e3 i hi).elim (k2 i) (fun q => Nat.le_trans k3.size q), bl_chg k3 k3.size e4 k2⟩
end
end Go.Proofs.YtikgplhcadomcaaGreat
