/- law07.awake; the pager as a law holds it. The pager as a law holds it. -/
import Derived.Test.YtikgplhcadomcaaGreatKI
import Derived.Test.YtikgplhcadomcaaGreatKJ
import Derived.Test.YtikgplhcadomcaaGreatKK
import Derived.Lib.SlBytesConst
namespace Go.Proofs.YtikgplhcadomcaaGreat
open Go.RowKit
set_option linter.unusedVariables false
set_option linter.unusedSimpArgs false
theorem OpenR.known {w w' : World} {g : Nat} {F : Nat → Prop} {D : Dv} {P : Pg} {b : List Int} {e : Ending} (h : OpenR w w' g F D e) (ho : openR D = (some (P, b), 0)) :
    ∃ p F' A c, e = .returned (.tuple #[.pointer (some ⟨p, 0, none⟩), .slice A b.length c, .int .i64 0]) ∧ b.length ≤ c ∧ Rd by1 1 w' A b ∧ (∀ a, A = some a → w.heap.size ≤ a.block ∧ ¬ F' a.block) ∧ PgAt w' p g F' D P ∧ (∀ i, F' i → F i ∨ w.heap.size ≤ i) ∧ Below w.heap.size w w' := by
  rcases h with ⟨P', b', p, F', A, c, e1, e2, hc, hr, hA, hP, hF, hb⟩ | ⟨n, e1, e2, _⟩
  · rw [ho] at e1
    have e3 := congrArg Prod.fst e1
    simp only [Option.some.injEq, Prod.mk.injEq] at e3
    obtain ⟨rfl, rfl⟩ := e3
    exact ⟨p, F', A, c, e2, hc, hr, hA, hP, hF, hb⟩
  · rw [ho] at e1
    cases e1
end Go.Proofs.YtikgplhcadomcaaGreat

namespace Go.Proofs.YtikgplhcadomcaaGreat
open Go.RowKit
set_option linter.unusedVariables false
set_option linter.unusedSimpArgs false
/-- The pager at p, with its device at g, in blocks from W1 on. -/
def PgB (W1 wr : World) (p g : Nat) (D : Dv) (P : Pg) : Prop := ∃ F, PgAt wr p g F D P ∧ (∀ i, F i → W1.heap.size ≤ i) ∧ Below W1.heap.size W1 wr
section
variable {W1 wr w3 : World} {p g : Nat} {D D' : Dv} {P P' : Pg} {F : Nat → Prop}
theorem PgB.below (h : PgB W1 wr p g D P) (hb : Below wr.heap.size wr w3) : PgB W1 w3 p g D P := by
  obtain ⟨F, h1, h2, h3⟩ := h
  exact ⟨F, h1.below hb, h2, bl_then h3 h3.size hb⟩
theorem PgB.alloc (h : PgB W1 wr p g D P) (o : Obj) : PgB W1 (wr.alloc o) p g D P := h.below (bl_alloc (Below.refl _ _) o)
theorem PgB.drew (h : PgB W1 wr p g D P) : PgB W1 wr.drew p g D P := h.below (Below.refl _ _).drew
theorem PgB.bl (h : PgB W1 wr p g D P) : Below W1.heap.size W1 wr := by obtain ⟨F, h1, h2, h3⟩ := h; exact h3
theorem PgB.frok (h : PgB W1 wr p g D P) : P.fr.Ok := by obtain ⟨F, h1, h2, h3⟩ := h; exact h1.frok
theorem PgB.sok (h : PgB W1 wr p g D P) : P.s.ok := by obtain ⟨F, h1, h2, h3⟩ := h; exact h1.sok
end
/-! ### How much there is in the cache -/
end Go.Proofs.YtikgplhcadomcaaGreat
