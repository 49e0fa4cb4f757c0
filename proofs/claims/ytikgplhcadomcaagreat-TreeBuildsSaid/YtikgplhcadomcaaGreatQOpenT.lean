/- What a text argument reads as. -/
import Derived.Test.YtikgplhcadomcaaGreatKA
namespace Go.Proofs.YtikgplhcadomcaaGreat
open Go.RowKit Go.ChangeShapes Go.WideShapes Go.Deep
set_option linter.unusedVariables false
set_option linter.unusedSimpArgs false
def TextV (v : Value) (s : Str) : Prop := v = .string s ∧ s.size ≤ 9223372036854775807
section
variable {H : Type} {he : TypeId × Value → H} {W : World} {base : Nat} {spare : Nat → Bool} {held : Bool}
set_option maxRecDepth 100000 in
theorem open_text {r : Reach} {b0 : Nat} {v : Value} {d : DataW H} {ps : List MemPlace} (hv : Value.okWide Tryz.prog W r b0 9 v) (h : DataW.Trod he Tryz.prog W base spare held 9 v d ps) : ∃ s, TextV v s := by
  obtain ⟨s, rfl⟩ := okWide_string Tryz.underlying9 hv
  obtain ⟨fuel, hf⟩ := h
  obtain ⟨s', e, hs⟩ := dec_string (by simpa [Value.cells] using hf)
  cases e
  exact ⟨s, rfl, hs⟩
end
end Go.Proofs.YtikgplhcadomcaaGreat
