/- Bytes that come in, as whole numbers. -/
import Derived.Test.YtofdmkglhjpbcaaOpen
import Derived.Test.YtofdmkglhjpbcaaCameR
import Derived.Test.YtofdmkglhjpbcaaByt
namespace Go.Proofs.Ytofdmkglhjpbcaa
open Go.RowKit Go.ChangeShapes Go.WideShapes Go.Deep
set_option linter.unusedVariables false
set_option linter.unusedSimpArgs false

def byteOk (x : Int) : Prop := 0 ≤ x ∧ x ≤ 255
section
variable {H : Type} {he : TypeId × Value → H} {W : World} {base : Nat} {spare : Nat → Bool} {held : Bool}
theorem dec_u8e (fuel : Nat) (cs : List Value) (y : DataW H × List MemPlace) (hl : cs.length = 1) (h : DataW.trod he Try.prog W base spare held fuel 5 cs = some y) : ∃ x : Int, cs = u8e x ∧ byteOk x := by
  match cs, hl with
  | [c], _ =>
    obtain ⟨n, e, _, hw⟩ := DataW.trod_int Try.underlying5 h
    simp only [List.cons.injEq, and_true] at e
    subst e
    refine ⟨n, rfl, ?_⟩
    have := bounds_u8 hw
    unfold byteOk
    omega
set_option maxRecDepth 100000 in
theorem open_u8s {r : Reach} {b0 : Nat} {v : Value} {d : DataW H} {ps : List MemPlace} (hv : Value.okWide Try.prog W r b0 57 v) (h : DataW.Trod he Try.prog W base spare held 57 v d ps) : ∃ b, CameR u8e 1 byteOk W v b := by
  obtain ⟨l, A, c, h1, h2, h3, h4, h5, h6⟩ := open_rows (enc := u8e) (sz := 1) (good := byteOk) (by omega) Try.underlying57 (by kernel_rfl) dec_u8e hv h
  exact ⟨l, A, c, h1, h2, h3, h4, h5, h6⟩
end
end Go.Proofs.Ytofdmkglhjpbcaa
