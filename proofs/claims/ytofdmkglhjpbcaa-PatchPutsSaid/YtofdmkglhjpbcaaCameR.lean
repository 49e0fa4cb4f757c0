/- Rows that came in, in this claim's own words; what rows of changes and edits read as. -/
import Derived.Test.YtofdmkglhjpbcaaOpen
import Derived.Test.YtofdmkglhjpbcaaEdits
namespace Go.Proofs.Ytofdmkglhjpbcaa
open Go.RowKit Go.ChangeShapes Go.WideShapes Go.Deep
set_option linter.unusedVariables false
set_option linter.unusedSimpArgs false

def CameR {α : Type} (enc : α → List Value) (sz : Nat) (good : α → Prop) (W : World) (v : Value) (l : List α) : Prop :=
  ∃ A c, v = .slice A l.length c ∧ l.length ≤ c ∧ c ≤ 9223372036854775807 ∧ Rd enc sz W A l ∧ (∀ x ∈ l, good x) ∧ (l ≠ [] → ∀ a, A = some a → a.block < W.heap.size)
def Change.good (x : Change) : Prop := x.key.size ≤ 9223372036854775807 ∧ x.was.size ≤ 9223372036854775807 ∧ x.now.size ≤ 9223372036854775807
def EditE.good (x : EditE) : Prop := x.key.size ≤ 9223372036854775807 ∧ x.val.size ≤ 9223372036854775807
section
variable {H : Type} {he : TypeId × Value → H} {W : World} {base : Nat} {spare : Nat → Bool} {held : Bool}
set_option maxRecDepth 100000 in
theorem dec_change (fuel : Nat) (cs : List Value) (y : DataW H × List MemPlace) (hl : cs.length = 5) (h : DataW.trod he Try.prog W base spare held fuel 35 cs = some y) : ∃ x : Change, cs = x.enc ∧ x.good := by
  obtain ⟨a, b, c, d, e, rfl⟩ := list5 hl
  obtain ⟨n0, y0, h0⟩ := open_field Try.underlying35 h 0 _ rfl
  obtain ⟨n1, y1, h1⟩ := open_field Try.underlying35 h 1 _ rfl
  obtain ⟨n2, y2, h2⟩ := open_field Try.underlying35 h 2 _ rfl
  obtain ⟨n3, y3, h3⟩ := open_field Try.underlying35 h 3 _ rfl
  obtain ⟨n4, y4, h4⟩ := open_field Try.underlying35 h 4 _ rfl
  obtain ⟨s0, rfl, g0⟩ := dec_string h0
  obtain ⟨s1, rfl⟩ := dec_bool h1
  obtain ⟨s2, rfl, g2⟩ := dec_string h2
  obtain ⟨s3, rfl⟩ := dec_bool h3
  obtain ⟨s4, rfl, g4⟩ := dec_string h4
  exact ⟨⟨s0, s1, s2, s3, s4⟩, rfl, g0, g2, g4⟩
set_option maxRecDepth 100000 in
theorem dec_edit (fuel : Nat) (cs : List Value) (y : DataW H × List MemPlace) (hl : cs.length = 3) (h : DataW.trod he Try.prog W base spare held fuel 37 cs = some y) : ∃ x : EditE, cs = x.enc ∧ x.good := by
  obtain ⟨a, b, c, rfl⟩ := list3 hl
  obtain ⟨n0, y0, h0⟩ := open_field Try.underlying37 h 0 _ rfl
  obtain ⟨n1, y1, h1⟩ := open_field Try.underlying37 h 1 _ rfl
  obtain ⟨n2, y2, h2⟩ := open_field Try.underlying37 h 2 _ rfl
  obtain ⟨s0, rfl, g0⟩ := dec_string h0
  obtain ⟨s1, rfl, g1⟩ := dec_string h1
  obtain ⟨s2, rfl⟩ := dec_bool h2
  exact ⟨⟨s0, s1, s2⟩, rfl, g0, g1⟩
set_option maxRecDepth 100000 in
theorem open_changes {r : Reach} {b0 : Nat} {v : Value} {d : DataW H} {ps : List MemPlace} (hv : Value.okWide Try.prog W r b0 25 v) (h : DataW.Trod he Try.prog W base spare held 25 v d ps) : ∃ l, CameR Change.enc 5 Change.good W v l := by
  obtain ⟨l, A, c, h1, h2, h3, h4, h5, h6⟩ := open_rows (enc := Change.enc) (sz := 5) (good := Change.good) (by omega) Try.underlying25 (by kernel_rfl) dec_change hv h
  exact ⟨l, A, c, h1, h2, h3, h4, h5, h6⟩
set_option maxRecDepth 100000 in
theorem open_edits {r : Reach} {b0 : Nat} {v : Value} {d : DataW H} {ps : List MemPlace} (hv : Value.okWide Try.prog W r b0 29 v) (h : DataW.Trod he Try.prog W base spare held 29 v d ps) : ∃ l, CameR EditE.enc 3 EditE.good W v l := by
  obtain ⟨l, A, c, h1, h2, h3, h4, h5, h6⟩ := open_rows (enc := EditE.enc) (sz := 3) (good := EditE.good) (by omega) Try.underlying29 (by kernel_rfl) dec_edit hv h
  exact ⟨l, A, c, h1, h2, h3, h4, h5, h6⟩
end
end Go.Proofs.Ytofdmkglhjpbcaa
