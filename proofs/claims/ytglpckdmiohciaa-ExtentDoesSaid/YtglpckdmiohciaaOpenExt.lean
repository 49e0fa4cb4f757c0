/- What the arguments of law06 read as. -/
import Derived.Test.YtglpckdmiohciaaOpenSup
import Derived.Test.YtglpckdmiohciaaExtD
namespace Go.Proofs.Ytglpckdmiohciaa
open Go.RowKit Go.ChangeShapes Go.WideShapes Go.Deep
set_option linter.unusedVariables false
set_option linter.unusedSimpArgs false

def intEnc (x : Int) : List Value := [.int .i64 x]
theorem intOk : Enc intEnc 1 := ⟨fun _ => rfl, fun x u hu => by simp [intEnc] at hu; subst hu; rfl, by omega⟩
/-- A row of numbers. -/
def Ints (W : World) (v : Value) (l : List Int) : Prop := ∃ A c, v = .slice A l.length c ∧ l.length ≤ c ∧ c ≤ 9223372036854775807 ∧ Rd intEnc 1 W A l
def SpanV (v : Value) (s : Span) : Prop := v = .agg #[.int .i64 s.start, .int .i64 s.pages]
/-- What is done with a set. -/
structure EDeed where
  kind : Int
  s : Span
def EDeed.enc (x : EDeed) : List Value := [.int .i64 x.kind, .int .i64 x.s.start, .int .i64 x.s.pages]
theorem EDeed.ok : Enc EDeed.enc 3 := ⟨fun _ => rfl, fun x u hu => by
  simp only [EDeed.enc, List.mem_cons, List.not_mem_nil, or_false] at hu
  rcases hu with rfl | rfl | rfl <;> rfl, by omega⟩
def EDeeds (W : World) (v : Value) (l : List EDeed) : Prop := ∃ A c, v = .slice A l.length c ∧ l.length ≤ c ∧ c ≤ 9223372036854775807 ∧ Rd EDeed.enc 3 W A l
section
variable {H : Type} {he : TypeId × Value → H} {W : World} {base : Nat} {spare : Nat → Bool} {held : Bool}
theorem dec_in (fuel : Nat) (cs : List Value) (y : DataW H × List MemPlace) (hl : cs.length = 1) (h : DataW.trod he Try.prog W base spare held fuel 3 cs = some y) : ∃ x : Int, cs = intEnc x ∧ True := by
  match cs, hl with
  | [c], _ =>
    obtain ⟨n, rfl, _⟩ := dec_int h
    exact ⟨n, rfl, trivial⟩
set_option maxRecDepth 100000 in
theorem open_intsL {r : Reach} {b0 : Nat} {v : Value} {d : DataW H} {ps : List MemPlace} (hv : Value.okWide Try.prog W r b0 82 v) (h : DataW.Trod he Try.prog W base spare held 82 v d ps) : ∃ l, Ints W v l := by
  obtain ⟨l, A, c, h1, h2, h3, h4, h5, h6⟩ := open_rows (enc := intEnc) (sz := 1) (good := fun _ => True) (by omega) Try.underlying82 (by kernel_rfl) dec_in hv h
  exact ⟨l, A, c, h1, h2, h3, h4⟩
set_option maxRecDepth 100000 in
theorem dec_span {fuel : Nat} {a b : Value} {y : DataW H × List MemPlace} (h : DataW.trod he Try.prog W base spare held fuel 90 [a, b] = some y) : ∃ s : Span, a = .int .i64 s.start ∧ b = .int .i64 s.pages := by
  obtain ⟨n0, y0, h0⟩ := open_field Try.underlying90 h 0 _ rfl
  obtain ⟨n1, y1, h1⟩ := open_field Try.underlying90 h 1 _ rfl
  obtain ⟨s0, rfl, _⟩ := dec_int h0
  obtain ⟨s1, rfl, _⟩ := dec_int h1
  exact ⟨⟨s0, s1⟩, rfl, rfl⟩
set_option maxRecDepth 100000 in
theorem open_span {r : Reach} {b0 : Nat} {v : Value} {d : DataW H} {ps : List MemPlace} (hv : Value.okWide Try.prog W r b0 90 v) (h : DataW.Trod he Try.prog W base spare held 90 v d ps) : ∃ s, SpanV v s := by
  obtain ⟨cs, rfl, hcs⟩ := okWide_struct Try.underlying90 hv
  obtain ⟨fuel, hf⟩ := h
  have e2 : Try.prog.cellsOf 90 = 2 := by kernel_rfl
  obtain ⟨a, b, hl⟩ := list2 (l := cs.toList) (by rw [Array.length_toList, hcs, e2])
  have hf' : DataW.trod he Try.prog W base spare held fuel 90 [a, b] = some (d, ps) := by rw [← hl]; simpa [Value.cells] using hf
  obtain ⟨s, rfl, rfl⟩ := dec_span hf'
  have : cs = #[.int .i64 s.start, .int .i64 s.pages] := Array.ext' hl
  subst this
  exact ⟨s, rfl⟩
set_option maxRecDepth 100000 in
theorem dec_edeed (fuel : Nat) (cs : List Value) (y : DataW H × List MemPlace) (hl : cs.length = 3) (h : DataW.trod he Try.prog W base spare held fuel 98 cs = some y) : ∃ x : EDeed, cs = x.enc ∧ True := by
  obtain ⟨a, b, c, rfl⟩ := list3 hl
  obtain ⟨n0, y0, h0⟩ := open_field Try.underlying98 h 0 _ rfl
  obtain ⟨n1, y1, h1⟩ := open_field Try.underlying98 h 1 _ rfl
  obtain ⟨s0, rfl, _⟩ := dec_int h0
  obtain ⟨s, rfl, rfl⟩ := dec_span (show DataW.trod he Try.prog W base spare held n1 90 [b, c] = some y1 from h1)
  exact ⟨⟨s0, s⟩, rfl, trivial⟩
set_option maxRecDepth 100000 in
theorem open_edeeds {r : Reach} {b0 : Nat} {v : Value} {d : DataW H} {ps : List MemPlace} (hv : Value.okWide Try.prog W r b0 94 v) (h : DataW.Trod he Try.prog W base spare held 94 v d ps) : ∃ l, EDeeds W v l := by
  obtain ⟨l, A, c, h1, h2, h3, h4, h5, h6⟩ := open_rows (enc := EDeed.enc) (sz := 3) (good := fun _ => True) (by omega) Try.underlying94 (by kernel_rfl) dec_edeed hv h
  exact ⟨l, A, c, h1, h2, h3, h4⟩
end
end Go.Proofs.Ytglpckdmiohciaa
