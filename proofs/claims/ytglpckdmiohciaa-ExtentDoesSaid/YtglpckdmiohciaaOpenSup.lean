/- What more arguments read as: a super, bytes, a number. -/
import Derived.Test.YtglpckdmiohciaaOpen
import Derived.Test.YtglpckdmiohciaaPut
import Derived.Test.YtglpckdmiohciaaNumber
namespace Go.Proofs.Ytglpckdmiohciaa
open Go.RowKit Go.ChangeShapes Go.WideShapes Go.Deep
set_option linter.unusedVariables false
set_option linter.unusedSimpArgs false

theorem list4 {l : List Value} (h : l.length = 4) : ∃ a b c d, l = [a, b, c, d] := by match l, h with | [a, b, c, d], _ => exact ⟨a, b, c, d, rfl⟩
def SupV (v : Value) (s : Sup) : Prop := v = supV s ∧ s.ok
def Bytes (w : World) (v : Value) (b : List Int) : Prop := ∃ A c, v = .slice A b.length c ∧ b.length ≤ c ∧ byteL b ∧ Rd by1 1 w A b
def IntV (v : Value) (n : Int) : Prop := v = .int .i64 n ∧ -9223372036854775808 ≤ n ∧ n ≤ 9223372036854775807
section
variable {H : Type} {he : TypeId × Value → H} {W : World} {base : Nat} {spare : Nat → Bool} {held : Bool}
theorem dec_u64 {fuel : Nat} {c : Value} {y : DataW H × List MemPlace} (h : DataW.trod he Try.prog W base spare held fuel 34 [c] = some y) : ∃ n : Int, c = .int .u64 n ∧ 0 ≤ n ∧ n < 18446744073709551616 := by
  obtain ⟨n, e, _, hw⟩ := DataW.trod_int Try.underlying34 h
  simp only [List.cons.injEq, and_true] at e
  refine ⟨n, e, ?_⟩
  have := bounds_u64 hw
  omega
theorem dec_u32 {fuel : Nat} {c : Value} {y : DataW H × List MemPlace} (h : DataW.trod he Try.prog W base spare held fuel 35 [c] = some y) : ∃ n : Int, c = .int .u32 n ∧ 0 ≤ n ∧ n < 4294967296 := by
  obtain ⟨n, e, _, hw⟩ := DataW.trod_int Try.underlying35 h
  simp only [List.cons.injEq, and_true] at e
  refine ⟨n, e, ?_⟩
  have := bounds_u32 hw
  omega
theorem dec_u8 {fuel : Nat} {c : Value} {y : DataW H × List MemPlace} (h : DataW.trod he Try.prog W base spare held fuel 5 [c] = some y) : ∃ n : Int, c = .int .u8 n ∧ 0 ≤ n ∧ n ≤ 255 := by
  obtain ⟨n, e, _, hw⟩ := DataW.trod_int Try.underlying5 h
  simp only [List.cons.injEq, and_true] at e
  refine ⟨n, e, ?_⟩
  have := bounds_u8 hw
  omega
set_option maxRecDepth 100000 in
theorem dec_super (fuel : Nat) (cs : List Value) (y : DataW H × List MemPlace) (hl : cs.length = 4) (h : DataW.trod he Try.prog W base spare held fuel 37 cs = some y) : ∃ s : Sup, cs = (supV s).cells.toList ∧ s.ok := by
  obtain ⟨a, b, c, d, rfl⟩ := list4 hl
  obtain ⟨n0, y0, h0⟩ := open_field Try.underlying37 h 0 _ rfl
  obtain ⟨n1, y1, h1⟩ := open_field Try.underlying37 h 1 _ rfl
  obtain ⟨n2, y2, h2⟩ := open_field Try.underlying37 h 2 _ rfl
  obtain ⟨n3, y3, h3⟩ := open_field Try.underlying37 h 3 _ rfl
  obtain ⟨s0, rfl, g0⟩ := dec_u64 h0
  obtain ⟨s1, rfl, g1⟩ := dec_u32 h1
  obtain ⟨s2, rfl, g2⟩ := dec_u32 h2
  obtain ⟨s3, rfl, g3⟩ := dec_u32 h3
  exact ⟨⟨s0, s1, s2, s3⟩, rfl, g0, g1, g2, g3⟩
set_option maxRecDepth 100000 in
theorem open_super {r : Reach} {b0 : Nat} {v : Value} {d : DataW H} {ps : List MemPlace} (hv : Value.okWide Try.prog W r b0 37 v) (h : DataW.Trod he Try.prog W base spare held 37 v d ps) : ∃ s, SupV v s := by
  obtain ⟨cs, rfl, hcs⟩ := okWide_struct Try.underlying37 hv
  obtain ⟨fuel, hf⟩ := h
  have e4 : Try.prog.cellsOf 37 = 4 := by kernel_rfl
  obtain ⟨s, hs, hok⟩ := dec_super fuel cs.toList (d, ps) (by rw [Array.length_toList, hcs, e4]) (by simpa [Value.cells] using hf)
  refine ⟨s, ?_, hok⟩
  show Value.agg cs = supV s
  unfold supV at hs ⊢
  simp only [Value.cells] at hs
  have : cs = #[.int .u64 s.epoch, .int .u32 s.start, .int .u32 s.pages, .int .u32 s.size] := Array.ext' hs
  rw [this]
theorem dec_by (fuel : Nat) (cs : List Value) (y : DataW H × List MemPlace) (hl : cs.length = 1) (h : DataW.trod he Try.prog W base spare held fuel 5 cs = some y) : ∃ x : Int, cs = by1 x ∧ (0 ≤ x ∧ x ≤ 255) := by
  match cs, hl with
  | [c], _ =>
    obtain ⟨n, rfl, h0, h1⟩ := dec_u8 h
    exact ⟨n, rfl, h0, h1⟩
set_option maxRecDepth 100000 in
theorem open_bytes {r : Reach} {b0 : Nat} {v : Value} {d : DataW H} {ps : List MemPlace} (hv : Value.okWide Try.prog W r b0 38 v) (h : DataW.Trod he Try.prog W base spare held 38 v d ps) : ∃ b, Bytes W v b := by
  obtain ⟨l, A, c, h1, h2, h3, h4, h5, h6⟩ := open_rows (enc := by1) (sz := 1) (good := fun x => 0 ≤ x ∧ x ≤ 255) (by omega) Try.underlying38 (by kernel_rfl) dec_by hv h
  exact ⟨l, A, c, h1, h2, h5, h4⟩
set_option maxRecDepth 100000 in
theorem open_int {r : Reach} {b0 : Nat} {v : Value} {d : DataW H} {ps : List MemPlace} (hv : Value.okWide Try.prog W r b0 3 v) (h : DataW.Trod he Try.prog W base spare held 3 v d ps) : ∃ n, IntV v n := by
  obtain ⟨n, rfl⟩ := okWide_int Try.underlying3 hv
  obtain ⟨fuel, hf⟩ := h
  obtain ⟨m, e, h0, h1⟩ := dec_int (c := .int .i64 n) (by simpa [Value.cells] using hf)
  cases e
  exact ⟨n, rfl, h0, h1⟩
end
end Go.Proofs.Ytglpckdmiohciaa
