/- What a law's deeds and fates read as. -/
import Derived.Test.YtglpckdmiohciaaOpenSup
import Derived.Test.YtglpckdmiohciaaDevRead
namespace Go.Proofs.Ytglpckdmiohciaa
open Go.RowKit Go.ChangeShapes Go.WideShapes Go.Deep
set_option linter.unusedVariables false
set_option linter.unusedSimpArgs false

structure Deed where
  kind : Int
  pos : Int
  A : Option Addr
  b : List Int
  cb : Nat
  n : Int
  K : Option Addr
  keep : List Bool
  ck : Nat
  torn : Int
  bytes : Int
def Deed.enc (x : Deed) : List Value := [.int .i64 x.kind, .int .i64 x.pos, .slice x.A x.b.length x.cb, .int .i64 x.n, .slice x.K x.keep.length x.ck, .int .i64 x.torn, .int .i64 x.bytes]
theorem Deed.ok : Enc Deed.enc 7 := ⟨fun _ => rfl, fun x u hu => by
  simp only [Deed.enc, List.mem_cons, List.not_mem_nil, or_false] at hu
  rcases hu with rfl | rfl | rfl | rfl | rfl | rfl | rfl <;> rfl, by omega⟩
def Deed.good (W : World) (x : Deed) : Prop :=
  (x.b.length ≤ x.cb ∧ byteL x.b ∧ Rd by1 1 W x.A x.b) ∧ Rd boolEnc 1 W x.K x.keep ∧ x.n ≤ 9223372036854775807

section
variable {H : Type} {he : TypeId × Value → H} {P : Program} {W : World} {base : Nat} {spare : Nat → Bool} {held : Bool}
/-- A slice that lies in a cell. -/
theorem dec_rows {α : Type} {enc : α → List Value} {sz : Nat} {t e : TypeId} (hpos : 0 < sz) (ht : P.underlying t = some (.slice e)) (hC : P.cellsOf e = sz) {good : α → Prop}
    (hdec : ∀ (fuel : Nat) (cs : List Value) (y : DataW H × List MemPlace), cs.length = sz → DataW.trod he P W base spare held fuel e cs = some y → ∃ x : α, cs = enc x ∧ good x)
    {fuel : Nat} {v : Value} {y : DataW H × List MemPlace} (hf : DataW.trod he P W base spare held fuel t [v] = some y) :
    ∃ (xs : List α) (A : Option Addr) (c : Nat), v = .slice A xs.length c ∧ xs.length ≤ c ∧ Rd enc sz W A xs ∧ (∀ x ∈ xs, good x) := by
  rcases open_slice ht hf with ⟨hcs, _⟩ | ⟨a, len, cap, m, n, D, Pl, hcs, hb, hl, hm, hmm, hx, hel⟩
  · simp at hcs
    subst hcs
    exact ⟨[], none, 0, rfl, Nat.le_refl _, .inl rfl, (fun x hx => by cases hx)⟩
  · simp at hcs
    subst hcs
    have hlm : len ≤ m := by rw [hmm]; split <;> omega
    by_cases h0 : len = 0
    · subst h0
      exact ⟨[], some a, cap, rfl, hl, .inl rfl, (fun x hx => by cases hx)⟩
    · have hsp : a.spot = none := by
        obtain ⟨cs0, k1, k2⟩ := hel 0 (by omega)
        obtain ⟨_, l0, k3⟩ := World.cells?_some k1
        have k4 := k3 0 (by rw [hC]; exact hpos)
        have hv1 : cs0[0]? = some (cs0[0]'(by rw [l0, hC]; exact hpos)) := List.getElem?_eq_getElem _
        have k5 := World.cell?_spot (k4.trans hv1)
        simpa [Addr.add] using k5
      obtain ⟨ab, ao, asp⟩ := a
      simp only at hsp
      subst hsp
      have hadd2 : ∀ i k, ((⟨ab, ao, none⟩ : Addr).add i).add k = ⟨ab, ao + i + k, none⟩ := fun i k => by rw [Addr.add_mid, Addr.add_mid]
      have hch : ∀ i, i < len → ∃ x : α, good x ∧ (enc x).length = sz ∧ ∀ j v, (enc x)[j]? = some v → W.cell? ⟨ab, ao + i * sz + j, none⟩ = some v := by
        intro i hi
        obtain ⟨cs', h1, h2⟩ := hel i (by omega)
        obtain ⟨_, hlen, hcell⟩ := World.cells?_some h1
        rw [hC] at hlen hcell
        obtain ⟨x, hx, hg⟩ := hdec n cs' _ hlen h2
        refine ⟨x, hg, by rw [← hx]; exact hlen, fun j v hv => ?_⟩
        rw [← hx] at hv
        have hj : j < sz := by have := (List.getElem?_eq_some_iff.1 hv).1; omega
        have hc := (hcell j hj).trans hv
        rwa [hadd2] at hc
      obtain ⟨xs, hxl, hxs⟩ := build_list len (fun i x => good x ∧ (enc x).length = sz ∧ ∀ j v, (enc x)[j]? = some v → W.cell? ⟨ab, ao + i * sz + j, none⟩ = some v) hch
      have hblk : ab < W.heap.size := by
        obtain ⟨x, hx⟩ : ∃ x, xs[0]? = some x := ⟨xs[0]'(by omega), List.getElem?_eq_getElem _⟩
        obtain ⟨_, g2, g3⟩ := hxs 0 x hx
        have hv1 : (enc x)[0]? = some ((enc x)[0]'(by omega)) := List.getElem?_eq_getElem _
        exact World.block_lt_of_cell? W _ (g3 0 _ hv1)
      refine ⟨xs, some ⟨ab, ao, none⟩, cap, by rw [hxl], by omega, .inr ⟨ab, ao, rfl, hblk, fun i x hx j v hv => (hxs i x hx).2.2 j v hv⟩, fun x hx => ?_⟩
      obtain ⟨i, hi⟩ := List.getElem?_of_mem hx
      exact (hxs i x hi).1
end
theorem list7 {l : List Value} (h : l.length = 7) : ∃ a b c d e f g, l = [a, b, c, d, e, f, g] := by match l, h with | [a, b, c, d, e, f, g], _ => exact ⟨a, b, c, d, e, f, g, rfl⟩
section
variable {H : Type} {he : TypeId × Value → H} {W : World} {base : Nat} {spare : Nat → Bool} {held : Bool}
theorem dec_bl (fuel : Nat) (cs : List Value) (y : DataW H × List MemPlace) (hl : cs.length = 1) (h : DataW.trod he Try.prog W base spare held fuel 4 cs = some y) : ∃ x : Bool, cs = boolEnc x ∧ True := by
  match cs, hl with
  | [c], _ =>
    obtain ⟨n, rfl⟩ := dec_bool h
    exact ⟨n, rfl, trivial⟩
set_option maxRecDepth 100000 in
theorem dec_bytes {fuel : Nat} {v : Value} {y : DataW H × List MemPlace} (h : DataW.trod he Try.prog W base spare held fuel 38 [v] = some y) : ∃ b A c, v = .slice A b.length c ∧ b.length ≤ c ∧ byteL b ∧ Rd by1 1 W A b := by
  obtain ⟨l, A, c, h1, h2, h3, h4⟩ := dec_rows (enc := by1) (sz := 1) (good := fun x => 0 ≤ x ∧ x ≤ 255) (by omega) Try.underlying38 (by kernel_rfl) dec_by h
  exact ⟨l, A, c, h1, h2, h4, h3⟩
set_option maxRecDepth 100000 in
theorem dec_bools {fuel : Nat} {v : Value} {y : DataW H × List MemPlace} (h : DataW.trod he Try.prog W base spare held fuel 45 [v] = some y) : ∃ b A c, v = .slice A b.length c ∧ b.length ≤ c ∧ Rd boolEnc 1 W A b := by
  obtain ⟨l, A, c, h1, h2, h3, _⟩ := dec_rows (enc := boolEnc) (sz := 1) (good := fun _ => True) (by omega) Try.underlying45 (by kernel_rfl) dec_bl h
  exact ⟨l, A, c, h1, h2, h3⟩
set_option maxRecDepth 100000 in
/-- A fate's three cells. -/
theorem dec_fate {fuel : Nat} {a b c : Value} {y : DataW H × List MemPlace} (h : DataW.trod he Try.prog W base spare held fuel 47 [a, b, c] = some y) :
    ∃ (keep : List Bool) (K : Option Addr) (ck : Nat) (torn bytes : Int), a = .slice K keep.length ck ∧ b = .int .i64 torn ∧ c = .int .i64 bytes ∧ keep.length ≤ ck ∧ Rd boolEnc 1 W K keep := by
  obtain ⟨n0, y0, h0⟩ := open_field Try.underlying47 h 0 _ rfl
  obtain ⟨n1, y1, h1⟩ := open_field Try.underlying47 h 1 _ rfl
  obtain ⟨n2, y2, h2⟩ := open_field Try.underlying47 h 2 _ rfl
  obtain ⟨l, A, ck, rfl, e1, e2⟩ := dec_bools h0
  obtain ⟨s1, rfl, _⟩ := dec_int h1
  obtain ⟨s2, rfl, _⟩ := dec_int h2
  exact ⟨l, A, ck, s1, s2, rfl, rfl, rfl, e1, e2⟩
set_option maxRecDepth 100000 in
theorem dec_deed (fuel : Nat) (cs : List Value) (y : DataW H × List MemPlace) (hl : cs.length = 7) (h : DataW.trod he Try.prog W base spare held fuel 53 cs = some y) : ∃ x : Deed, cs = x.enc ∧ x.good W := by
  obtain ⟨a, b, c, d, e, f, g, rfl⟩ := list7 hl
  obtain ⟨n0, y0, h0⟩ := open_field Try.underlying53 h 0 _ rfl
  obtain ⟨n1, y1, h1⟩ := open_field Try.underlying53 h 1 _ rfl
  obtain ⟨n2, y2, h2⟩ := open_field Try.underlying53 h 2 _ rfl
  obtain ⟨n3, y3, h3⟩ := open_field Try.underlying53 h 3 _ rfl
  obtain ⟨n4, y4, h4⟩ := open_field Try.underlying53 h 4 _ rfl
  obtain ⟨s0, rfl, _⟩ := dec_int h0
  obtain ⟨s1, rfl, _⟩ := dec_int h1
  obtain ⟨bl, A, cb, rfl, e1, e2, e3⟩ := dec_bytes h2
  obtain ⟨s3, rfl, _, e4⟩ := dec_int h3
  obtain ⟨kp, K, ck, tn, bs, rfl, rfl, rfl, e5, e6⟩ := dec_fate (show DataW.trod he Try.prog W base spare held n4 47 [e, f, g] = some y4 from h4)
  exact ⟨⟨s0, s1, A, bl, cb, s3, K, kp, ck, tn, bs⟩, rfl, ⟨e1, e2, e3⟩, e6, e4⟩
/-- What a law is told of deeds. -/
def Deeds (W : World) (v : Value) (l : List Deed) : Prop := ∃ A c, v = .slice A l.length c ∧ l.length ≤ c ∧ c ≤ 9223372036854775807 ∧ Rd Deed.enc 7 W A l ∧ (∀ x ∈ l, x.good W)
def FateV (W : World) (v : Value) (f : Fate) : Prop := ∃ A c, v = .agg #[.slice A f.keep.length c, .int .i64 f.torn, .int .i64 f.bytes] ∧ f.keep.length ≤ c ∧ Rd boolEnc 1 W A f.keep
set_option maxRecDepth 100000 in
theorem open_deeds {r : Reach} {b0 : Nat} {v : Value} {d : DataW H} {ps : List MemPlace} (hv : Value.okWide Try.prog W r b0 44 v) (h : DataW.Trod he Try.prog W base spare held 44 v d ps) : ∃ l, Deeds W v l := by
  obtain ⟨l, A, c, h1, h2, h3, h4, h5, h6⟩ := open_rows (enc := Deed.enc) (sz := 7) (good := Deed.good W) (by omega) Try.underlying44 (by kernel_rfl) dec_deed hv h
  exact ⟨l, A, c, h1, h2, h3, h4, h5⟩
set_option maxRecDepth 100000 in
theorem open_fate {r : Reach} {b0 : Nat} {v : Value} {d : DataW H} {ps : List MemPlace} (hv : Value.okWide Try.prog W r b0 47 v) (h : DataW.Trod he Try.prog W base spare held 47 v d ps) : ∃ f, FateV W v f := by
  obtain ⟨cs, rfl, hcs⟩ := okWide_struct Try.underlying47 hv
  obtain ⟨fuel, hf⟩ := h
  have e3 : Try.prog.cellsOf 47 = 3 := by kernel_rfl
  obtain ⟨a, b, c, hl⟩ := list3 (l := cs.toList) (by rw [Array.length_toList, hcs, e3])
  have hf' : DataW.trod he Try.prog W base spare held fuel 47 [a, b, c] = some (d, ps) := by rw [← hl]; simpa [Value.cells] using hf
  obtain ⟨keep, K, ck, tn, bs, rfl, rfl, rfl, e1, e2⟩ := dec_fate hf'
  have : cs = #[.slice K keep.length ck, .int .i64 tn, .int .i64 bs] := Array.ext' hl
  subst this
  exact ⟨⟨keep, tn, bs⟩, K, ck, rfl, e1, e2⟩
end
end Go.Proofs.Ytglpckdmiohciaa
