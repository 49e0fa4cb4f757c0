/- What the arguments of a law read as, in this claim's own words. -/
import Derived.Test.YtofdmkglhjpbcaaRows
import Derived.Test.YtofdmkglhjpbcaaOwn
import Derived.ProofKit
import Derived.OpenShut
import Derived.ShutString
import Derived.Deep.Slices
namespace Go.Proofs.Ytofdmkglhjpbcaa
open Go.RowKit Go.ChangeShapes Go.WideShapes Go.Deep
set_option linter.unusedVariables false
set_option linter.unusedSimpArgs false

theorem build_list {α : Type} : ∀ (n : Nat) (p : Nat → α → Prop), (∀ i, i < n → ∃ x, p i x) → ∃ xs : List α, xs.length = n ∧ ∀ i x, xs[i]? = some x → p i x
  | 0, _, _ => ⟨[], rfl, fun i x h => by simp at h⟩
  | n + 1, p, h => by
    obtain ⟨xs, hl, hx⟩ := build_list n p (fun i hi => h i (by omega))
    obtain ⟨y, hy⟩ := h n (by omega)
    refine ⟨xs ++ [y], by simp [hl], fun i x hi => ?_⟩
    by_cases e : i < n
    · rw [List.getElem?_append_left (by omega)] at hi
      exact hx i x hi
    · rw [List.getElem?_append_right (by omega)] at hi
      have : i = n := by
        have := (List.getElem?_eq_some_iff.1 hi).1
        simp at this
        omega
      subst this
      rw [hl, Nat.sub_self] at hi
      simp at hi
      exact hi ▸ hy

section
variable {H : Type} {he : TypeId × Value → H} {P : Program} {W : World} {base : Nat} {spare : Nat → Bool} {held : Bool}

/-- A slice of elements of 'sz' cells each that came in. -/
theorem open_rows {α : Type} {enc : α → List Value} {sz : Nat} {t e : TypeId} (hpos : 0 < sz) (ht : P.underlying t = some (.slice e)) (hC : P.cellsOf e = sz) {good : α → Prop}
    (hdec : ∀ (fuel : Nat) (cs : List Value) (y : DataW H × List MemPlace), cs.length = sz → DataW.trod he P W base spare held fuel e cs = some y → ∃ x : α, cs = enc x ∧ good x)
    {r : Reach} {b0 : Nat} {v : Value} {d : DataW H} {ps : List MemPlace} (hv : Value.okWide P W r b0 t v) (h : DataW.Trod he P W base spare held t v d ps) :
    ∃ (xs : List α) (A : Option Addr) (c : Nat), v = .slice A xs.length c ∧ xs.length ≤ c ∧ c ≤ 9223372036854775807 ∧ Rd enc sz W A xs ∧ (∀ x ∈ xs, good x) ∧ (xs ≠ [] → ∀ a, A = some a → a.block < W.heap.size) := by
  obtain ⟨A, len, cap, rfl⟩ := okWide_slice ht hv
  obtain ⟨fuel, hf⟩ := h
  rcases open_slice ht hf with ⟨hcs, _⟩ | ⟨a, len', cap', m, n, D, Pl, hcs, hb, hl, hm, hmm, hx, hel⟩
  · simp [Value.cells] at hcs
    obtain ⟨rfl, rfl, rfl⟩ := hcs
    exact ⟨[], none, 0, rfl, Nat.le_refl _, by omega, .inl rfl, (fun x hx => by cases hx), fun h => absurd rfl h⟩
  · simp [Value.cells] at hcs
    obtain ⟨rfl, rfl, rfl⟩ := hcs
    have hlm : len ≤ m := by rw [hmm]; split <;> omega
    by_cases h0 : len = 0
    · subst h0
      exact ⟨[], some a, cap, rfl, hl, by simpa [maxLen] using hm, .inl rfl, (fun x hx => by cases hx), fun h => absurd rfl h⟩
    · have hsp : a.spot = none := by
        obtain ⟨cs0, k1, k2⟩ := hel 0 (by omega)
        obtain ⟨_, l0, k3⟩ := World.cells?_some k1
        have k4 := k3 0 (by rw [hC]; exact hpos)
        have hv1 : cs0[0]? = some (cs0[0]'(by rw [l0, hC]; exact hpos)) := List.getElem?_eq_getElem _
        have k5 := World.cell?_spot (k4.trans hv1)
        simpa [Addr.add] using k5
      obtain ⟨ab, ao, asp⟩ := a
      simp only at hsp
      subst hsp
      have hadd : ∀ k, (⟨ab, ao, none⟩ : Addr).add k = ⟨ab, ao + k, none⟩ := fun k => by unfold Addr.add; split <;> simp_all
      have hadd2 : ∀ i k, ((⟨ab, ao, none⟩ : Addr).add i).add k = ⟨ab, ao + i + k, none⟩ := fun i k => by rw [hadd]; unfold Addr.add; split <;> simp_all
      have hch : ∀ i, i < len → ∃ x : α, good x ∧ (enc x).length = sz ∧ ∀ j v, (enc x)[j]? = some v → W.cell? ⟨ab, ao + i * sz + j, none⟩ = some v := by
        intro i hi
        obtain ⟨cs', h1, h2⟩ := hel i (by omega)
        obtain ⟨_, hlen, hcell⟩ := World.cells?_some h1
        rw [hC] at hlen hcell
        obtain ⟨x, hx, hg⟩ := hdec n cs' _ hlen h2
        refine ⟨x, hg, by rw [← hx]; exact hlen, fun j v hv => ?_⟩
        rw [← hx] at hv
        have hj : j < sz := by have := (List.getElem?_eq_some_iff.1 hv).1; omega
        have hc := (hcell j hj).trans hv
        rwa [hadd2] at hc
      obtain ⟨xs, hxl, hxs⟩ := build_list len (fun i x => good x ∧ (enc x).length = sz ∧ ∀ j v, (enc x)[j]? = some v → W.cell? ⟨ab, ao + i * sz + j, none⟩ = some v) hch
      have hblk : ab < W.heap.size := by
        obtain ⟨x, hx⟩ : ∃ x, xs[0]? = some x := ⟨xs[0]'(by omega), List.getElem?_eq_getElem _⟩
        obtain ⟨_, g2, g3⟩ := hxs 0 x hx
        have hv1 : (enc x)[0]? = some ((enc x)[0]'(by omega)) := List.getElem?_eq_getElem _
        exact World.block_lt_of_cell? W _ (g3 0 _ hv1)
      refine ⟨xs, some ⟨ab, ao, none⟩, cap, by rw [hxl], by omega, by simpa [maxLen] using hm, .inr ⟨ab, ao, rfl, hblk, fun i x hx j v hv => (hxs i x hx).2.2 j v hv⟩, fun x hx => ?_, fun _ a ha => by cases ha; exact hblk⟩
      obtain ⟨i, hi⟩ := List.getElem?_of_mem hx
      exact (hxs i x hi).1

/-- A field of a struct that is read. -/
theorem open_field {t : TypeId} {fs : Array Field} {fuel : Nat} {cs : List Value} {x : DataW H × List MemPlace} (ht : P.underlying t = some (.struct fs)) (h : DataW.trod he P W base spare held fuel t cs = some x) (i : Nat) (f : Field) (hf : fs[i]? = some f) :
    ∃ n y, DataW.trod he P W base spare held n f.type ((cs.drop f.offset).take (P.cellsOf f.type)) = some y := by
  obtain ⟨xs, n, rfl, _, _, hl, hx⟩ := DataW.trod_struct ht h
  have hi : i < xs.length := by rw [hl]; exact (Array.getElem?_eq_some_iff.1 hf).1
  exact ⟨n, xs[i], (hx i f hf).trans (List.getElem?_eq_getElem hi)⟩
theorem list2 {l : List Value} (h : l.length = 2) : ∃ a b, l = [a, b] := by match l, h with | [a, b], _ => exact ⟨a, b, rfl⟩
theorem list3 {l : List Value} (h : l.length = 3) : ∃ a b c, l = [a, b, c] := by match l, h with | [a, b, c], _ => exact ⟨a, b, c, rfl⟩
theorem list5 {l : List Value} (h : l.length = 5) : ∃ a b c d e, l = [a, b, c, d, e] := by match l, h with | [a, b, c, d, e], _ => exact ⟨a, b, c, d, e, rfl⟩

def Entry.good (x : Entry) : Prop := x.key.size ≤ 9223372036854775807 ∧ x.val.size ≤ 9223372036854775807
end

section
variable {H : Type} {he : TypeId × Value → H} {W : World} {base : Nat} {spare : Nat → Bool} {held : Bool}
theorem dec_string {fuel : Nat} {c : Value} {y : DataW H × List MemPlace} (h : DataW.trod he Try.prog W base spare held fuel 9 [c] = some y) : ∃ s : Str, c = .string s ∧ s.size ≤ 9223372036854775807 := by
  obtain ⟨s, e, _, hs⟩ := DataW.trod_string Try.underlying9 h
  simp only [List.cons.injEq, and_true] at e
  exact ⟨s, e, by simpa [maxLen] using hs⟩
theorem dec_bool {fuel : Nat} {c : Value} {y : DataW H × List MemPlace} (h : DataW.trod he Try.prog W base spare held fuel 4 [c] = some y) : ∃ b : Bool, c = .bool b := by
  obtain ⟨s, e, _⟩ := DataW.trod_bool Try.underlying4 h
  simp only [List.cons.injEq, and_true] at e
  exact ⟨s, e⟩
theorem dec_int {fuel : Nat} {c : Value} {y : DataW H × List MemPlace} (h : DataW.trod he Try.prog W base spare held fuel 3 [c] = some y) : ∃ n : Int, c = .int .i64 n ∧ -9223372036854775808 ≤ n ∧ n ≤ 9223372036854775807 := by
  obtain ⟨n, e, _, hw⟩ := DataW.trod_int Try.underlying3 h
  simp only [List.cons.injEq, and_true] at e
  exact ⟨n, e, bounds_i64 hw⟩

set_option maxRecDepth 100000 in
theorem dec_entry (fuel : Nat) (cs : List Value) (y : DataW H × List MemPlace) (hl : cs.length = 2) (h : DataW.trod he Try.prog W base spare held fuel 72 cs = some y) : ∃ x : Entry, cs = x.enc ∧ x.good := by
  obtain ⟨a, b, rfl⟩ := list2 hl
  obtain ⟨n0, y0, h0⟩ := open_field Try.underlying72 h 0 _ rfl
  obtain ⟨n1, y1, h1⟩ := open_field Try.underlying72 h 1 _ rfl
  obtain ⟨s0, rfl, g0⟩ := dec_string h0
  obtain ⟨s1, rfl, g1⟩ := dec_string h1
  exact ⟨⟨s0, s1⟩, rfl, g0, g1⟩
set_option maxRecDepth 100000 in
theorem open_map {r : Reach} {b0 : Nat} {v : Value} {d : DataW H} {ps : List MemPlace} (hv : Value.okWide Try.prog W r b0 22 v) (h : DataW.Trod he Try.prog W base spare held 22 v d ps) : ∃ l, Came W v l := by
  obtain ⟨l, A, c, h1, h2, h3, h4, h5, h6⟩ := open_rows (enc := Entry.enc) (sz := 2) (good := Entry.good) (by omega) Try.underlying22 (by kernel_rfl) dec_entry hv h
  exact ⟨l, A, c, h1, h2, h3, h4, h5, h6⟩
end
end Go.Proofs.Ytofdmkglhjpbcaa
