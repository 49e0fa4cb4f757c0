/- What a law's rows of texts ([][]string) read as. -/
import Derived.Test.YtikgplhcadomcaaGreatKG
import Derived.Test.YtikgplhcadomcaaGreatKP
namespace Go.Proofs.YtikgplhcadomcaaGreat
open Go.RowKit Go.ChangeShapes Go.WideShapes Go.Deep
set_option linter.unusedVariables false
set_option linter.unusedSimpArgs false
structure Tr where
  A : Option Addr
  l : List Str
  c : Nat
def Tr.enc (x : Tr) : List Value := [.slice x.A x.l.length x.c]
def Tr.good (W : World) (x : Tr) : Prop := x.l.length ≤ x.c ∧ x.c ≤ 9223372036854775807 ∧ Rd strEnc 1 W x.A x.l
section
variable {H : Type} {he : TypeId × Value → H} {W : World} {base : Nat} {spare : Nat → Bool} {held : Bool}
theorem dec_cap {P : Program} {t e : TypeId} (ht : P.underlying t = some (.slice e)) {fuel : Nat} {A : Option Addr} {n c : Nat} {y : DataW H × List MemPlace} (hf : DataW.trod he P W base spare held fuel t [.slice A n c] = some y) : c ≤ 9223372036854775807 := by
  rcases open_slice ht hf with ⟨hcs, _⟩ | ⟨a, len, cap, m, n', D, Pl, hcs, hb, hl, hm, hmm, hx, hel⟩
  · simp at hcs
    obtain ⟨_, _, rfl⟩ := hcs
    omega
  · simp at hcs
    obtain ⟨_, _, rfl⟩ := hcs
    simpa [maxLen] using hm
theorem dec_st (fuel : Nat) (cs : List Value) (y : DataW H × List MemPlace) (hl : cs.length = 1) (h : DataW.trod he Tryz.prog W base spare held fuel 9 cs = some y) : ∃ x : Str, cs = strEnc x ∧ True := by
  match cs, hl with
  | [c], _ =>
    obtain ⟨s, rfl, _⟩ := dec_string h
    exact ⟨s, rfl, trivial⟩
set_option maxRecDepth 100000 in
theorem dec_tr (fuel : Nat) (cs : List Value) (y : DataW H × List MemPlace) (hl : cs.length = 1) (h : DataW.trod he Tryz.prog W base spare held fuel 49 cs = some y) : ∃ x : Tr, cs = x.enc ∧ x.good W := by
  match cs, hl with
  | [c], _ =>
    obtain ⟨l, A, cb, rfl, e1, e2, e3⟩ := dec_rows (enc := strEnc) (sz := 1) (good := fun _ => True) (by omega) Tryz.underlying49 (by kernel_rfl) dec_st h
    exact ⟨⟨A, l, cb⟩, rfl, e1, dec_cap Tryz.underlying49 h, e2⟩
/-- Rows of texts that came in. -/
def RwT (W : World) (v : Value) (rows : List (List Str)) : Prop := ∃ A c, v = .slice A rows.length c ∧ rows.length ≤ c ∧ c ≤ 9223372036854775807 ∧ RwR strEnc 1 W A rows ∧ ∀ x ∈ rows, x.length ≤ 9223372036854775807
set_option maxRecDepth 100000 in
theorem open_rowsT {r : Reach} {b0 : Nat} {v : Value} {d : DataW H} {ps : List MemPlace} (hv : Value.okWide Tryz.prog W r b0 23 v) (h : DataW.Trod he Tryz.prog W base spare held 23 v d ps) : ∃ l, RwT W v l := by
  obtain ⟨l, A, c, h1, h2, h3, h4, h5, h6⟩ := open_rows (enc := Tr.enc) (sz := 1) (good := Tr.good W) (by omega) Tryz.underlying23 (by kernel_rfl) dec_tr hv h
  refine ⟨l.map Tr.l, A, c, by rw [List.length_map]; exact h1, by rw [List.length_map]; exact h2, h3, ⟨l.map fun x => ⟨x.A, x.l.length, x.c⟩, by simp, ?_, fun i r ll hr hl => ?_⟩, fun x hx => ?_⟩
  · rcases h4 with h4 | ⟨b, off, e, hlt, hc⟩
    · exact .inl (by rw [h4]; rfl)
    · refine .inr ⟨b, off, e, hlt, fun i x hx j v hv => ?_⟩
      rw [List.getElem?_map] at hx
      cases hli : l[i]? with
      | none => rw [hli] at hx; cases hx
      | some y =>
        rw [hli] at hx
        simp only [Option.map_some, Option.some.injEq] at hx
        subst hx
        exact hc i y hli j v hv
  · rw [List.getElem?_map] at hr hl
    cases hli : l[i]? with
    | none => rw [hli] at hr; cases hr
    | some y =>
      rw [hli] at hr hl
      simp only [Option.map_some, Option.some.injEq] at hr hl
      subst hr hl
      obtain ⟨g1, g2, g3⟩ := h5 y (List.mem_of_getElem? hli)
      exact ⟨rfl, g1, g3⟩
  · obtain ⟨y, hy, rfl⟩ := List.mem_map.1 hx
    obtain ⟨g1, g2, g3⟩ := h5 y hy
    exact Nat.le_trans g1 g2
end
end Go.Proofs.YtikgplhcadomcaaGreat
