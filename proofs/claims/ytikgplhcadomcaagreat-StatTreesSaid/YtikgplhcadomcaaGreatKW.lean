/- What a key has in a tree's parts: plain. -/
import Derived.Test.YtikgplhcadomcaaGreatKV
import Derived.Test.YtikgplhcadomcaaGreatKN
namespace Go.Proofs.YtikgplhcadomcaaGreat
open Go.RowKit
set_option linter.unusedVariables false
set_option linter.unusedSimpArgs false
theorem flat_last {α : Type} : ∀ (ps : List (List α)) (p : List α) (x : α), ps.getLast? = some p → p.getLast? = some x → ps.flatten.getLast? = some x
  | [], p, x, h, _ => by simp at h
  | [q], p, x, h, hx => by
    simp only [List.getLast?_singleton, Option.some.injEq] at h
    subst h
    simpa using hx
  | q :: r :: ps, p, x, h, hx => by
    have ih := flat_last (r :: ps) p x (by simpa [List.getLast?_cons_cons] using h) hx
    rw [List.flatten_cons, List.getLast?_append, ih]
    rfl
/-- A kid has the last key below it. -/
theorem sub_last {C : List (List Int)} : ∀ (n : Nat) (k : Kid) (p : List Entry), SubT C n k p → ∃ x, p.getLast? = some x ∧ k.last = x.key
  | 0, k, p, h => by
    obtain ⟨h1, h2, h3⟩ := h
    have hne : p ≠ [] := by have := ok_ne h1; simpa using this
    refine ⟨p.getLast hne, List.getLast?_eq_some_getLast hne, ?_⟩
    rw [h3, leaf_last, List.getLast?_map, List.getLast?_eq_some_getLast hne]
    rfl
  | n + 1, k, p, h => by
    obtain ⟨ks, ps, h1, h2, h3, h4, rfl, h6⟩ := h
    have hne : ks ≠ [] := by have := ok_ne h1; simpa using this
    have hpe : ps ≠ [] := fun e => hne (List.eq_nil_of_length_eq_zero (by rw [h4, e]; rfl))
    have hl : ks.length - 1 < ks.length := by have := List.length_pos_iff.2 hne; omega
    have hk : ks.getLast? = some ks[ks.length - 1] := by rw [List.getLast?_eq_getElem?, List.getElem?_eq_getElem hl]
    have hp : ps.getLast? = some (ps[ps.length - 1]'(by omega)) := by rw [List.getLast?_eq_getElem?, List.getElem?_eq_getElem (by omega)]
    obtain ⟨x, x1, x2⟩ := sub_last n _ _ (h6 (ks.length - 1) _ _ (List.getElem?_eq_getElem hl) (by rw [h4]; exact List.getElem?_eq_getElem (by omega)))
    refine ⟨x, flat_last ps _ x hp x1, ?_⟩
    rw [h3, inner_last, List.getLast?_map, hk]
    exact x2
theorem sub_le {C : List (List Int)} {n : Nat} {k : Kid} {p : List Entry} (h : SubT C n k p) (hr : RiseS (p.map Entry.key)) : ∀ x ∈ p, x.key = k.last ∨ slt x.key k.last = true := fun x hx => by
  obtain ⟨y, y1, y2⟩ := sub_last n k p h
  obtain ⟨A, rfl⟩ : ∃ A, p = A ++ [y] := by
    have hne : p ≠ [] := fun e => by rw [e] at y1; cases y1
    refine ⟨p.dropLast, ?_⟩
    have h1 := List.dropLast_concat_getLast hne
    rw [List.getLast?_eq_some_getLast hne] at y1
    injection y1 with y1
    rw [y1] at h1
    exact h1.symm
  rcases List.mem_append.1 hx with hx | hx
  · right
    rw [y2]
    have := hr
    unfold RiseS at this
    rw [List.map_append, List.pairwise_append] at this
    exact this.2.2 x.key (List.mem_map.2 ⟨x, hx, rfl⟩) y.key (by simp)
  · left
    simp at hx
    rw [hx, y2]
end Go.Proofs.YtikgplhcadomcaaGreat
