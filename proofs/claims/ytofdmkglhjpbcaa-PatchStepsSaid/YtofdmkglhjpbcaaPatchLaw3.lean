/- What patch.Apply and patch.Join answer, for the laws; no program. -/
import Derived.Test.YtofdmkglhjpbcaaPatchLaw2
import Derived.Test.YtofdmkglhjpbcaaPatchApply
namespace Go.Proofs.Ytofdmkglhjpbcaa
open Go.RowKit
set_option linter.unusedVariables false
set_option linter.unusedSimpArgs false

theorem fits_iff {a : List Entry} {l : List Change} : l.all (fits a) = true ↔ Fits a l := by
  unfold Fits fits
  rw [List.all_eq_true]
  exact ⟨fun h c hc => by simpa using h c hc, fun h c hc => by simpa using h c hc⟩
theorem apply_err {a : List Entry} {l : List Change} (h : (patchApply a l).2 ≠ 0) : (patchApply a l).1 = [] := by
  unfold patchApply at *
  by_cases h1 : patchErr l = 0
  · rw [if_neg (by simp [h1])] at *
    split at h
    · exact absurd rfl h
    · rename_i h2
      rw [if_neg h2]
  · rw [if_pos h1]
theorem apply_zero {a : List Entry} {l : List Change} (h : (patchApply a l).2 = 0) : patchErr l = 0 ∧ Fits a l ∧ (patchApply a l).1 = refApply a (l.map editOf) := by
  unfold patchApply at *
  by_cases h1 : patchErr l = 0
  · rw [if_neg (by simp [h1])] at *
    by_cases h2 : l.all (fits a) = true
    · rw [if_pos h2]
      exact ⟨h1, fits_iff.1 h2, rfl⟩
    · rw [if_neg h2] at h
      cases h
  · rw [if_pos h1] at h
    exact absurd h h1
theorem apply_ok {a : List Entry} {l : List Change} (h : patchErr l = 0) (hf : Fits a l) : patchApply a l = (refApply a (l.map editOf), 0) := patchApply_ok h (fits_iff.2 hf)
theorem apply_back {a : List Entry} {l : List Change} (ha : Ris a) (h : patchErr l = 0) (hf : Fits a l) : patchApply (refApply a (l.map editOf)) (l.map turned) = (a, 0) := by
  rw [apply_ok (err_turned h) (fits_turned ha h), back_again ha h hf]
theorem apply_diff {a b : List Entry} (ha : isMap a = true) (hb : isMap b = true) : patchApply a (diffRef a b) = (b, 0) := by
  rw [apply_ok (err_diff ha hb) (fits_diff a b), diff_makes (ris_iff.2 (rises_srt (isMap_rises ha))) (ris_iff.2 (rises_srt (isMap_rises hb)))]
theorem refApply_mem : ∀ (l : List EditE) (a : List Entry) (x : Entry), x ∈ refApply a l → x ∈ a ∨ ∃ e ∈ l, x.key = e.key ∧ x.val = e.val
  | [], a, x, h => .inl h
  | e :: l, a, x, h => by
    have h' : x ∈ refApply (setRef a e.key ⟨!e.gone, e.val⟩) l := h
    rcases refApply_mem l _ x h' with h1 | ⟨y, hy, h2⟩
    · unfold setRef at h1
      rw [mem_setGo] at h1
      rcases h1 with ⟨_, h1⟩ | ⟨_, h1⟩
      · exact .inl h1
      · subst h1
        exact .inr ⟨e, by simp, rfl, rfl⟩
    · exact .inr ⟨y, by simp [hy], h2⟩
theorem small_applied {a : List Entry} {l : List EditE} (ha : Small' a) (hl : ∀ x ∈ l, x.key.size ≤ 9223372036854775807 ∧ x.val.size ≤ 9223372036854775807) : Small' (refApply a l) := by
  intro x hx
  rcases refApply_mem l a x hx with h | ⟨e, he, h1, h2⟩
  · exact ha x h
  · rw [h1, h2]; exact hl e he
theorem setRef_len' (a : List Entry) (key : Str) (s : Side) : (setRef a key s).length ≤ a.length + 1 := by
  have := setGo_len key s.val a (!s.has)
  unfold setRef
  split at this <;> omega
theorem applied_len : ∀ (l : List EditE) (a : List Entry), (refApply a l).length ≤ a.length + l.length
  | [], a => Nat.le_refl _
  | e :: l, a => by
    have h1 := applied_len l (setRef a e.key ⟨!e.gone, e.val⟩)
    have h2 := setRef_len' a e.key ⟨!e.gone, e.val⟩
    have e0 : refApply a (e :: l) = refApply (setRef a e.key ⟨!e.gone, e.val⟩) l := rfl
    rw [e0]
    simp only [List.length_cons]
    omega
theorem small_turned {l : List Change} (h : SmallC l) : SmallC (l.map turned) := by
  intro x hx
  obtain ⟨c, hc, rfl⟩ := List.mem_map.1 hx
  exact ⟨(h c hc).1, (h c hc).2.2, (h c hc).2.1⟩
theorem Rd.blk {α : Type} {enc : α → List Value} {sz : Nat} {w : World} {A : Option Addr} {l : List α} (h : Rd enc sz w A l) : l ≠ [] → ∀ a, A = some a → a.block < w.heap.size := by
  intro hl a ha
  rcases h with h | ⟨b, off, rfl, hlt, _⟩
  · exact absurd h hl
  · cases ha; exact hlt
end Go.Proofs.Ytofdmkglhjpbcaa
