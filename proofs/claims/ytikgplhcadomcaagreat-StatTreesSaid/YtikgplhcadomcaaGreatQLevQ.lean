/- Levels and maps: plain -/
import Derived.Test.YtikgplhcadomcaaGreatQLevP
import Derived.Test.YtikgplhcadomcaaGreatQLawTree
namespace Go.Proofs.YtikgplhcadomcaaGreat
open Go.RowKit
set_option linter.unusedVariables false
set_option linter.unusedSimpArgs false
theorem levels_one (a v : Str) : levels [⟨a, v⟩] = [[a]] := by
  unfold levels
  rw [upK_eq]
  rfl
theorem levT_lens (l : List Entry) (hl : l.length ≤ 60) : ∀ x ∈ levels l, x.length ≤ 60 := by
  have key : ∀ (f : Nat) (lv : Int) (row : List Str), row.length ≤ 60 → ∀ x ∈ levT f lv row, x.length ≤ 60 := by
    intro f
    induction f with
    | zero => intro lv row h x hx; cases hx
    | succ f ih =>
      intro lv row h x hx
      rw [levT] at hx
      split at hx
      · cases hx
      · split at hx
        · simp at hx; subst hx; exact h
        · rcases List.mem_cons.1 hx with rfl | hx
          · exact h
          · exact ih _ _ (Nat.le_trans (upK_sub _ _).length_le h) x hx
  exact key 21 1 _ (Nat.le_trans (upK_sub _ _).length_le (by simpa using hl))
theorem levT_len : ∀ (f : Nat) (lv : Int) (row : List Str), (levT f lv row).length ≤ f
  | 0, _, _ => by simp [levT]
  | f + 1, lv, row => by
    rw [levT]
    split
    · simp
    · split
      · simp
      · have := levT_len f (lv + 1) (upK lv row); simp; exact this
theorem isMap_split {l : List Entry} (h : isMap l = true) : right l = 0 ∧ l.length ≤ 60 ∧ ∀ x ∈ l, x.key.size ≤ 60 ∧ x.val.size ≤ 250 := by
  unfold isMap light at h
  simp only [Bool.and_eq_true, decide_eq_true_eq, List.all_eq_true] at h
  obtain ⟨⟨h1, h2⟩, h3⟩ := h
  refine ⟨h3, h2, fun x hx => ?_⟩
  have := h1 x hx
  unfold lightE at this
  simpa using this
end Go.Proofs.YtikgplhcadomcaaGreat
