/- What edits make of a map: ref09.Apply and the map of keys; no program. -/
import Derived.Test.YtofdmkglhjpbcaaApply
import Derived.Test.YtofdmkglhjpbcaaRefApply
namespace Go.Proofs.Ytofdmkglhjpbcaa
open Go.RowKit
set_option linter.unusedVariables false
set_option linter.unusedSimpArgs false

/-- Rising rows of entries. -/
def Ris (l : List Entry) : Prop := l.Pairwise (fun x y => slt x.key y.key = true)
theorem ris_iff {l : List Entry} : Ris l ↔ Srt (keyList l) := by unfold Ris Srt keyList; rw [List.pairwise_map]
theorem ris_ext : ∀ {l m : List Entry}, Ris l → Ris m → (∀ a, a ∈ l ↔ a ∈ m) → l = m
  | [], [], _, _, _ => rfl
  | [], b :: m, _, _, h => by have := (h b).2 (by simp); cases this
  | a :: l, [], _, _, h => by have := (h a).1 (by simp); cases this
  | a :: l, b :: m, hl, hm, h => by
    obtain ⟨hl1, hl2⟩ := List.pairwise_cons.1 hl
    obtain ⟨hm1, hm2⟩ := List.pairwise_cons.1 hm
    have hab : a = b := by
      rcases List.mem_cons.1 ((h a).1 (by simp)) with e | e
      · exact e
      · rcases List.mem_cons.1 ((h b).2 (by simp)) with e' | e'
        · exact e'.symm
        · have := slt_trans (hm1 a e) (hl1 b e')
          rw [slt_irrefl] at this
          cases this
    subst hab
    congr 1
    refine ris_ext hl2 hm2 fun c => ⟨fun hc => ?_, fun hc => ?_⟩
    · rcases List.mem_cons.1 ((h c).1 (by simp [hc])) with e | e
      · subst e; have := hl1 c hc; rw [slt_irrefl] at this; cases this
      · exact e
    · rcases List.mem_cons.1 ((h c).2 (by simp [hc])) with e | e
      · subst e; have := hm1 c hc; rw [slt_irrefl] at this; cases this
      · exact e

theorem mem_setGo (key val : Str) (a : Entry) : ∀ (l : List Entry) (d : Bool), a ∈ setGo key val l d ↔ (a.key ≠ key ∧ a ∈ l) ∨ (d = false ∧ a = ⟨key, val⟩)
  | [], d => by unfold setGo; cases d <;> simp
  | x :: l, d => by
    have ih := mem_setGo key val a l (d || slt key x.key)
    unfold setGo
    simp only [List.mem_append, ih, List.mem_cons]
    have e1 : a ∈ (if x.key = key then ([] : List Entry) else [x]) ↔ (a.key ≠ key ∧ a = x) := by
      by_cases hx : x.key = key
      · rw [if_pos hx]
        simp only [List.not_mem_nil, false_iff, not_and]
        intro h e; subst e; exact h hx
      · rw [if_neg hx, List.mem_singleton]
        exact ⟨fun e => ⟨by subst e; exact hx, e⟩, fun h => h.2⟩
    rw [e1]
    cases d <;> cases slt key x.key <;> simp <;> constructor <;> intro h <;> grind
theorem ris_setGo (key val : Str) : ∀ (l : List Entry) (d : Bool), Ris l → Ris (setGo key val l d)
  | [], d, _ => by unfold setGo; cases d <;> simp [Ris]
  | x :: l, d, h => by
    obtain ⟨h1, h2⟩ := List.pairwise_cons.1 h
    have ih := ris_setGo key val l (d || slt key x.key) h2
    have hm := fun a => mem_setGo key val a l (d || slt key x.key)
    unfold setGo
    unfold Ris at *
    by_cases hx : x.key = key
    · have hs : slt key x.key = false := by rw [hx]; exact slt_irrefl _
      rw [if_neg (by simp [hs]), if_pos hx]
      exact ih
    · rw [if_neg hx]
      by_cases hq : d = false ∧ slt key x.key = true
      · rw [if_pos hq]
        obtain ⟨rfl, hq⟩ := hq
        rw [hq] at ih hm ⊢
        refine List.pairwise_cons.2 ⟨?_, List.pairwise_cons.2 ⟨?_, ih⟩⟩
        · intro y hy
          rcases List.mem_cons.1 hy with rfl | hy
          · exact hq
          · rcases (hm y).1 hy with h' | h'
            · exact slt_trans hq (h1 y h'.2)
            · simp at h'
        · intro y hy
          rcases (hm y).1 hy with h' | h'
          · exact h1 y h'.2
          · simp at h'
      · rw [if_neg hq]
        refine List.pairwise_cons.2 ⟨?_, ih⟩
        intro y hy
        rcases (hm y).1 hy with h' | h'
        · exact h1 y h'.2
        · obtain ⟨h3, rfl⟩ := h'
          simp only [Bool.or_eq_false_iff] at h3
          rcases slt_total key x.key with e | e | e
          · rw [h3.2] at e; cases e
          · exact absurd e.symm hx
          · exact e
/-- What a rising row says of each key. -/
def Says (m : List Entry) (f : Fm) : Prop := Ris m ∧ ∀ x : Entry, x ∈ m ↔ f x.key = some x.val
theorem Says.set {m : List Entry} {f : Fm} (h : Says m f) (x : EditE) : Says (setRef m x.key ⟨!x.gone, x.val⟩) (done1 f x) := by
  refine ⟨ris_setGo _ _ _ _ h.1, fun a => ?_⟩
  unfold setRef
  rw [mem_setGo, h.2]
  unfold done1 Fm.put Fm.del
  obtain ⟨key, val, gone⟩ := x
  obtain ⟨k, v⟩ := a
  cases gone <;> by_cases hk : k = key <;> simp [hk] <;> exact eq_comm
theorem says_edits : ∀ (l : List EditE) {m : List Entry} {f : Fm}, Says m f → Says (refApply m l) (l.foldl done1 f)
  | [], m, f, h => h
  | x :: l, m, f, h => says_edits l (h.set x)
end Go.Proofs.Ytofdmkglhjpbcaa
