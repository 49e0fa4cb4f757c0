/- node: Put -/
import Derived.Test.YtikgplhcadomcaaGreatQNode6
import Derived.Test.YtikgplhcadomcaaGreatKO
namespace Go.Proofs.YtikgplhcadomcaaGreat
open Go.RowKit
set_option linter.unusedVariables false
set_option linter.unusedSimpArgs false
def entI (x : Entry) : List Int := textI x.key ++ textI x.val
def kidI (k : Kid) : List Int := textI k.last ++ lebI k.id.toNat
def nodeI (lv : Int) (E : List Entry) (K : List Kid) : List Int := lebI lv.toNat ++ lebI (E.length + K.length) ++ E.flatMap entI ++ K.flatMap kidI
def NodeP.put (n : NodeP) : List Int × Int := if n.right ≠ 0 then ([], n.right) else if 131072 < (nodeI n.level n.ents n.kids).length then ([], 2) else (nodeI n.level n.ents n.kids, 0)
theorem textI_len2 {s : Str} (h : s.size ≤ 200) : (textI s).length ≤ 210 := by
  unfold textI
  rw [List.length_append, strBs_len]
  have := lebI_len10 s.size (by omega)
  omega
theorem textErr_small : ∀ l : List Entry, textErr l = 0 → ∀ x ∈ l, x.key.size ≤ 40 ∧ x.val.size ≤ 200
  | [], _, x, h => by cases h
  | y :: l, h, x, hx => by
    unfold textErr at h
    have h1 : keyErr y.key = 0 := by
      rcases keyErr_or y.key with e | e
      · exact e
      · rw [e] at h; simp at h
    rw [h1] at h
    have h2 : valErr y.val = 0 := by
      rcases valErr_or y.val with e | e
      · exact e
      · rw [e] at h; simp at h
    rw [h2] at h
    rcases List.mem_cons.1 hx with rfl | hx
    · refine ⟨?_, ?_⟩
      · unfold keyErr at h1; split at h1
        · cases h1
        · omega
      · unfold valErr at h2; split at h2
        · cases h2
        · omega
    · exact textErr_small l (by simpa using h) x hx
theorem kidsE_small : ∀ l : List Kid, kidsE l = 0 → ∀ x ∈ l, x.last.size ≤ 40
  | [], _, x, h => by cases h
  | y :: l, h, x, hx => by
    unfold kidsE at h
    have h1 : keyErr y.last = 0 := by
      rcases keyErr_or y.last with e | e
      · exact e
      · rw [e] at h; simp at h
    rw [h1] at h
    rcases List.mem_cons.1 hx with rfl | hx
    · unfold keyErr at h1; split at h1
      · cases h1
      · omega
    · exact kidsE_small l (by simpa using h) x hx
theorem right_zero {n : NodeP} (h : n.right = 0) : n.texts = 0 ∧ 0 ≤ n.level ∧ n.level ≤ 20 ∧ (if 0 < n.level then n.kids.length else n.ents.length) ≠ 0 ∧ (if 0 < n.level then n.ents.length else n.kids.length) = 0 ∧ badKeys n.level n.keys = false ∧ n.kids.any (fun k => decide (k.id = 0)) = false := by
  unfold NodeP.right at h
  by_cases h1 : n.texts ≠ 0
  · rw [if_pos h1] at h; exact absurd h h1
  rw [if_neg h1] at h
  by_cases h2 : n.level < 0 ∨ 20 < n.level ∨ (if 0 < n.level then n.kids.length else n.ents.length) = 0 ∨ 0 < (if 0 < n.level then n.ents.length else n.kids.length)
  · rw [if_pos h2] at h; cases h
  rw [if_neg h2] at h
  by_cases h3 : badKeys n.level n.keys = true
  · rw [if_pos h3] at h; cases h
  rw [if_neg h3] at h
  by_cases h4 : (n.kids.any fun k => decide (k.id = 0)) = true
  · rw [if_pos h4] at h; cases h
  generalize (if 0 < n.level then n.kids.length else n.ents.length) = a at *
  generalize (if 0 < n.level then n.ents.length else n.kids.length) = b at *
  exact ⟨by simpa using h1, by omega, by omega, by omega, by omega, by simpa using h3, by simpa using h4⟩
theorem right_texts0 {n : NodeP} (h : n.right = 0) : textErr n.ents = 0 ∧ kidsE n.kids = 0 := by
  have := (right_zero h).1
  unfold NodeP.texts at this
  split at this
  · rename_i h1; exact absurd this h1
  · rename_i h1; exact ⟨by simpa using h1, this⟩
theorem flat_ents {l : List Entry} (h : ∀ x ∈ l, x.key.size ≤ 40 ∧ x.val.size ≤ 200) (k : Nat) : ((l.take k).flatMap entI).length ≤ 420 * k := by
  induction k with
  | zero => simp
  | succ k ih =>
    by_cases hk : k < l.length
    · rw [List.take_add_one, List.getElem?_eq_getElem hk]
      have hx := h _ (List.getElem_mem hk)
      have h1 := textI_len2 (s := l[k].key) (by omega)
      have h2 := textI_len2 (s := l[k].val) (by omega)
      simp only [Option.toList_some, List.flatMap_append, List.length_append, List.flatMap_cons, List.flatMap_nil, List.append_nil, entI]
      omega
    · have e : l.take (k + 1) = l.take k := by rw [List.take_of_length_le (by omega), List.take_of_length_le (by omega)]
      rw [e]; omega
def KidsOk (l : List Kid) : Prop := ∀ x ∈ l, 0 ≤ x.id ∧ x.id < 18446744073709551616
theorem flat_kids {l : List Kid} (h : ∀ x ∈ l, x.last.size ≤ 40) (hi : KidsOk l) (k : Nat) : ((l.take k).flatMap kidI).length ≤ 220 * k := by
  induction k with
  | zero => simp
  | succ k ih =>
    by_cases hk : k < l.length
    · rw [List.take_add_one, List.getElem?_eq_getElem hk]
      have hx := h _ (List.getElem_mem hk)
      have hy := hi _ (List.getElem_mem hk)
      have h1 := textI_len2 (s := l[k].last) (by omega)
      have h2 := lebI_len10 (l[k].id.toNat) (by omega)
      simp only [Option.toList_some, List.flatMap_append, List.length_append, List.flatMap_cons, List.flatMap_nil, List.append_nil, kidI]
      omega
    · have e : l.take (k + 1) = l.take k := by rw [List.take_of_length_le (by omega), List.take_of_length_le (by omega)]
      rw [e]; omega
end Go.Proofs.YtikgplhcadomcaaGreat
