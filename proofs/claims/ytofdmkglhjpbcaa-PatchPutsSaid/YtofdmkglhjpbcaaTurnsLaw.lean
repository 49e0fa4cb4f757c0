/- What the changes make of a map, and turned round; no program. -/
import Derived.Test.YtofdmkglhjpbcaaEditsLaw
import Derived.Test.YtofdmkglhjpbcaaOfSpec
namespace Go.Proofs.Ytofdmkglhjpbcaa
open Go.RowKit
set_option linter.unusedVariables false
set_option linter.unusedSimpArgs false

theorem says_put : ∀ (l : List Entry) (f : Fm), Ris l → ∀ x : Entry, (l.foldl (fun f x => f.put x.key x.val) f) x.key = some x.val ↔ x ∈ l ∨ (¬ x.key ∈ keyList l ∧ f x.key = some x.val)
  | [], f, _, x => by simp [keyList]
  | y :: l, f, h, x => by
    obtain ⟨h1, h2⟩ := List.pairwise_cons.1 h
    rw [List.foldl_cons, says_put l _ h2 x]
    unfold Fm.put
    simp only [keyList, List.map_cons, List.mem_cons, not_or]
    by_cases hx : x.key = y.key
    · have hn : ¬ x.key ∈ l.map (·.key) := fun hm => by
        obtain ⟨z, hz, e⟩ := List.mem_map.1 hm
        have := h1 z hz
        rw [show z.key = y.key from e.trans hx, slt_irrefl] at this
        cases this
      have hn' : ¬ x ∈ l := fun hm => hn (List.mem_map.2 ⟨x, hm, rfl⟩)
      obtain ⟨xk, xv⟩ := x
      obtain ⟨yk, yv⟩ := y
      simp only at hx
      subst hx
      simp [hn, hn']
      exact eq_comm
    · have hne : x ≠ y := fun e => hx (by rw [e])
      simp [hx, hne]
theorem says_vals {l : List Entry} (h : Ris l) : Says l (vals l) := ⟨h, fun x => by
  unfold vals
  rw [says_put l _ h x]
  simp [Fm.nil]⟩
def opt (s : Side) : Option Str := if s.has then some s.val else none
theorem opt_get : ∀ {l : List Entry} {k v : Str}, Ris l → (opt (get l k) = some v ↔ ⟨k, v⟩ ∈ l)
  | [], k, v, _ => by simp [get, opt]
  | y :: l, k, v, h => by
    obtain ⟨h1, h2⟩ := List.pairwise_cons.1 h
    unfold get
    by_cases hx : y.key = k
    · rw [if_pos hx]
      have hn : ¬ (⟨k, v⟩ : Entry) ∈ l := fun hm => by
        have := h1 _ hm
        rw [hx, slt_irrefl] at this
        cases this
      obtain ⟨yk, yv⟩ := y
      simp only at hx
      subst hx
      simp [opt, hn]
      exact eq_comm
    · rw [if_neg hx, opt_get h2]
      simp only [List.mem_cons]
      exact ⟨fun h => .inr h, fun h => h.resolve_left (fun e => hx (by rw [← e]))⟩
theorem vals_get {l : List Entry} (h : Ris l) (k : Str) : vals l k = opt (get l k) := by
  apply Option.ext
  intro v
  rw [opt_get h]
  exact ((says_vals h).2 ⟨k, v⟩).symm

open Classical in
theorem fold_changes (a b : List Entry) : ∀ (ks : List Str) (f : Fm) (k : Str), ks.Nodup → ((ks.flatMap (changeAt a b)).map editOf).foldl done1 f k = if k ∈ ks ∧ get a k ≠ get b k then opt (get b k) else f k
  | [], f, k, _ => by simp
  | k0 :: ks, f, k, h => by
    obtain ⟨h1, h2⟩ := List.nodup_cons.1 h
    rw [List.flatMap_cons, List.map_append, List.foldl_append, fold_changes a b ks _ k h2]
    have hf : ((changeAt a b k0).map editOf).foldl done1 f k = if k = k0 ∧ get a k0 ≠ get b k0 then opt (get b k0) else f k := by
      unfold changeAt
      by_cases hg : get a k0 = get b k0
      · rw [if_pos hg]; simp [hg]
      · rw [if_neg hg]
        simp only [List.map_cons, List.map_nil, List.foldl_cons, List.foldl_nil]
        unfold editOf done1 opt
        cases hh : (get b k0).has <;> by_cases hk : k = k0 <;> simp [hh, hk, Fm.put, Fm.del, hg]
    rw [hf]
    by_cases hk : k = k0
    · subst hk
      simp [h1]
    · simp [hk]
theorem srt_nodup {l : List Str} (h : Srt l) : l.Nodup := h.imp fun {a b} h => slt_ne h
theorem opt_inj_none {a : List Entry} {k : Str} (h : ¬ k ∈ keyList a) : get a k = ⟨false, ⟨#[]⟩⟩ := get_none h
/-- The changes done make the other map. -/
theorem changes_do {a b : List Entry} (ha : Ris a) (hb : Ris b) (k : Str) : applied a ((diffRef a b).map editOf) k = vals b k := by
  unfold applied diffRef
  rw [fold_changes a b _ _ _ (srt_nodup (srt_keysOf _)), vals_get ha, vals_get hb]
  by_cases hg : get a k = get b k
  · simp [hg]
  · have hk : k ∈ keysOf [a, b] := by
      rw [mem_keysOf]
      by_cases h1 : k ∈ keyList a
      · exact ⟨a, by simp, h1⟩
      · by_cases h2 : k ∈ keyList b
        · exact ⟨b, by simp, h2⟩
        · exact absurd ((get_none h1).trans (get_none h2).symm) hg
    rw [if_pos ⟨hk, hg⟩]
theorem applied_eq {a r : List Entry} {l : List EditE} (ha : rises a = true) (hr : rises r = true) (h : ∀ x : Entry, x ∈ r ↔ applied a l x.key = some x.val) : r = refApply a l := by
  have hs := says_edits l (says_vals (ris_iff.2 (rises_srt ha)))
  exact ris_ext (ris_iff.2 (rises_srt hr)) hs.1 fun x => by rw [h, hs.2]; rfl
theorem turns_eq {a b r : List Entry} (ha : rises a = true) (hb : rises b = true) (hr : rises r = true) (h : ∀ x : Entry, x ∈ r ↔ applied a ((diffRef a b).map editOf) x.key = some x.val) : r = b := by
  have h1 := ris_iff.2 (rises_srt ha)
  have h2 := ris_iff.2 (rises_srt hb)
  exact ris_ext (ris_iff.2 (rises_srt hr)) h2 fun x => by rw [h, changes_do h1 h2, (says_vals h2).2]
theorem keys_swap (a b : List Entry) : keysOf [a, b] = keysOf [b, a] := srt_ext (srt_keysOf _) (srt_keysOf _) fun k => by
  rw [mem_keysOf, mem_keysOf]
  simp [or_comm]
theorem turn_diff (a b : List Entry) : (diffRef a b).map turned = diffRef b a := by
  unfold diffRef
  rw [keys_swap b a, List.map_flatMap]
  congr 1
  funext k
  unfold changeAt
  by_cases hg : get a k = get b k
  · rw [if_pos hg, if_pos hg.symm]; rfl
  · rw [if_neg hg, if_neg (fun e => hg e.symm)]; rfl
end Go.Proofs.Ytofdmkglhjpbcaa
