/- Patches taken back, patches in one, patches of two maps; no program. -/
import Derived.Test.YtofdmkglhjpbcaaPatchLaw
namespace Go.Proofs.Ytofdmkglhjpbcaa
open Go.RowKit
set_option linter.unusedVariables false
set_option linter.unusedSimpArgs false

def Fits (a : List Entry) (l : List Change) : Prop := ∀ c ∈ l, get a c.key = ⟨c.had, c.was⟩
theorem fits_turned {a : List Entry} {l : List Change} (ha : Ris a) (hl : patchErr l = 0) : Fits (refApply a (l.map editOf)) (l.map turned) := by
  intro c hc
  obtain ⟨x, hx, rfl⟩ := List.mem_map.1 hc
  have h2 := (patch_ok.1 hl).2
  rw [get_patched ha hl]
  show (match chOf l x.key with | some c => sideNow c | none => get a x.key) = _
  rw [chOf_mem h2 hx]
  rfl
theorem back_again {a : List Entry} {l : List Change} (ha : Ris a) (hl : patchErr l = 0) (hf : Fits a l) : refApply (refApply a (l.map editOf)) ((l.map turned).map editOf) = a := by
  have hx := ris_patched ha (l.map editOf)
  refine get_ext (ris_patched hx _) ha fun k => ?_
  rw [get_patched hx (err_turned hl), chOf_turned, get_patched ha hl]
  cases hc : chOf l k with
  | none => rfl
  | some c =>
    obtain ⟨h1, h2⟩ := chOf_some hc
    have := hf c h1
    rw [h2] at this
    rw [this]
    rfl

/-! ### joined -/
def joinC (x y : Change) : Change := ⟨x.key, x.had, x.was, y.has, y.now⟩
def joinAt (p q : List Change) (k : Str) : Option Change := match chOf p k, chOf q k with
  | some x, some y => some (joinC x y)
  | some x, none => some x
  | none, some y => some y
  | none, none => none
def badC (p : List Change) (c : Change) : Bool := match chOf p c.key with
  | some x => !(decide (x.has = c.had) && decide (x.now = c.was))
  | none => false
def entC (c : Change) : Entry := ⟨c.key, emptyS⟩
def joinKeys (p q : List Change) : List Str := keysOf [(p ++ q).map entC]
def movesOf (o : Option Change) : List Change := match o with | some c => if idle c = true then [] else [c] | none => []
def joinL (p q : List Change) (k : Str) : List Change := movesOf (joinAt p q k)
def patchJoin (p q : List Change) : List Change × Int :=
  if patchErr p ≠ 0 then ([], patchErr p) else if patchErr q ≠ 0 then ([], patchErr q) else if q.any (badC p) = true then ([], 170) else ((joinKeys p q).flatMap (joinL p q), 0)
theorem mem_joinKeys {p q : List Change} {k : Str} : k ∈ joinKeys p q ↔ k ∈ ckeys p ∨ k ∈ ckeys q := by
  unfold joinKeys
  rw [mem_keysOf]
  simp only [List.mem_singleton, exists_eq_left, keyList, List.map_map, List.map_append, List.mem_append]
  rfl
theorem join_ok {p q : List Change} (hp : patchErr p = 0) (hq : patchErr q = 0) (hb : ∀ c ∈ q, badC p c = false) : patchJoin p q = ((joinKeys p q).flatMap (joinL p q), 0) := by
  unfold patchJoin
  rw [if_neg (by simp [hp]), if_neg (by simp [hq]), if_neg]
  intro h
  obtain ⟨c, hc, e⟩ := List.any_eq_true.1 h
  rw [hb c hc] at e
  cases e
theorem join_bad {p q : List Change} (hp : patchErr p = 0) (hq : patchErr q = 0) {c : Change} (hc : c ∈ q) (hb : badC p c = true) : patchJoin p q = ([], 170) := by
  unfold patchJoin
  rw [if_neg (by simp [hp]), if_neg (by simp [hq]), if_pos (List.any_eq_true.2 ⟨c, hc, hb⟩)]
theorem join_back {l : List Change} (hl : patchErr l = 0) : patchJoin l (l.map turned) = ([], 0) := by
  have h2 := (patch_ok.1 hl).2
  have hb : ∀ c ∈ l.map turned, badC l c = false := by
    intro c hc
    obtain ⟨x, hx, rfl⟩ := List.mem_map.1 hc
    unfold badC
    show (match chOf l x.key with | some y => !(decide (y.has = x.has) && decide (y.now = x.now)) | none => false) = false
    rw [chOf_mem h2 hx]
    simp
  rw [join_ok hl (err_turned hl) hb]
  congr 1
  rw [List.flatMap_eq_nil_iff]
  intro k _
  unfold joinL joinAt
  rw [chOf_turned]
  cases hc : chOf l k with
  | none => rfl
  | some c =>
    show movesOf (some (joinC c (turned c))) = []
    unfold movesOf
    simp [joinC, turned, idle]

/-! ### of two maps -/
theorem map_texts : ∀ {l : List Entry}, textErr l = 0 → ∀ x ∈ l, keyErr x.key = 0 ∧ valErr x.val = 0
  | [], _, x, hx => by cases hx
  | y :: l, h, x, hx => by
    unfold textErr at h
    by_cases h1 : keyErr y.key = 0
    · rw [if_neg (by simp [h1])] at h
      by_cases h2 : valErr y.val = 0
      · rw [if_neg (by simp [h2])] at h
        rcases List.mem_cons.1 hx with rfl | hx
        · exact ⟨h1, h2⟩
        · exact map_texts h x hx
      · rw [if_pos h2] at h; exact absurd h h2
    · rw [if_pos h1] at h; exact absurd h h1
theorem isMap_texts {l : List Entry} (h : isMap l = true) : ∀ x ∈ l, keyErr x.key = 0 ∧ valErr x.val = 0 := by
  unfold isMap at h
  simp only [Bool.and_eq_true, decide_eq_true_eq] at h
  have h2 := h.2
  unfold right at h2
  by_cases h1 : textErr l = 0
  · exact map_texts h1
  · rw [if_pos h1] at h2; exact absurd h2 h1
theorem get_text : ∀ {l : List Entry} (h : ∀ x ∈ l, keyErr x.key = 0 ∧ valErr x.val = 0) (k : Str), textE (get l k).has (get l k).val = 0
  | [], _, k => by unfold get textE; decide +kernel
  | x :: l, h, k => by
    unfold get
    split
    · unfold textE
      rw [if_neg (by simp)]
      exact (h x (by simp)).2
    · exact get_text (fun y hy => h y (by simp [hy])) k
def chg (a b : List Entry) (k : Str) : Change := ⟨k, (get a k).has, (get a k).val, (get b k).has, (get b k).val⟩
theorem side_eta (s : Side) : (⟨s.has, s.val⟩ : Side) = s := rfl
theorem idle_chg (a b : List Entry) (k : Str) : idle (chg a b k) = decide (get a k = get b k) := by
  unfold idle chg
  rw [← Bool.decide_and]
  exact decide_eq_decide.2 ⟨fun ⟨h1, h2⟩ => by simp only at h1 h2; rw [← side_eta (get a k), ← side_eta (get b k), h1, h2], fun h => by simp [h]⟩
theorem changeAt_chg (a b : List Entry) (k : Str) : changeAt a b k = if get a k = get b k then [] else [chg a b k] := rfl
theorem mem_diff {a b : List Entry} {c : Change} : c ∈ diffRef a b ↔ ∃ k, k ∈ keysOf [a, b] ∧ get a k ≠ get b k ∧ c = chg a b k := by
  unfold diffRef
  rw [List.mem_flatMap]
  constructor
  · rintro ⟨k, hk, hc⟩
    rw [changeAt_chg] at hc
    split at hc
    · cases hc
    · rename_i hne
      exact ⟨k, hk, hne, by simpa using hc⟩
  · rintro ⟨k, hk, hne, rfl⟩
    exact ⟨k, hk, by rw [changeAt_chg, if_neg hne]; simp⟩
theorem key_known {a b : List Entry} {k : Str} (h : get a k ≠ get b k) : k ∈ keysOf [a, b] := by
  rw [mem_keysOf]
  by_cases h1 : k ∈ keyList a
  · exact ⟨a, by simp, h1⟩
  · by_cases h2 : k ∈ keyList b
    · exact ⟨b, by simp, h2⟩
    · exact absurd ((get_none h1).trans (get_none h2).symm) h
theorem srt_flat_keys {f : Str → List Change} (hf : ∀ k, ∀ c ∈ f k, c.key = k) (h1 : ∀ k, (f k).length ≤ 1) : ∀ {ks : List Str}, Srt ks → Srt (ckeys (ks.flatMap f))
  | [], _ => List.Pairwise.nil
  | k :: ks, h => by
    obtain ⟨g1, g2⟩ := srt_cons.1 h
    unfold ckeys
    rw [List.flatMap_cons, List.map_append]
    refine List.pairwise_append.2 ⟨?_, srt_flat_keys hf h1 g2, ?_⟩
    · have := h1 k
      match f k, this with
      | [], _ => exact List.Pairwise.nil
      | [c], _ => simp
    · intro x hx y hy
      obtain ⟨c, hc, rfl⟩ := List.mem_map.1 hx
      obtain ⟨d, hd, rfl⟩ := List.mem_map.1 hy
      obtain ⟨k', hk', hd'⟩ := List.mem_flatMap.1 hd
      rw [hf k c hc, hf k' d hd']
      exact g1 k' hk'
theorem changeAt_key (a b : List Entry) (k : Str) : ∀ c ∈ changeAt a b k, c.key = k := by
  intro c hc
  rw [changeAt_chg] at hc
  split at hc
  · cases hc
  · simp only [List.mem_singleton] at hc; subst hc; rfl
theorem changeAt_len (a b : List Entry) (k : Str) : (changeAt a b k).length ≤ 1 := by rw [changeAt_chg]; split <;> simp
theorem srt_diff (a b : List Entry) : Srt (ckeys (diffRef a b)) := srt_flat_keys (changeAt_key a b) (changeAt_len a b) (srt_keysOf _)
theorem err_diff {a b : List Entry} (ha : isMap a = true) (hb : isMap b = true) : patchErr (diffRef a b) = 0 := by
  refine patch_ok.2 ⟨fun c hc => ?_, srt_diff a b⟩
  obtain ⟨k, hk, hne, rfl⟩ := mem_diff.1 hc
  refine ⟨?_, get_text (isMap_texts ha) k, get_text (isMap_texts hb) k, by rw [idle_chg]; exact decide_eq_false hne⟩
  rw [mem_keysOf] at hk
  obtain ⟨l, hl, hk⟩ := hk
  obtain ⟨x, hx, rfl⟩ := List.mem_map.1 hk
  simp only [List.mem_cons, List.not_mem_nil, or_false] at hl
  rcases hl with rfl | rfl
  · exact (isMap_texts ha x hx).1
  · exact (isMap_texts hb x hx).1
theorem fits_diff (a b : List Entry) : Fits a (diffRef a b) := by
  intro c hc
  obtain ⟨k, hk, hne, rfl⟩ := mem_diff.1 hc
  rfl
theorem diff_makes {a b : List Entry} (ha : Ris a) (hb : Ris b) : refApply a ((diffRef a b).map editOf) = b := by
  have hs := says_edits ((diffRef a b).map editOf) (says_vals ha)
  refine ris_ext hs.1 hb fun x => ?_
  rw [hs.2, (says_vals hb).2]
  have := changes_do ha hb x.key
  unfold applied at this
  rw [this]
theorem chOf_diff (a b : List Entry) (k : Str) : chOf (diffRef a b) k = if get a k = get b k then none else some (chg a b k) := by
  by_cases h : get a k = get b k
  · rw [if_pos h, chOf_none]
    intro hm
    obtain ⟨c, hc, e⟩ := List.mem_map.1 hm
    obtain ⟨k', _, hne, rfl⟩ := mem_diff.1 hc
    have e' : k' = k := e
    subst e'
    exact hne h
  · rw [if_neg h]
    exact chOf_mem (srt_diff a b) (mem_diff.2 ⟨k, key_known h, h, rfl⟩)
theorem joinL_diff (a b c : List Entry) (k : Str) : joinL (diffRef a b) (diffRef b c) k = changeAt a c k := by
  unfold joinL joinAt
  rw [chOf_diff, chOf_diff, changeAt_chg]
  by_cases h1 : get a k = get b k
  · rw [if_pos h1]
    by_cases h2 : get b k = get c k
    · rw [if_pos h2, if_pos (h1.trans h2)]; rfl
    · rw [if_neg h2, if_neg (fun e => h2 (h1.symm.trans e))]
      simp only [movesOf, idle_chg]
      rw [decide_eq_false h2]
      unfold chg
      rw [h1]; rfl
  · rw [if_neg h1]
    by_cases h2 : get b k = get c k
    · rw [if_pos h2, if_neg (fun e => h1 (e.trans h2.symm))]
      simp only [movesOf, idle_chg]
      rw [decide_eq_false h1]
      unfold chg
      rw [h2]; rfl
    · rw [if_neg h2]
      have e : joinC (chg a b k) (chg b c k) = chg a c k := rfl
      simp only [e, movesOf, idle_chg]
      by_cases h3 : get a k = get c k
      · rw [decide_eq_true h3, if_pos rfl, if_pos h3]
      · rw [decide_eq_false h3, if_neg (by simp), if_neg h3]
theorem flat_filter {α : Type} (f : Str → List α) : ∀ ks : List Str, ks.flatMap f = (ks.filter (fun k => !(f k).isEmpty)).flatMap f
  | [] => rfl
  | k :: ks => by
    rw [List.flatMap_cons, flat_filter f ks, List.filter_cons]
    cases h : f k with
    | nil => simp
    | cons x xs => simp [h]
theorem flat_ext {α : Type} {f : Str → List α} {ks ks' : List Str} (h : Srt ks) (h' : Srt ks') (hk : ∀ k, f k ≠ [] → (k ∈ ks ↔ k ∈ ks')) : ks.flatMap f = ks'.flatMap f := by
  rw [flat_filter f ks, flat_filter f ks']
  congr 1
  refine srt_ext (h.filter _) (h'.filter _) fun k => ?_
  simp only [List.mem_filter]
  constructor
  · rintro ⟨h1, h2⟩
    exact ⟨(hk k (by intro e; rw [e] at h2; cases h2)).1 h1, h2⟩
  · rintro ⟨h1, h2⟩
    exact ⟨(hk k (by intro e; rw [e] at h2; cases h2)).2 h1, h2⟩
theorem join_diff {a b c : List Entry} (ha : isMap a = true) (hb : isMap b = true) (hc : isMap c = true) : patchJoin (diffRef a b) (diffRef b c) = (diffRef a c, 0) := by
  rw [join_ok (err_diff ha hb) (err_diff hb hc)]
  · congr 1
    have e : joinL (diffRef a b) (diffRef b c) = changeAt a c := funext (joinL_diff a b c)
    rw [e]
    unfold diffRef
    refine flat_ext (srt_keysOf _) (srt_keysOf _) fun k hne => ?_
    have hac : get a k ≠ get c k := fun e => hne (by rw [changeAt_chg, if_pos e])
    refine ⟨fun _ => key_known hac, fun _ => ?_⟩
    show k ∈ joinKeys (diffRef a b) (diffRef b c)
    rw [mem_joinKeys]
    by_cases h1 : get a k = get b k
    · have h2 : get b k ≠ get c k := fun e => hac (h1.trans e)
      exact .inr (List.mem_map.2 ⟨_, mem_diff.2 ⟨k, key_known h2, h2, rfl⟩, rfl⟩)
    · exact .inl (List.mem_map.2 ⟨_, mem_diff.2 ⟨k, key_known h1, h1, rfl⟩, rfl⟩)
  · intro y hy
    obtain ⟨k, hk, hne, rfl⟩ := mem_diff.1 hy
    unfold badC
    show (match chOf (diffRef a b) k with | some x => !(decide (x.has = (get b k).has) && decide (x.now = (get b k).val)) | none => false) = false
    rw [chOf_diff]
    by_cases h1 : get a k = get b k
    · rw [if_pos h1]
    · rw [if_neg h1]; simp [chg]
end Go.Proofs.Ytofdmkglhjpbcaa
