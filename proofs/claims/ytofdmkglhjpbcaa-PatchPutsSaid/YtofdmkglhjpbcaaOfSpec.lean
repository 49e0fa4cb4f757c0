/- diff.Of of rising maps is ref09.Diff; no program, no memory. -/
import Derived.Test.YtofdmkglhjpbcaaOrder
namespace Go.Proofs.Ytofdmkglhjpbcaa
open Go.RowKit
set_option linter.unusedVariables false
set_option linter.unusedSimpArgs false

theorem sle_iff (a b : Str) : sle a b = true ↔ slt a b = true ∨ a = b := by simp [sle]

/-- What taking a key that is not above any other one leaves. -/
theorem takeK_spec {l : List Entry} {k : Str} (h : Srt (keyList l)) (hk : ∀ a ∈ keyList l, slt k a = true ∨ a = k) :
    (get l k).has = (takeK l k).2.1 ∧ (get l k).val = (takeK l k).1 ∧ Srt (keyList (takeK l k).2.2) ∧ (∀ a, a ∈ keyList (takeK l k).2.2 ↔ a ∈ keyList l ∧ ¬ a = k) ∧
    (∀ a, ¬ a = k → get (takeK l k).2.2 a = get l a) := by
  cases l with
  | nil => exact ⟨rfl, rfl, h, fun a => by simp [takeK, keyList], fun _ _ => rfl⟩
  | cons x l =>
    obtain ⟨h1, h2⟩ := srt_cons.1 h
    by_cases hx : x.key = k
    · have e : takeK (x :: l) k = (x.val, true, l) := by simp [takeK, hx]
      rw [e]
      refine ⟨by simp [get, hx], by simp [get, hx], h2, fun a => ?_, fun a ha => ?_⟩
      · simp only [keyList, List.map_cons, List.mem_cons]
        constructor
        · intro ha
          exact ⟨.inr ha, fun e => by subst e; exact slt_ne (h1 a ha) hx⟩
        · rintro ⟨ha | ha, hne⟩
          · exact absurd (ha.trans hx) hne
          · exact ha
      · simp only [get]
        rw [if_neg (fun e => ha (e.symm.trans hx))]
    · have e : takeK (x :: l) k = (⟨#[]⟩, false, x :: l) := by simp [takeK, hx]
      rw [e]
      have hn : ¬ k ∈ keyList (x :: l) := by
        intro hm
        rcases List.mem_cons.1 hm with e' | e'
        · exact hx e'.symm
        · rcases hk x.key (by simp [keyList]) with h3 | h3
          · have h4 := slt_trans h3 (h1 k e')
            rw [slt_irrefl] at h4; cases h4
          · exact hx h3
      rw [get_none hn]
      exact ⟨rfl, rfl, h, fun a => ⟨fun ha => ⟨ha, fun e => hn (e ▸ ha)⟩, fun ha => ha.1⟩, fun _ _ => rfl⟩

theorem leastKey_spec {l m : List Entry} (hl : Srt (keyList l)) (hm : Srt (keyList m)) (hne : ¬ (l = [] ∧ m = [])) :
    (leastKey l m ∈ keyList l ∨ leastKey l m ∈ keyList m) ∧ (∀ a ∈ keyList l, slt (leastKey l m) a = true ∨ a = leastKey l m) ∧ (∀ a ∈ keyList m, slt (leastKey l m) a = true ∨ a = leastKey l m) := by
  cases l with
  | nil => cases m with
    | nil => exact absurd ⟨rfl, rfl⟩ hne
    | cons y m =>
      refine ⟨.inr (by simp [keyList, leastKey]), fun a ha => by simp [keyList] at ha, fun a ha => ?_⟩
      rcases List.mem_cons.1 ha with e | e
      · exact .inr e
      · exact .inl ((srt_cons.1 hm).1 a e)
  | cons x l => cases m with
    | nil =>
      refine ⟨.inl (by simp [keyList, leastKey]), fun a ha => ?_, fun a ha => by simp [keyList] at ha⟩
      rcases List.mem_cons.1 ha with e | e
      · exact .inr e
      · exact .inl ((srt_cons.1 hl).1 a e)
    | cons y m =>
      cases hq : sle x.key y.key with
      | true =>
        have e0 : leastKey (x :: l) (y :: m) = x.key := by simp [leastKey, hq]
        rw [e0]
        have hxy := (sle_iff _ _).1 hq
        refine ⟨.inl (by simp [keyList]), fun a ha => ?_, fun a ha => ?_⟩
        · rcases List.mem_cons.1 ha with e | e
          · exact .inr e
          · exact .inl ((srt_cons.1 hl).1 a e)
        · rcases List.mem_cons.1 ha with e | e
          · subst e
            rcases hxy with h | h
            · exact .inl h
            · exact .inr h.symm
          · have h3 := (srt_cons.1 hm).1 a e
            rcases hxy with h | h
            · exact .inl (slt_trans h h3)
            · rw [h]; exact .inl h3
      | false =>
        have e0 : leastKey (x :: l) (y :: m) = y.key := by simp [leastKey, hq]
        rw [e0]
        have hyx : slt y.key x.key = true := by
          rcases slt_total x.key y.key with h | h | h
          · have := (sle_iff x.key y.key).2 (.inl h); rw [hq] at this; cases this
          · have := (sle_iff x.key y.key).2 (.inr h); rw [hq] at this; cases this
          · exact h
        refine ⟨.inr (by simp [keyList]), fun a ha => ?_, fun a ha => ?_⟩
        · rcases List.mem_cons.1 ha with e | e
          · subst e; exact .inl hyx
          · exact .inl (slt_trans hyx ((srt_cons.1 hl).1 a e))
        · rcases List.mem_cons.1 ha with e | e
          · exact .inr e
          · exact .inl ((srt_cons.1 hm).1 a e)

theorem changeAt_congr {l m l' m' : List Entry} {a : Str} (h1 : get l' a = get l a) (h2 : get m' a = get m a) : changeAt l' m' a = changeAt l m a := by unfold changeAt; rw [h1, h2]

theorem ofL_spec : ∀ (n : Nat) (l m : List Entry), Srt (keyList l) → Srt (keyList m) → l.length + m.length ≤ n →
    ∃ ks, Srt ks ∧ (∀ a, a ∈ ks ↔ a ∈ keyList l ∨ a ∈ keyList m) ∧ ofL n l m = ks.flatMap (changeAt l m)
  | 0, l, m, _, _, hn => by
    have h1 : l = [] := List.eq_nil_of_length_eq_zero (by omega)
    have h2 : m = [] := List.eq_nil_of_length_eq_zero (by omega)
    subst h1 h2
    exact ⟨[], by simp [Srt], fun a => by simp [keyList], rfl⟩
  | n + 1, l, m, hl, hm, hn => by
    by_cases hne : l = [] ∧ m = []
    · obtain ⟨h1, h2⟩ := hne
      subst h1 h2
      exact ⟨[], by simp [Srt], fun a => by simp [keyList], rfl⟩
    · obtain ⟨k1, k2, k3⟩ := leastKey_spec hl hm hne
      have hlen := take_len l m hne
      have hu : ofL (n + 1) l m = (if (takeK l (leastKey l m)).2.1 ≠ (takeK m (leastKey l m)).2.1 ∨ (takeK l (leastKey l m)).1 ≠ (takeK m (leastKey l m)).1 then
          [(⟨leastKey l m, (takeK l (leastKey l m)).2.1, (takeK l (leastKey l m)).1, (takeK m (leastKey l m)).2.1, (takeK m (leastKey l m)).1⟩ : Change)] else [])
          ++ ofL n (takeK l (leastKey l m)).2.2 (takeK m (leastKey l m)).2.2 := by
        rw [ofL, ie_and hne]; rfl
      rw [hu]
      generalize leastKey l m = k at *
      obtain ⟨a1, a2, a3, a4, a5⟩ := takeK_spec hl k2
      obtain ⟨b1, b2, b3, b4, b5⟩ := takeK_spec hm k3
      generalize takeK l k = t at *
      generalize takeK m k = u at *
      obtain ⟨ks, hs, hmem, he⟩ := ofL_spec n t.2.2 u.2.2 a3 b3 (by omega)
      refine ⟨k :: ks, srt_cons.2 ⟨fun b hb => ?_, hs⟩, fun a => ?_, ?_⟩
      · rcases (hmem b).1 hb with h | h
        · obtain ⟨h1, h2⟩ := (a4 b).1 h
          exact (k2 b h1).resolve_right h2
        · obtain ⟨h1, h2⟩ := (b4 b).1 h
          exact (k3 b h1).resolve_right h2
      · rw [List.mem_cons, hmem, a4, b4]
        constructor
        · rintro (h | h | h)
          · subst h; exact k1
          · exact .inl h.1
          · exact .inr h.1
        · intro h
          by_cases e : a = k
          · exact .inl e
          · rcases h with h | h
            · exact .inr (.inl ⟨h, e⟩)
            · exact .inr (.inr ⟨h, e⟩)
      · rw [List.flatMap_cons, he]
        congr 1
        · unfold changeAt
          rw [← a1, ← a2, ← b1, ← b2]
          by_cases e : get l k = get m k
          · rw [if_pos e, if_neg (by rw [e]; simp)]
          · rw [if_neg e, if_pos]
            by_cases e1 : (get l k).has = (get m k).has
            · right
              intro e2
              exact e (by cases hx : get l k; cases hy : get m k; simp_all)
            · exact .inl e1
        · have : ∀ (zs : List Str), (∀ a ∈ zs, ¬ a = k) → zs.flatMap (changeAt t.2.2 u.2.2) = zs.flatMap (changeAt l m) := by
            intro zs
            induction zs with
            | nil => intro _; rfl
            | cons z zs ih =>
              intro hz
              rw [List.flatMap_cons, List.flatMap_cons, ih (fun a ha => hz a (by simp [ha])), changeAt_congr (a5 z (hz z (by simp))) (b5 z (hz z (by simp)))]
          refine this ks fun a ha => ?_
          rcases (hmem a).1 ha with h | h
          · exact ((a4 a).1 h).2
          · exact ((b4 a).1 h).2

/-- What two rising maps differ in is what the reference says. -/
theorem ofL_eq {l m : List Entry} (hl : rises l = true) (hm : rises m = true) : ofL (l.length + m.length) l m = diffRef l m := by
  obtain ⟨ks, hs, hmem, he⟩ := ofL_spec _ l m (rises_srt hl) (rises_srt hm) (Nat.le_refl _)
  rw [he]
  unfold diffRef
  rw [srt_ext hs (srt_keysOf [l, m]) fun a => ?_]
  rw [hmem, mem_keysOf]
  simp
end Go.Proofs.Ytofdmkglhjpbcaa
