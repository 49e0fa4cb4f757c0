/- Patches: what they do, taken back, joined; no program. -/
import Derived.Test.YtofdmkglhjpbcaaPatchP
import Derived.Test.YtofdmkglhjpbcaaTurnsLaw
import Derived.Test.YtofdmkglhjpbcaaMergeP
namespace Go.Proofs.Ytofdmkglhjpbcaa
open Go.RowKit
set_option linter.unusedVariables false
set_option linter.unusedSimpArgs false

/-- What a patch that is right says. -/
structure RightC (c : Change) : Prop where
  key : keyErr c.key = 0
  was : textE c.had c.was = 0
  now : textE c.has c.now = 0
  moves : idle c = false
def ckeys (l : List Change) : List Str := l.map (·.key)
theorem chg_ok {c : Change} : chgErr c = 0 ↔ keyErr c.key = 0 ∧ textE c.had c.was = 0 ∧ textE c.has c.now = 0 := by
  unfold chgErr
  by_cases h1 : keyErr c.key = 0
  · by_cases h2 : textE c.had c.was = 0 <;> simp [h1, h2]
  · simp [h1]
theorem patchGo_ok : ∀ {l : List Change} {p : Option Str}, patchGo p l = 0 ↔ (∀ c ∈ l, RightC c) ∧ Srt (ckeys l) ∧ (∀ c, l.head? = some c → notUp p c.key = false)
  | [], p => by simp [patchGo, ckeys, Srt]
  | c :: l, p => by
    rw [patchGo]
    by_cases h1 : chgErr c = 0
    · rw [if_neg (by simp [h1])]
      by_cases h2 : (notUp p c.key || idle c) = true
      · rw [if_pos h2]
        constructor
        · intro h; cases h
        · rintro ⟨h3, _, h4⟩
          have h5 := (h3 c (by simp)).moves
          have h6 := h4 c rfl
          rw [h5, h6] at h2
          cases h2
      · rw [if_neg h2, patchGo_ok (l := l)]
        have h2' : notUp p c.key = false ∧ idle c = false := by simpa using h2
        obtain ⟨k1, k2, k3⟩ := chg_ok.1 h1
        constructor
        · rintro ⟨h3, h4, h5⟩
          refine ⟨fun x hx => ?_, ?_, fun x hx => by cases hx; exact h2'.1⟩
          · rcases List.mem_cons.1 hx with rfl | hx
            · exact ⟨k1, k2, k3, h2'.2⟩
            · exact h3 x hx
          · show Srt (c.key :: ckeys l)
            refine srt_cons.2 ⟨fun b hb => ?_, h4⟩
            cases l with
            | nil => cases hb
            | cons y l =>
              have hy : slt c.key y.key = true := by have := h5 y rfl; simpa [notUp] using this
              rcases List.mem_cons.1 hb with rfl | hb
              · exact hy
              · exact slt_trans hy ((srt_cons.1 h4).1 b hb)
        · rintro ⟨h3, h4, h5⟩
          have h4' := srt_cons.1 (show Srt (c.key :: ckeys l) from h4)
          refine ⟨fun x hx => h3 x (by simp [hx]), h4'.2, fun y hy => ?_⟩
          have : y ∈ l := List.mem_of_mem_head? hy
          have := h4'.1 y.key (List.mem_map.2 ⟨y, this, rfl⟩)
          simp [notUp, this]
    · rw [if_pos h1]
      constructor
      · intro h; exact absurd h h1
      · rintro ⟨h3, _, _⟩
        have := h3 c (by simp)
        exact absurd (chg_ok.2 ⟨this.key, this.was, this.now⟩) h1
theorem patch_ok {l : List Change} : patchErr l = 0 ↔ (∀ c ∈ l, RightC c) ∧ Srt (ckeys l) := by
  unfold patchErr
  rw [patchGo_ok]
  exact ⟨fun h => ⟨h.1, h.2.1⟩, fun h => ⟨h.1, h.2, fun c _ => rfl⟩⟩

/-- The change of a key. -/
def chOf (l : List Change) (k : Str) : Option Change := l.find? (fun c => decide (c.key = k))
theorem chOf_some {l : List Change} {k : Str} {c : Change} (h : chOf l k = some c) : c ∈ l ∧ c.key = k := by
  unfold chOf at h
  exact ⟨List.mem_of_find?_eq_some h, by simpa using List.find?_some h⟩
theorem chOf_none {l : List Change} {k : Str} : chOf l k = none ↔ ¬ k ∈ ckeys l := by
  unfold chOf ckeys
  rw [List.find?_eq_none]
  simp only [decide_eq_true_eq, List.mem_map, not_exists, not_and]
theorem chOf_mem {l : List Change} (h : Srt (ckeys l)) {c : Change} (hc : c ∈ l) : chOf l c.key = some c := by
  induction l with
  | nil => cases hc
  | cons y l ih =>
    have h4 := srt_cons.1 (show Srt (y.key :: ckeys l) from h)
    unfold chOf
    rw [List.find?_cons]
    by_cases hy : y.key = c.key
    · rw [decide_eq_true hy]
      rcases List.mem_cons.1 hc with rfl | hc
      · rfl
      · have := h4.1 c.key (List.mem_map.2 ⟨c, hc, rfl⟩)
        rw [hy, slt_irrefl] at this; cases this
    · rw [decide_eq_false hy]
      rcases List.mem_cons.1 hc with rfl | hc
      · exact absurd rfl hy
      · exact ih h4.2 hc
def sideNow (c : Change) : Side := ⟨c.has, c.now⟩
def sideWas (c : Change) : Side := ⟨c.had, c.was⟩
theorem plain_text {h : Bool} {v : Str} (e : textE h v = 0) : plainS ⟨h, v⟩ = ⟨h, v⟩ := by
  cases h with
  | true => rfl
  | false =>
    have : v = emptyS := by
      refine Classical.byContradiction fun hn => ?_
      unfold textE at e
      rw [if_pos ⟨rfl, hn⟩] at e
      cases e
    subst this; rfl
/-- What stands at a key behind edits with unlike keys. -/
theorem fold_edits : ∀ {l : List Change} {f : Fm} {k : Str}, Srt (ckeys l) → (l.map editOf).foldl done1 f k = match chOf l k with | some c => opt (sideNow c) | none => f k
  | [], f, k, _ => rfl
  | c :: l, f, k, h => by
    have h4 := srt_cons.1 (show Srt (c.key :: ckeys l) from h)
    rw [List.map_cons, List.foldl_cons, fold_edits h4.2]
    have hd : ∀ k, done1 f (editOf c) k = if k = c.key then opt (sideNow c) else f k := by
      intro k
      unfold editOf done1 opt sideNow
      cases hh : c.has <;> simp [Fm.put, Fm.del]
    unfold chOf
    rw [List.find?_cons]
    by_cases hk : c.key = k
    · rw [decide_eq_true hk]
      have hn : chOf l k = none := chOf_none.2 fun hm => by
        have := h4.1 k hm
        rw [hk, slt_irrefl] at this; cases this
      rw [show l.find? (fun c => decide (c.key = k)) = none from hn, hd]
      simp [hk]
    · rw [decide_eq_false hk]
      cases hc : l.find? (fun c => decide (c.key = k)) with
      | none =>
        simp only
        rw [hd, if_neg (fun e => hk e.symm)]
      | some y => rfl
theorem opt_side {s u : Side} (hs : plainS s = s) (hu : plainS u = u) (h : opt s = opt u) : s = u := opt_inj hs hu h
/-- What a patch makes of a map, key by key. -/
theorem get_patched {a : List Entry} {l : List Change} (ha : Ris a) (hl : patchErr l = 0) (k : Str) : get (refApply a (l.map editOf)) k = match chOf l k with | some c => sideNow c | none => get a k := by
  obtain ⟨h1, h2⟩ := patch_ok.1 hl
  have hs := says_edits (l.map editOf) (says_vals ha)
  have hp : plainS (match chOf l k with | some c => sideNow c | none => get a k) = (match chOf l k with | some c => sideNow c | none => get a k) := by
    cases hc : chOf l k with
    | none => exact plain_get a k
    | some c => exact plain_text (h1 c (chOf_some hc).1).now
  refine opt_side (plain_get _ _) hp ?_
  apply Option.ext
  intro v
  rw [opt_get hs.1]
  have := hs.2 ⟨k, v⟩
  rw [this]
  simp only
  rw [fold_edits h2]
  cases hc : chOf l k with
  | none =>
    simp only
    rw [vals_get ha]
  | some c => rfl
theorem ris_patched {a : List Entry} (ha : Ris a) (es : List EditE) : Ris (refApply a es) := (says_edits es (says_vals ha)).1

/-! ### turned -/
theorem ckeys_turned (l : List Change) : ckeys (l.map turned) = ckeys l := by
  unfold ckeys
  rw [List.map_map]
  rfl
theorem right_turned {c : Change} (h : RightC c) : RightC (turned c) := ⟨h.key, h.now, h.was, by
  have := h.moves
  unfold idle turned at *
  simp only [Bool.and_eq_false_iff, decide_eq_false_iff_not] at *
  rcases this with h | h
  · exact .inl (Ne.symm h)
  · exact .inr (Ne.symm h)⟩
theorem err_turned {l : List Change} (h : patchErr l = 0) : patchErr (l.map turned) = 0 := by
  obtain ⟨h1, h2⟩ := patch_ok.1 h
  refine patch_ok.2 ⟨fun c hc => ?_, by rw [ckeys_turned]; exact h2⟩
  obtain ⟨x, hx, rfl⟩ := List.mem_map.1 hc
  exact right_turned (h1 x hx)
theorem chOf_turned (l : List Change) (k : Str) : chOf (l.map turned) k = (chOf l k).map turned := by
  unfold chOf
  rw [List.find?_map]
  rfl
end Go.Proofs.Ytofdmkglhjpbcaa
