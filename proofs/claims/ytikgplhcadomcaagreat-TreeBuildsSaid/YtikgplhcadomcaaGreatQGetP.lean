/- What a key has in a tree's parts: plain -/
import Derived.Test.YtikgplhcadomcaaGreatQGetB
namespace Go.Proofs.YtikgplhcadomcaaGreat
open Go.RowKit
set_option linter.unusedVariables false
set_option linter.unusedSimpArgs false
theorem get_skip (k : Str) : ∀ (A B : List Entry), (∀ x ∈ A, x.key ≠ k) → get (A ++ B) k = get B k
  | [], B, _ => rfl
  | x :: A, B, h => by
    have ih := get_skip k A B fun y hy => h y (List.mem_cons_of_mem _ hy)
    simp only [List.cons_append, get, if_neg (h x List.mem_cons_self), ih]
theorem get_no (k : Str) : ∀ (A : List Entry), (∀ x ∈ A, x.key ≠ k) → get A k = ⟨false, ⟨#[]⟩⟩
  | [], _ => rfl
  | x :: A, h => by
    have ih := get_no k A fun y hy => h y (List.mem_cons_of_mem _ hy)
    simp only [get, if_neg (h x List.mem_cons_self), ih]
theorem get_left (k : Str) : ∀ (A B : List Entry), (∀ x ∈ B, x.key ≠ k) → get (A ++ B) k = get A k
  | [], B, h => by rw [List.nil_append, get_no k B h]; rfl
  | x :: A, B, h => by
    have ih := get_left k A B h
    simp only [List.cons_append, get, ih]
theorem get_at (k : Str) : ∀ (l : List Entry) (i : Nat) (x : Entry), l[i]? = some x → x.key = k → (∀ (m : Nat) y, m < i → l[m]? = some y → y.key ≠ k) → get l k = ⟨true, x.val⟩
  | [], i, x, h, _, _ => by simp at h
  | y :: l, 0, x, h, hk, _ => by
    simp only [List.getElem?_cons_zero, Option.some.injEq] at h
    subst h
    simp only [get, if_pos hk]
  | y :: l, i + 1, x, h, hk, hm => by
    have h0 := hm 0 y (by omega) rfl
    simp only [get, if_neg h0]
    exact get_at k l i x (by simpa using h) hk fun m z hz hl => hm (m + 1) z (by omega) (by simpa using hl)
theorem flat_last {α : Type} : ∀ (ps : List (List α)) (p : List α) (x : α), ps.getLast? = some p → p.getLast? = some x → ps.flatten.getLast? = some x
  | [], p, x, h, _ => by simp at h
  | [q], p, x, h, hx => by
    simp only [List.getLast?_singleton, Option.some.injEq] at h
    subst h
    simpa using hx
  | q :: r :: ps, p, x, h, hx => by
    have ih := flat_last (r :: ps) p x (by simpa [List.getLast?_cons_cons] using h) hx
    rw [List.flatten_cons, List.getLast?_append, ih]
    rfl
/-- A kid has the last key below it. -/
theorem sub_last {C : List (List Int)} : ∀ (n : Nat) (k : Kid) (p : List Entry), SubT C n k p → ∃ x, p.getLast? = some x ∧ k.last = x.key
  | 0, k, p, h => by
    obtain ⟨h1, h2, h3⟩ := h
    have hne : p ≠ [] := by have := ok_ne h1; simpa using this
    refine ⟨p.getLast hne, List.getLast?_eq_some_getLast hne, ?_⟩
    rw [h3, leaf_last, List.getLast?_map, List.getLast?_eq_some_getLast hne]
    rfl
  | n + 1, k, p, h => by
    obtain ⟨ks, ps, h1, h2, h3, h4, rfl, h6⟩ := h
    have hne : ks ≠ [] := by have := ok_ne h1; simpa using this
    have hpe : ps ≠ [] := fun e => hne (List.eq_nil_of_length_eq_zero (by rw [h4, e]; rfl))
    have hl : ks.length - 1 < ks.length := by have := List.length_pos_iff.2 hne; omega
    have hk : ks.getLast? = some ks[ks.length - 1] := by rw [List.getLast?_eq_getElem?, List.getElem?_eq_getElem hl]
    have hp : ps.getLast? = some (ps[ps.length - 1]'(by omega)) := by rw [List.getLast?_eq_getElem?, List.getElem?_eq_getElem (by omega)]
    obtain ⟨x, x1, x2⟩ := sub_last n _ _ (h6 (ks.length - 1) _ _ (List.getElem?_eq_getElem hl) (by rw [h4]; exact List.getElem?_eq_getElem (by omega)))
    refine ⟨x, flat_last ps _ x hp x1, ?_⟩
    rw [h3, inner_last, List.getLast?_map, hk]
    exact x2
theorem sub_le {C : List (List Int)} {n : Nat} {k : Kid} {p : List Entry} (h : SubT C n k p) (hr : RiseS (p.map Entry.key)) : ∀ x ∈ p, x.key = k.last ∨ slt x.key k.last = true := fun x hx => by
  obtain ⟨y, y1, y2⟩ := sub_last n k p h
  obtain ⟨A, rfl⟩ : ∃ A, p = A ++ [y] := by
    have hne : p ≠ [] := fun e => by rw [e] at y1; cases y1
    refine ⟨p.dropLast, ?_⟩
    have h1 := List.dropLast_concat_getLast hne
    rw [List.getLast?_eq_some_getLast hne] at y1
    injection y1 with y1
    rw [y1] at h1
    exact h1.symm
  rcases List.mem_append.1 hx with hx | hx
  · right
    rw [y2]
    have := hr
    unfold RiseS at this
    rw [List.map_append, List.pairwise_append] at this
    exact this.2.2 x.key (List.mem_map.2 ⟨x, hx, rfl⟩) y.key (by simp)
  · left
    simp at hx
    rw [hx, y2]
theorem slt_ne' {a b : Str} (h : slt a b = true) : a ≠ b := fun e => slt_ne h e
/-- Where all kids end ahead of a key, it is not there. -/
theorem sub_none {C : List (List Int)} {n : Nat} {ks : List Kid} {ps : List (List Entry)} {key : Str} (hl : ks.length = ps.length) (hs : ∀ (i : Nat) k p, ks[i]? = some k → ps[i]? = some p → SubT C n k p) (hr : RiseS (ps.flatten.map Entry.key)) (hk : ∀ (m : Nat) y, ks[m]? = some y → slt y.last key = true) : get ps.flatten key = ⟨false, ⟨#[]⟩⟩ := by
  refine get_no key _ fun x hx => ?_
  obtain ⟨p, hp, hxp⟩ := List.mem_flatten.1 hx
  obtain ⟨i, hi⟩ := List.getElem?_of_mem hp
  have hik : i < ks.length := by rw [hl]; exact (List.getElem?_eq_some_iff.1 hi).1
  have hsi := hs i _ p (List.getElem?_eq_getElem hik) hi
  have hrp : RiseS (p.map Entry.key) := hr.sublist ((List.sublist_flatten_of_mem hp).map _)
  have h1 := hk i _ (List.getElem?_eq_getElem hik)
  rcases sub_le hsi hrp x hxp with e | e
  · rw [e]; exact slt_ne' h1
  · exact slt_ne' (slt_trans e h1)
/-- Else it is where the first kid is that does not end ahead of it. -/
theorem sub_some {C : List (List Int)} {n : Nat} {ks : List Kid} {ps : List (List Entry)} {key : Str} (hl : ks.length = ps.length) (hs : ∀ (i : Nat) k p, ks[i]? = some k → ps[i]? = some p → SubT C n k p) (hr : RiseS (ps.flatten.map Entry.key)) {i : Nat} {k : Kid} {p : List Entry} (hi : ks[i]? = some k) (hp : ps[i]? = some p) (hge : slt k.last key = false) (hk : ∀ (m : Nat) y, m < i → ks[m]? = some y → slt y.last key = true) : get ps.flatten key = get p key ∧ RiseS (p.map Entry.key) := by
  have hip := List.getElem?_eq_some_iff.1 hp
  have e : ps = ps.take i ++ p :: ps.drop (i + 1) := by
    have := List.take_append_drop i ps
    rw [List.drop_eq_getElem_cons hip.1, hip.2] at this
    exact this.symm
  have hrp : RiseS (p.map Entry.key) := hr.sublist ((List.sublist_flatten_of_mem (List.mem_of_getElem? hp)).map _)
  refine ⟨?_, hrp⟩
  have ef : ps.flatten = (ps.take i).flatten ++ (p ++ (ps.drop (i + 1)).flatten) := by
    conv => lhs; rw [e]
    simp
  rw [ef, get_skip, get_left]
  · intro x hx hxk
    obtain ⟨y, y1, y2⟩ := sub_last n k p (hs i k p hi hp)
    have h1 := hr
    unfold RiseS at h1
    rw [ef, List.map_append, List.map_append, List.pairwise_append] at h1
    have h2 := (List.pairwise_append.1 h1.2.1).2.2 y.key (List.mem_map.2 ⟨y, List.mem_of_getLast? y1, rfl⟩) x.key (List.mem_map.2 ⟨x, hx, rfl⟩)
    rw [hxk, ← y2, hge] at h2
    cases h2
  · intro x hx
    obtain ⟨q, hq, hxq⟩ := List.mem_flatten.1 hx
    obtain ⟨m, hm⟩ := List.getElem?_of_mem hq
    have hmi : m < i := by
      have := (List.getElem?_eq_some_iff.1 hm).1
      rw [List.length_take] at this
      omega
    rw [List.getElem?_take_of_lt hmi] at hm
    have hmk : m < ks.length := by rw [hl]; exact (List.getElem?_eq_some_iff.1 hm).1
    have hsm := hs m _ q (List.getElem?_eq_getElem hmk) hm
    have hrq : RiseS (q.map Entry.key) := hr.sublist ((List.sublist_flatten_of_mem (List.mem_of_getElem? hm)).map _)
    have h1 := hk m _ hmi (List.getElem?_eq_getElem hmk)
    rcases sub_le hsm hrq x hxq with e | e
    · rw [e]; exact slt_ne' h1
    · exact slt_ne' (slt_trans e h1)
theorem rise_get {l : List Entry} (h : RiseS (l.map Entry.key)) : ∀ (i j : Nat) x y, i < j → l[i]? = some x → l[j]? = some y → slt x.key y.key = true := fun i j x y hij hx hy => by
  have h1 := List.pairwise_iff_getElem.1 h
  have hi := List.getElem?_eq_some_iff.1 hx
  have hj := List.getElem?_eq_some_iff.1 hy
  have := h1 i j (by simpa using hi.1) (by simpa using hj.1) hij
  simp only [List.getElem_map] at this
  rw [hi.2, hj.2] at this
  exact this
/-- What a search tells. -/
theorem bs_get {l : List Entry} {key : Str} {i : Nat} (hlo : ∀ (m : Nat) x, m < i → l[m]? = some x → slt x.key key = true) (hhi : ∀ (m : Nat) x, i ≤ m → l[m]? = some x → slt x.key key = false) (hr : RiseS (l.map Entry.key)) :
    (∃ x, l[i]? = some x ∧ x.key = key ∧ get l key = ⟨true, x.val⟩) ∨ ((hasAt l i key) = false ∧ get l key = ⟨false, ⟨#[]⟩⟩) := by
  by_cases h : ∃ x, l[i]? = some x ∧ x.key = key
  · obtain ⟨x, hx, hk⟩ := h
    exact .inl ⟨x, hx, hk, get_at key l i x hx hk fun m y hm hy => slt_ne' (hlo m y hm hy)⟩
  · right
    refine ⟨?_, get_no key l fun x hx hk => ?_⟩
    · unfold hasAt
      cases hi : l[i]? with
      | none => rfl
      | some x => exact decide_eq_false fun e => h ⟨x, hi, e⟩
    · obtain ⟨m, hm⟩ := List.getElem?_of_mem hx
      by_cases hmi : m < i
      · exact slt_ne' (hlo m x hmi hm) hk
      · by_cases hme : m = i
        · subst hme; exact h ⟨x, hm, hk⟩
        · have hil : i < l.length := by have := (List.getElem?_eq_some_iff.1 hm).1; omega
          have h1 := rise_get hr i m _ x (by omega) (List.getElem?_eq_getElem hil) hm
          rw [hk] at h1
          rw [hhi i _ (Nat.le_refl _) (List.getElem?_eq_getElem hil)] at h1
          cases h1
end Go.Proofs.YtikgplhcadomcaaGreat
