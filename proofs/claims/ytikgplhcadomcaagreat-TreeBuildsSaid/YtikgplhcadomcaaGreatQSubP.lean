/- Parts of a tree: plain -/
import Derived.Test.YtikgplhcadomcaaGreatQShapeP
namespace Go.Proofs.YtikgplhcadomcaaGreat
open Go.RowKit
set_option linter.unusedVariables false
set_option linter.unusedSimpArgs false
/-- The kid k of a level has the entries l below it. -/
def SubT (C : List (List Int)) : Nat → Kid → List Entry → Prop
  | 0, k, l => NodeOk ⟨0, l, []⟩ ∧ tellT C k.id = some (NodeP.bytes ⟨0, l, []⟩) ∧ k.last = NodeP.last ⟨0, l, []⟩
  | n + 1, k, l => ∃ (ks : List Kid) (ps : List (List Entry)), NodeOk ⟨((n + 1 : Nat) : Int), [], ks⟩ ∧ tellT C k.id = some (NodeP.bytes ⟨((n + 1 : Nat) : Int), [], ks⟩) ∧ k.last = NodeP.last ⟨((n + 1 : Nat) : Int), [], ks⟩ ∧ ks.length = ps.length ∧ ps.flatten = l ∧ ∀ (i : Nat) k' p, ks[i]? = some k' → ps[i]? = some p → SubT C n k' p
theorem parts_cut {α β : Type} : ∀ (rows : List (List α)) (ps : List β), rows.flatten.length = ps.length → ∃ qs : List (List β), qs.flatten = ps ∧ qs.length = rows.length ∧ ∀ (i : Nat) r q, rows[i]? = some r → qs[i]? = some q → r.length = q.length ∧ ∀ (j : Nat), ∃ m : Nat, rows.flatten[m]? = r[j]? ∧ ps[m]? = q[j]?
  | [], ps, h => ⟨[], by simpa using h.symm, rfl, fun i r q hr => by simp at hr⟩
  | r0 :: rows, ps, h => by
    simp only [List.flatten_cons, List.length_append] at h
    obtain ⟨qs, h1, h2, h3⟩ := parts_cut rows (ps.drop r0.length) (by rw [List.length_drop]; omega)
    refine ⟨ps.take r0.length :: qs, by rw [List.flatten_cons, h1, List.take_append_drop], by simp [h2], fun i r q hr hq => ?_⟩
    cases i with
    | zero =>
      simp only [List.getElem?_cons_zero, Option.some.injEq] at hr hq
      subst hr hq
      refine ⟨by rw [List.length_take]; omega, fun j => ?_⟩
      by_cases hj : j < r0.length
      · exact ⟨j, by rw [List.flatten_cons, List.getElem?_append_left hj], by rw [List.getElem?_take_of_lt hj]⟩
      · refine ⟨(r0 :: rows).flatten.length, ?_, ?_⟩
        · rw [List.getElem?_eq_none (Nat.le_refl _), List.getElem?_eq_none (by omega)]
        · rw [List.getElem?_eq_none (by rw [List.flatten_cons, List.length_append]; omega), List.getElem?_eq_none (by rw [List.length_take]; omega)]
    | succ i =>
      simp only [List.getElem?_cons_succ] at hr hq
      obtain ⟨k1, k2⟩ := h3 i r q hr hq
      refine ⟨k1, fun j => ?_⟩
      obtain ⟨m, m1, m2⟩ := k2 j
      refine ⟨r0.length + m, ?_, ?_⟩
      · rw [List.flatten_cons, List.getElem?_append_right (by omega), Nat.add_sub_cancel_left]; exact m1
      · rw [← m2, List.getElem?_drop]
theorem tower_subs {C : List (List Int)} {E : List Entry} (hm : MapOk E) (hC : (C.length : Int) ≤ 4095) : ∀ (T : List (List Kid)) (ks : List Kid), Tower C (ks :: T) E → T.length ≤ 20 → ∃ ps : List (List Entry), ps.length = ks.length ∧ ps.flatten = E ∧ ∀ (i : Nat) k p, ks[i]? = some k → ps[i]? = some p → SubT C T.length k p
  | [], ks, h, hT => by
    refine ⟨splitE E, ?_, splitE_flat E, fun i k p hk hp => ?_⟩
    · have := h.1; simpa [leafNs] using this.symm
    · have hn : (leafNs (splitE E))[i]? = some ⟨0, p, []⟩ := by unfold leafNs; rw [List.getElem?_map, hp]; rfl
      obtain ⟨h1, h2, -⟩ := h.2 i _ k hn hk
      exact ⟨leaf_ok hm _ (List.mem_of_getElem? hn), h2, h1⟩
  | ks' :: T, ks, h, hT => by
    have hT' : T.length ≤ 20 := by simp at hT; omega
    obtain ⟨ps, p1, p2, p3⟩ := tower_subs hm hC T ks' h.2 hT'
    obtain ⟨qs, q1, q2, q3⟩ := parts_cut (groupK (T.length + 1) ks') ps (by rw [groupK_flat, p1])
    refine ⟨qs.map List.flatten, ?_, ?_, fun i k p hk hp => ?_⟩
    · rw [List.length_map, q2]
      have := h.1.1
      simpa [innerNs] using this.symm
    · rw [← p2, ← q1]
      clear q1 q2 q3
      induction qs with
      | nil => rfl
      | cons q qs ih => simp [ih]
    · rw [List.getElem?_map] at hp
      cases hq : qs[i]? with
      | none => rw [hq] at hp; cases hp
      | some q =>
        rw [hq] at hp
        simp only [Option.map_some, Option.some.injEq] at hp
        subst hp
        have hi : i < (groupK (T.length + 1) ks').length := by rw [← q2]; exact (List.getElem?_eq_some_iff.1 hq).1
        have hr : (groupK (T.length + 1) ks')[i]? = some (groupK (T.length + 1) ks')[i] := List.getElem?_eq_getElem hi
        generalize (groupK (T.length + 1) ks')[i] = r at *
        have hn : (innerNs (T.length + 1) (groupK (T.length + 1) ks'))[i]? = some ⟨((T.length + 1 : Nat) : Int), [], r⟩ := by unfold innerNs; rw [List.getElem?_map, hr]; rfl
        obtain ⟨h1, h2, -⟩ := h.1.2 i _ k hn hk
        obtain ⟨k1, k2⟩ := q3 i r q hr hq
        refine ⟨r, q, inner_ok ⟨by omega, by simpa using hT⟩ (tower_good hm h.2) (tower_kids h.2 hC) _ (List.mem_of_getElem? hn), h2, h1, k1, rfl, fun j k' p hk' hp => ?_⟩
        obtain ⟨m, m1, m2⟩ := k2 j
        rw [groupK_flat] at m1
        exact p3 m k' p (by rw [m1]; exact hk') (by rw [m2]; exact hp)
/-- A tree that was built is one part. -/
theorem tower_sub {C : List (List Int)} {E : List Entry} {T : List (List Kid)} {k : Kid} (hm : MapOk E) (hC : (C.length : Int) ≤ 4095) (h : Tower C ([k] :: T) E) (hT : T.length ≤ 20) : SubT C T.length k E := by
  obtain ⟨ps, p1, p2, p3⟩ := tower_subs hm hC T [k] h hT
  obtain ⟨p, rfl⟩ : ∃ p, ps = [p] := by
    rcases ps with _ | ⟨p, _ | ⟨p2, ps⟩⟩
    · simp at p1
    · exact ⟨p, rfl⟩
    · simp at p1
  have := p3 0 k p rfl rfl
  simp at p2
  rw [← p2]
  exact this
theorem ok_ne {n : NodeP} (h : NodeOk n) : n.ents ≠ [] ∨ n.kids ≠ [] := by
  have z4 := (right_zero h.right).2.2.2.1
  by_cases hl : 0 < n.level
  · rw [if_pos hl] at z4
    exact .inr fun e => z4 (by rw [e]; rfl)
  · rw [if_neg hl] at z4
    exact .inl fun e => z4 (by rw [e]; rfl)
end Go.Proofs.YtikgplhcadomcaaGreat
