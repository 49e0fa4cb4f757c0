/- What comes of three maps; no program. -/
import Derived.Test.YtofdmkglhjpbcaaTurnsLaw
namespace Go.Proofs.Ytofdmkglhjpbcaa
open Go.RowKit
set_option linter.unusedVariables false
set_option linter.unusedSimpArgs false

structure Clash where
  key : Str
  base : Side
  ours : Side
  theirs : Side
deriving DecidableEq, Inhabited
def Clash.enc (x : Clash) : List Value := [.string x.key, .bool x.base.has, .string x.base.val, .bool x.ours.has, .string x.ours.val, .bool x.theirs.has, .string x.theirs.val]
theorem Clash.ok : Enc Clash.enc 7 := ⟨fun _ => rfl, fun x u hu => by simp [Clash.enc] at hu; rcases hu with rfl | rfl | rfl | rfl | rfl | rfl | rfl <;> rfl, by omega⟩
def noSide : Side := ⟨false, ⟨#[]⟩⟩
def plainS (s : Side) : Side := if s.has then s else noSide
def pickP (b o t : Side) : Side × Bool := if o = t ∨ t = b then (o, true) else if o = b then (t, true) else (o, false)
def entOf (k : Str) (p : Side × Bool) : List Entry := if p.1.has then [⟨k, p.1.val⟩] else []
def claOf (k : Str) (b o t : Side) (p : Side × Bool) : List Clash := if p.2 then [] else [⟨k, b, o, t⟩]
def entAt (b o t : List Entry) (k : Str) : List Entry := entOf k (pickP (get b k) (get o k) (get t k))
def claAt (b o t : List Entry) (k : Str) : List Clash := claOf k (get b k) (get o k) (get t k) (pickP (get b k) (get o k) (get t k))
def mergeE (b o t : List Entry) : List Entry := (keysOf [b, o, t]).flatMap (entAt b o t)
def mergeC (b o t : List Entry) : List Clash := (keysOf [b, o, t]).flatMap (claAt b o t)
def turnC (c : Clash) : Clash := ⟨c.key, c.base, c.theirs, c.ours⟩

theorem plain_get : ∀ (l : List Entry) (k : Str), plainS (get l k) = get l k
  | [], k => rfl
  | x :: l, k => by
    unfold get
    split
    · rfl
    · exact plain_get l k
theorem pick_ref (b o t : Side) : (if o = t then (o, true) else if o = b then (t, true) else (o, decide (t = b))) = pickP b o t := by
  unfold pickP
  by_cases h1 : o = t
  · simp [h1]
  · by_cases h2 : o = b
    · subst h2
      simp [h1, Ne.symm h1]
    · by_cases h3 : t = b
      · simp [h1, h2, h3]
      · simp [h1, h2, h3]
theorem plain_no {s : Side} (h : plainS s = s) (hh : s.has = false) : s = noSide := by
  rw [← h]; simp [plainS, hh]
theorem pick_one (b o t : Side) : (pickP b o t).1 = o ∨ (pickP b o t).1 = t := by unfold pickP; split <;> (try split) <;> simp
theorem pick_turn (b o t : Side) : (pickP b t o).2 = (pickP b o t).2 := by
  unfold pickP
  by_cases h1 : o = t
  · simp [h1]
  · by_cases h2 : o = b
    · subst h2
      simp only [h1, Ne.symm h1, false_or, or_true, true_or, if_true, if_false, true_and]
      try (split <;> rfl)
    · by_cases h3 : t = b
      · subst h3
        simp only [h1, Ne.symm h1, false_or, or_true, true_or, if_true, if_false, true_and]
        try (split <;> rfl)
      · simp [h1, h2, h3, Ne.symm h1]
theorem pick_turn1 {b o t : Side} (h : (pickP b o t).2 = true) : (pickP b t o).1 = (pickP b o t).1 := by
  unfold pickP at *
  by_cases h1 : o = t
  · simp [h1]
  · by_cases h2 : o = b
    · subst h2
      simp [h1, Ne.symm h1]
    · by_cases h3 : t = b
      · subst h3
        simp [h1, Ne.symm h1]
      · simp [h1, h2, h3] at h

theorem keys3_swap (b o t : List Entry) : keysOf [b, t, o] = keysOf [b, o, t] := srt_ext (srt_keysOf _) (srt_keysOf _) fun k => by
  rw [mem_keysOf, mem_keysOf]
  simp only [List.mem_cons, List.not_mem_nil, or_false, exists_eq_or_imp, exists_eq_left]
  constructor
  · rintro (h | h | h)
    · exact .inl h
    · exact .inr (.inr h)
    · exact .inr (.inl h)
  · rintro (h | h | h)
    · exact .inl h
    · exact .inr (.inr h)
    · exact .inr (.inl h)
theorem clashes_turn (b o t : List Entry) : mergeC b t o = (mergeC b o t).map turnC := by
  unfold mergeC
  rw [keys3_swap, List.map_flatMap]
  congr 1
  funext k
  unfold claAt claOf
  rw [pick_turn]
  split <;> rfl
theorem merge_turn {b o t : List Entry} (h : mergeC b o t = []) : mergeE b t o = mergeE b o t := by
  unfold mergeE
  rw [keys3_swap]
  unfold mergeC at h
  rw [List.flatMap_eq_nil_iff] at h
  generalize keysOf [b, o, t] = ks at *
  induction ks with
  | nil => rfl
  | cons k ks ih =>
    rw [List.flatMap_cons, List.flatMap_cons, ih (fun x hx => h x (by simp [hx]))]
    congr 1
    have := h k (by simp)
    unfold entAt entOf
    rw [pick_turn1]
    unfold claAt claOf at this
    split at this
    · assumption
    · cases this
theorem mem_entAt {b o t : List Entry} {k : Str} {x : Entry} (h : x ∈ entAt b o t k) : x.key = k := by
  unfold entAt entOf at h
  split at h
  · simp only [List.mem_singleton] at h; rw [h]
  · cases h
theorem ris_flat (b o t : List Entry) : ∀ {ks : List Str}, Srt ks → Ris (ks.flatMap (entAt b o t))
  | [], _ => List.Pairwise.nil
  | k :: ks, h => by
    obtain ⟨h1, h2⟩ := srt_cons.1 h
    rw [List.flatMap_cons]
    refine List.pairwise_append.2 ⟨?_, ris_flat b o t h2, ?_⟩
    · unfold entAt entOf; split <;> simp
    · intro x hx y hy
      obtain ⟨k', hk', hy'⟩ := List.mem_flatMap.1 hy
      rw [mem_entAt hx, mem_entAt hy']
      exact h1 k' hk'
theorem ris_merge (b o t : List Entry) : Ris (mergeE b o t) := ris_flat b o t (srt_keysOf _)
theorem opt_inj {s u : Side} (hs : plainS s = s) (hu : plainS u = u) (h : opt s = opt u) : s = u := by
  unfold opt at h
  cases e1 : s.has <;> cases e2 : u.has <;> simp [e1, e2] at h
  · rw [plain_no hs e1, plain_no hu e2]
  · cases s; cases u; simp_all
theorem get_ext {l m : List Entry} (hl : Ris l) (hm : Ris m) (h : ∀ k, get l k = get m k) : l = m :=
  ris_ext hl hm fun x => by
    have h1 := opt_get (l := l) (k := x.key) (v := x.val) hl
    have h2 := opt_get (l := m) (k := x.key) (v := x.val) hm
    rw [← h1, ← h2, h]
theorem plain_pick {b o t : Side} (ho : plainS o = o) (ht : plainS t = t) : plainS (pickP b o t).1 = (pickP b o t).1 := by
  rcases pick_one b o t with h | h <;> rw [h] <;> assumption
theorem get_merge (b o t : List Entry) (k : Str) : get (mergeE b o t) k = (pickP (get b k) (get o k) (get t k)).1 := by
  refine opt_inj (plain_get _ _) (plain_pick (plain_get _ _) (plain_get _ _)) ?_
  apply Option.ext
  intro v
  rw [opt_get (ris_merge b o t)]
  unfold mergeE
  rw [List.mem_flatMap]
  constructor
  · rintro ⟨k', hk', hx⟩
    have := mem_entAt hx
    simp only at this
    subst this
    unfold entAt entOf at hx
    unfold opt
    split at hx
    · rename_i hh
      simp only [List.mem_singleton, Entry.mk.injEq, true_and] at hx
      rw [if_pos hh, hx]
    · cases hx
  · intro h
    refine ⟨k, ?_, ?_⟩
    · refine Classical.byContradiction fun hn => ?_
      rw [mem_keysOf] at hn
      have n1 : ¬ k ∈ keyList b := fun e => hn ⟨b, by simp, e⟩
      have n2 : ¬ k ∈ keyList o := fun e => hn ⟨o, by simp, e⟩
      have n3 : ¬ k ∈ keyList t := fun e => hn ⟨t, by simp, e⟩
      rw [get_none n1, get_none n2, get_none n3] at h
      simp [pickP, opt] at h
    · unfold opt at h
      unfold entAt entOf
      split at h
      · rename_i hh
        injection h with h
        rw [if_pos hh, h]
        simp
      · cases h
theorem pick_bob (b o : Side) : pickP b o b = (o, true) := by simp [pickP]
theorem pick_bbt (b t : Side) : pickP b b t = (t, true) := by
  unfold pickP
  by_cases h : b = t
  · simp [h]
  · simp [h, Ne.symm h]
theorem pick_baa (b a : Side) : pickP b a a = (a, true) := by simp [pickP]
theorem no_clash {b o t : List Entry} (h : ∀ k, (pickP (get b k) (get o k) (get t k)).2 = true) : mergeC b o t = [] := by
  unfold mergeC
  rw [List.flatMap_eq_nil_iff]
  intro k _
  unfold claAt claOf
  rw [h k]; rfl
theorem merge_bob {b o : List Entry} (ho : Ris o) : mergeE b o b = o ∧ mergeC b o b = [] :=
  ⟨get_ext (ris_merge _ _ _) ho fun k => by rw [get_merge, pick_bob], no_clash fun k => by rw [pick_bob]⟩
theorem merge_bbt {b t : List Entry} (ht : Ris t) : mergeE b b t = t ∧ mergeC b b t = [] :=
  ⟨get_ext (ris_merge _ _ _) ht fun k => by rw [get_merge, pick_bbt], no_clash fun k => by rw [pick_bbt]⟩
theorem merge_baa {b a : List Entry} (ha : Ris a) : mergeE b a a = a ∧ mergeC b a a = [] :=
  ⟨get_ext (ris_merge _ _ _) ha fun k => by rw [get_merge, pick_baa], no_clash fun k => by rw [pick_baa]⟩
theorem get_same {b o t : List Entry} {k : Str} (h : get o k = get b k) : get (mergeE b o t) k = get t k := by rw [get_merge, h, pick_bbt]
theorem get_own {b o t : List Entry} {k : Str} (h : get t k = get b k) : get (mergeE b o t) k = get o k := by rw [get_merge, h, pick_bob]
theorem flat_len_le {α : Type} (f : Str → List α) (h : ∀ k, (f k).length ≤ 1) : ∀ ks : List Str, (ks.flatMap f).length ≤ ks.length
  | [] => Nat.le_refl _
  | k :: ks => by
    rw [List.flatMap_cons, List.length_append, List.length_cons]
    have := flat_len_le f h ks
    have := h k
    omega
theorem ent_len (b o t : List Entry) (k : Str) : (entAt b o t k).length ≤ 1 := by unfold entAt entOf; split <;> simp
theorem cla_len (b o t : List Entry) (k : Str) : (claAt b o t k).length ≤ 1 := by unfold claAt claOf; split <;> simp
theorem keys3_len (b o t : List Entry) : (keysOf [b, o, t]).length ≤ b.length + o.length + t.length := by
  have ks : ∀ (l : List Entry) (acc : List Str), (keysIn acc l).length ≤ acc.length + l.length := by
    intro l
    induction l with
    | nil => intro acc; simp [keysIn]
    | cons x l ih =>
      intro acc
      have h2 := insKey_len acc x.key
      have h1 := ih (insKey acc x.key)
      have e : keysIn acc (x :: l) = keysIn (insKey acc x.key) l := rfl
      rw [e]
      simp
      omega
  have h1 := ks t (keysIn (keysIn [] b) o)
  have h2 := ks o (keysIn [] b)
  have h3 := ks b []
  have e : keysOf [b, o, t] = keysIn (keysIn (keysIn [] b) o) t := rfl
  rw [e]
  simp at h3
  omega
theorem mergeE_len (b o t : List Entry) : (mergeE b o t).length ≤ b.length + o.length + t.length := Nat.le_trans (flat_len_le _ (ent_len b o t) _) (keys3_len b o t)
theorem mergeC_len (b o t : List Entry) : (mergeC b o t).length ≤ b.length + o.length + t.length := Nat.le_trans (flat_len_le _ (cla_len b o t) _) (keys3_len b o t)
end Go.Proofs.Ytofdmkglhjpbcaa
