/- Maps whose keys are ints, in this claim's own words. No program is named here. -/
import Derived.Test.YtglpckdmiohciaaBase
import Derived.MapKept
namespace Go.Proofs.Ytglpckdmiohciaa
open Go.RowKit
set_option linter.unusedVariables false
set_option linter.unusedSimpArgs false

section
variable {α : Type}
/-- What stands at key k, and where. -/
def at? (k : Int) : List (Int × α) → Nat → Option (Nat × α)
  | [], _ => none
  | p :: l, i => if k = p.1 then some (i, p.2) else at? k l (i + 1)
/-- What stands at key k. -/
def look (L : List (Int × α)) (k : Int) : Option α := (at? k L 0).map (·.2)
def MapI (w : World) (b : Nat) (enc : α → Value) (L : List (Int × α)) : Prop :=
  ∃ es clock, w.heap[b]? = some (.map es clock) ∧ es.toList.map (fun e => (e.key, e.val)) = L.map (fun p => (Value.int .i64 p.1, enc p.2)) ∧ (L.map (·.1)).Nodup
theorem at_shift (k : Int) : ∀ (L : List (Int × α)) (i j : Nat), (at? k L (i + j)) = (at? k L i).map (fun p => (p.1 + j, p.2))
  | [], _, _ => rfl
  | p :: l, i, j => by
    unfold at?
    split
    · rfl
    · rw [show i + j + 1 = (i + 1) + j from by omega, at_shift k l (i + 1) j]
theorem look_cons (p : Int × α) (L : List (Int × α)) (k : Int) : look (p :: L) k = if k = p.1 then some p.2 else look L k := by
  unfold look
  rw [at?]
  split
  · rfl
  · rw [show (0 : Nat) + 1 = 0 + 1 from rfl, at_shift k L 0 1]
    cases at? k L 0 <;> rfl
theorem findNow_int (enc : α → Value) (q : IntKind) (k : Int) : ∀ (L : List (Int × α)) (es : List MapEntry) (i : Nat), es.map (fun e => (e.key, e.val)) = L.map (fun p => (Value.int .i64 p.1, enc p.2)) →
    Instr.findNow (.int q) (.int .i64 k) es i = some ((at? k L i).map (fun p => (p.1, enc p.2)))
  | [], es, i, h => by
    cases es with
    | nil => rfl
    | cons e es => simp at h
  | p :: L, es, i, h => by
    cases es with
    | nil => simp at h
    | cons e es =>
      simp only [List.map_cons, List.cons.injEq, Prod.mk.injEq] at h
      obtain ⟨⟨h1, h2⟩, h3⟩ := h
      unfold Instr.findNow at?
      rw [h1]
      simp only [Instr.sameNow, if_true]
      by_cases hk : k = p.1
      · simp [hk, h2]
      · have : (k == p.1) = false := by simpa using hk
        simp only [this, if_neg hk]
        exact findNow_int enc q k L es (i + 1) h3

variable {P : Program} {w : World} {b : Nat} {enc : α → Value} {L : List (Int × α)} {t kt et : TypeId}
theorem MapI.lt (h : MapI w b enc L) : b < w.heap.size := by obtain ⟨es, c, hb, _⟩ := h; exact (Array.getElem?_eq_some_iff.1 hb).1
theorem MapI.below {w' : World} {B : Nat} (h : MapI w b enc L) (hb : Below B w w') (hB : b < B) : MapI w' b enc L := by
  obtain ⟨es, c, h1, r⟩ := h
  exact ⟨es, c, by rw [hb.block b hB]; exact h1, r⟩
theorem MapI.grown {w' : World} {row : Option Nat} (h : MapI w b enc L) (hg : w.grownBy w' row) (hne : some b ≠ row) : MapI w' b enc L := by
  have hlt := h.lt
  obtain ⟨es, c, h1, r⟩ := h
  exact ⟨es, c, by rw [hg.block b hlt hne]; exact h1, r⟩
theorem MapI.nodup (h : MapI w b enc L) : (L.map (·.1)).Nodup := h.choose_spec.choose_spec.2.2
theorem run_look (ht : P.underlying t = some (.map kt et)) (hk : P.underlying kt = some (.int .i64)) (z : Value) (hz : (zeroValue et).run P w = .ok z w) (h : MapI w b enc L) (k : Int) :
    (Instr.lookup t (.map (some b)) (.int .i64 k) false).run P w = .ok (((look L k).map enc).getD z) w := by
  obtain ⟨es, c, hb, he, hn⟩ := h
  have hf := MapKept.run_findKey (P := P) (w := w) hk (findNow_int enc .i64 k L es.toList 0 he)
  unfold look
  simp only [Instr.lookup, Sem.run_bind, run_underlying ht, Result.andThen_ok, MapKept.run_getObj_map hb, Sem.run_pure, MapKept.run_checkKey hk (show MapKept.IsKey (.int .i64) (.int .i64 k) from by simp [MapKept.IsKey]) es.isEmpty 9999, hf]
  cases at? k L 0 with
  | none => simp [hz]
  | some p => simp

/-- The list behind a store at k. -/
def upd (L : List (Int × α)) (k : Int) (x : α) : List (Int × α) := match at? k L 0 with
  | some (j, _) => L.set j (k, x)
  | none => L ++ [(k, x)]
def del (L : List (Int × α)) (k : Int) : List (Int × α) := match at? k L 0 with
  | some (j, _) => L.eraseIdx j
  | none => L
theorem at_spec (k : Int) : ∀ (L : List (Int × α)), (at? k L 0 = none ∧ ∀ p ∈ L, p.1 ≠ k) ∨ ∃ j x, at? k L 0 = some (j, x) ∧ L[j]? = some (k, x)
  | [] => .inl ⟨rfl, fun p hp => by cases hp⟩
  | p :: L => by
    unfold at?
    by_cases hk : k = p.1
    · right
      exact ⟨0, p.2, by rw [if_pos hk], by rw [hk]; rfl⟩
    · rw [if_neg hk, at_shift k L 0 1]
      rcases at_spec k L with ⟨h1, h2⟩ | ⟨j, x, h1, h2⟩
      · left
        refine ⟨by rw [h1]; rfl, fun q hq => ?_⟩
        rcases List.mem_cons.1 hq with rfl | hq
        · exact fun e => hk e.symm
        · exact h2 q hq
      · right
        exact ⟨j + 1, x, by rw [h1]; rfl, by simpa using h2⟩
theorem look_none {k : Int} {L : List (Int × α)} (h : ∀ p ∈ L, p.1 ≠ k) : look L k = none := by
  rcases at_spec k L with ⟨h1, _⟩ | ⟨j, x, _, h2⟩
  · simp [look, h1]
  · exact absurd rfl (h _ (List.mem_of_getElem? h2))
theorem look_some {k : Int} {x : α} {L : List (Int × α)} (hn : (L.map (·.1)).Nodup) (h : (k, x) ∈ L) : look L k = some x := by
  rcases at_spec k L with ⟨h1, h2⟩ | ⟨j, y, h1, h2⟩
  · exact absurd rfl (h2 _ h)
  · have hm := List.mem_of_getElem? h2
    have : x = y := by
      clear h1 h2
      induction L with
      | nil => cases h
      | cons p L ih =>
        simp only [List.map_cons, List.nodup_cons] at hn
        rcases List.mem_cons.1 h with rfl | h'
        · rcases List.mem_cons.1 hm with e | hm
          · cases e; rfl
          · exact (hn.1 (List.mem_map.2 ⟨_, hm, rfl⟩)).elim
        · rcases List.mem_cons.1 hm with e | hm
          · cases e; exact (hn.1 (List.mem_map.2 ⟨_, h', rfl⟩)).elim
          · exact ih hn.2 h' hm
    simp [look, h1, this]

theorem at_parts (k : Int) (L : List (Int × α)) : at? k L 0 = none ∧ (∀ p ∈ L, p.1 ≠ k) ∨ ∃ A x B, L = A ++ (k, x) :: B ∧ at? k L 0 = some (A.length, x) := by
  rcases at_spec k L with h | ⟨j, x, h1, h2⟩
  · exact .inl h
  · right
    obtain ⟨hj, he⟩ := List.getElem?_eq_some_iff.1 h2
    refine ⟨L.take j, x, L.drop (j + 1), ?_, by rw [h1, List.length_take]; congr 2; omega⟩
    rw [← he, ← List.drop_eq_getElem_cons hj, List.take_append_drop]
theorem nodup_mid {A B : List (Int × α)} {k : Int} {x : α} (h : ((A ++ (k, x) :: B).map (·.1)).Nodup) : (∀ p ∈ A ++ B, p.1 ≠ k) ∧ ((A ++ B).map (·.1)).Nodup := by
  simp only [List.map_append, List.map_cons, List.nodup_append, List.nodup_cons, List.mem_cons, List.mem_map] at h ⊢
  obtain ⟨h1, ⟨h2, h3⟩, h4⟩ := h
  refine ⟨fun p hp e => ?_, h1, h3, fun a ha b hb => h4 a ha b (.inr hb)⟩
  rcases List.mem_append.1 hp with hp | hp
  · exact h4 p.1 ⟨p, hp, rfl⟩ k (.inl rfl) e
  · exact h2 ⟨p, hp, e⟩
theorem upd_nodup {L : List (Int × α)} (h : (L.map (·.1)).Nodup) (k : Int) (x : α) : ((upd L k x).map (·.1)).Nodup := by
  unfold upd
  rcases at_parts k L with ⟨h1, h2⟩ | ⟨A, y, B, rfl, h1⟩
  · rw [h1]
    simp only [List.map_append, List.nodup_append]
    refine ⟨h, by simp, fun a ha b hb e => ?_⟩
    obtain ⟨p, hp, rfl⟩ := List.mem_map.1 ha
    simp at hb
    exact h2 p hp (e.trans hb)
  · rw [h1]
    simpa using h
theorem del_nodup {L : List (Int × α)} (h : (L.map (·.1)).Nodup) (k : Int) : ((del L k).map (·.1)).Nodup := by
  unfold del
  rcases at_parts k L with ⟨h1, h2⟩ | ⟨A, y, B, rfl, h1⟩
  · rw [h1]; exact h
  · rw [h1]
    simp only [List.eraseIdx_append_of_length_le (Nat.le_refl _), Nat.sub_self, List.eraseIdx_cons_zero]
    exact (nodup_mid h).2
theorem look_iff {L : List (Int × α)} (hn : (L.map (·.1)).Nodup) (k : Int) (x : α) : look L k = some x ↔ (k, x) ∈ L := by
  constructor
  · intro h
    rcases at_spec k L with ⟨h1, _⟩ | ⟨j, y, h1, h2⟩
    · simp [look, h1] at h
    · simp [look, h1] at h
      subst h
      exact List.mem_of_getElem? h2
  · exact look_some hn
theorem look_upd {L : List (Int × α)} (hn : (L.map (·.1)).Nodup) (k : Int) (x : α) (j : Int) : look (upd L k x) j = if j = k then some x else look L j := by
  by_cases hj : j = k
  · subst hj
    rw [if_pos rfl]
    refine look_some (upd_nodup hn _ _) ?_
    unfold upd
    rcases at_parts j L with ⟨h1, h2⟩ | ⟨A, y, B, rfl, h1⟩
    · rw [h1]; simp
    · rw [h1]; simp
  · rw [if_neg hj]
    have key : ∀ y, look (upd L k x) j = some y ↔ look L j = some y := by
      intro y
      rw [look_iff (upd_nodup hn _ _), look_iff hn]
      unfold upd
      rcases at_parts k L with ⟨h1, h2⟩ | ⟨A, z, B, rfl, h1⟩
      · rw [h1]; simp [hj]
      · rw [h1]; simp [hj]
    cases h : look L j with
    | some y => exact (key y).2 h
    | none =>
      cases h2 : look (upd L k x) j with
      | none => rfl
      | some y => rw [(key y).1 h2] at h; cases h
theorem look_del {L : List (Int × α)} (hn : (L.map (·.1)).Nodup) (k : Int) (j : Int) : look (del L k) j = if j = k then none else look L j := by
  by_cases hj : j = k
  · subst hj
    rw [if_pos rfl]
    refine look_none fun p hp => ?_
    unfold del at hp
    rcases at_parts j L with ⟨h1, h2⟩ | ⟨A, y, B, rfl, h1⟩
    · rw [h1] at hp; exact h2 p hp
    · rw [h1] at hp
      simp only [List.eraseIdx_append_of_length_le (Nat.le_refl _), Nat.sub_self, List.eraseIdx_cons_zero] at hp
      exact (nodup_mid hn).1 p hp
  · rw [if_neg hj]
    have key : ∀ y, look (del L k) j = some y ↔ look L j = some y := by
      intro y
      rw [look_iff (del_nodup hn _), look_iff hn]
      unfold del
      rcases at_parts k L with ⟨h1, h2⟩ | ⟨A, z, B, rfl, h1⟩
      · rw [h1]
      · rw [h1]
        simp only [List.eraseIdx_append_of_length_le (Nat.le_refl _), Nat.sub_self, List.eraseIdx_cons_zero]
        simp [hj]
    cases h : look L j with
    | some y => exact (key y).2 h
    | none =>
      cases h2 : look (del L k) j with
      | none => rfl
      | some y => rw [(key y).1 h2] at h; cases h

theorem map_erase {β γ : Type} (f : β → γ) (l : List β) (i : Nat) : (l.eraseIdx i).map f = (l.map f).eraseIdx i := by
  simp [List.eraseIdx_eq_take_drop_succ, List.map_take, List.map_drop]
theorem mapI_set {w : World} {b : Nat} {es es' : Array MapEntry} {clock clock' : Nat} {L' : List (Int × α)} (hb : w.heap[b]? = some (.map es clock))
    (he : es'.toList.map (fun e => (e.key, e.val)) = L'.map (fun p => (Value.int .i64 p.1, enc p.2))) (hn : (L'.map (·.1)).Nodup) :
    MapI { w with heap := w.heap.setIfInBounds b (.map es' clock') } b enc L' ∧ w.grownBy { w with heap := w.heap.setIfInBounds b (.map es' clock') } (some b) := by
  have hlt := (Array.getElem?_eq_some_iff.1 hb).1
  refine ⟨⟨es', clock', by simp [Array.getElem?_setIfInBounds, hlt], he, hn⟩, rfl, rfl, rfl, by simp, fun k hk hne => ?_⟩
  show (w.heap.setIfInBounds b _)[k]? = _
  rw [Array.getElem?_setIfInBounds_ne (fun e => hne (by rw [e]))]
theorem run_upd (ht : P.underlying t = some (.map kt et)) (hk : P.underlying kt = some (.int .i64)) (h : MapI w b enc L) (k : Int) (x : α) :
    ∃ w', (Instr.mapUpdate t (.map (some b)) (.int .i64 k) (enc x)).run P w = .ok () w' ∧ MapI w' b enc (upd L k x) ∧ w.grownBy w' (some b) := by
  obtain ⟨es, c, hb, he, hn⟩ := h
  have hf := MapKept.run_findKey (P := P) (w := w) hk (findNow_int enc .i64 k L es.toList 0 he)
  have hck := fun e => MapKept.run_checkKey (P := P) (w := w) hk (show MapKept.IsKey (.int .i64) (.int .i64 k) from by simp [MapKept.IsKey]) e 9999
  have hnu := upd_nodup hn k x
  unfold upd at hnu ⊢
  rcases at_parts k L with ⟨h1, h2⟩ | ⟨A, y, B, rfl, h1⟩
  · rw [h1] at hf hnu ⊢
    obtain ⟨m1, m2⟩ := mapI_set (enc := enc) (clock' := c + 1) (es' := es.push { key := .int .i64 k, val := enc x, born := c }) hb (by simp [he]) hnu
    refine ⟨_, ?_, m1, m2⟩
    simp [Instr.mapUpdate, Sem.run_bind, run_underlying ht, MapKept.run_getObj_map hb, hck, hf, MapKept.run_setObj_map _ hb]
  · rw [h1] at hf hnu ⊢
    have hlen : es.toList.length = (A ++ (k, y) :: B).length := by have := congrArg List.length he; simpa using this
    have hi : A.length < es.toList.length := by rw [hlen]; simp
    have hkey : (es.toList[A.length]'hi).key = .int .i64 k := by
      have := congrArg (fun l => l[A.length]?) he
      simp [List.getElem?_map, List.getElem?_eq_getElem hi] at this
      exact this.1
    have hi2 : A.length < es.size := by simpa using hi
    have hkey2 : es[A.length].key = .int .i64 k := by simpa using hkey
    obtain ⟨m1, m2⟩ := mapI_set (enc := enc) (clock' := c) (es' := es.modify A.length fun e => { e with key := .int .i64 k, val := enc x }) (L' := (A ++ (k, y) :: B).set A.length (k, x)) hb (by
      rw [Array.toList_modify]
      have e1 : ((A ++ (k, y) :: B).set A.length (k, x)).map (fun p => (Value.int .i64 p.1, enc p.2)) = ((A ++ (k, y) :: B).map (fun p => (Value.int .i64 p.1, enc p.2))).set A.length (.int .i64 k, enc x) := by simp
      rw [e1, ← he]
      apply List.ext_getElem?
      intro j
      simp only [List.getElem?_map, List.getElem?_modify, List.getElem?_set, List.length_map]
      by_cases hj : A.length = j
      · subst hj; simp [List.getElem?_eq_getElem hi, hi2]
      · simp [hj]) hnu
    refine ⟨_, ?_, m1, m2⟩
    simp [Instr.mapUpdate, Sem.run_bind, run_underlying ht, MapKept.run_getObj_map hb, hck, hf, MapKept.run_setObj_map _ hb, Instr.keyThatStays, hi2, hkey2, Instr.sameBits]
theorem run_del (ht : P.underlying t = some (.map kt et)) (hk : P.underlying kt = some (.int .i64)) (h : MapI w b enc L) (k : Int) (ty : TypeId) :
    ∃ w', (Builtin.delete_ #[t, kt] ty #[.map (some b), .int .i64 k]).run P w = .ok (.tuple #[]) w' ∧ MapI w' b enc (del L k) ∧ w.grownBy w' (some b) := by
  obtain ⟨es, c, hb, he, hn⟩ := h
  have hf := MapKept.run_findKey (P := P) (w := w) hk (findNow_int enc .i64 k L es.toList 0 he)
  have hck := fun e => MapKept.run_checkKey (P := P) (w := w) hk (show MapKept.IsKey (.int .i64) (.int .i64 k) from by simp [MapKept.IsKey]) e 9999
  have hnu := del_nodup hn k
  unfold del at hnu ⊢
  rcases at_parts k L with ⟨h1, h2⟩ | ⟨A, y, B, rfl, h1⟩
  · rw [h1] at hf hnu ⊢
    obtain ⟨m1, m2⟩ := mapI_set (enc := enc) (clock' := c) (es' := es) hb he hnu
    refine ⟨_, ?_, m1, m2⟩
    simp [Builtin.delete_, Sem.run_bind, run_underlying ht, MapKept.run_getObj_map hb, hck, hf, MapKept.run_setObj_map _ hb]
  · rw [h1] at hf hnu ⊢
    have hlen : es.toList.length = (A ++ (k, y) :: B).length := by have := congrArg List.length he; simpa using this
    obtain ⟨m1, m2⟩ := mapI_set (enc := enc) (clock' := c) (es' := es.eraseIdxIfInBounds A.length) (L' := (A ++ (k, y) :: B).eraseIdx A.length) hb (by
      rw [Array.toList_eraseIdxIfInBounds, map_erase, he, ← map_erase]) hnu
    refine ⟨_, ?_, m1, m2⟩
    simp [Builtin.delete_, Sem.run_bind, run_underlying ht, MapKept.run_getObj_map hb, hck, hf, MapKept.run_setObj_map _ hb]
end
end Go.Proofs.Ytglpckdmiohciaa
