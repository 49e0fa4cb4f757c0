/- What a crash keeps: plain laws, no program. -/
import Derived.Test.YtglpckdmiohciaaDevNone
namespace Go.Proofs.Ytglpckdmiohciaa
open Go.RowKit
set_option linter.unusedVariables false
set_option linter.unusedSimpArgs false

def kv (K : List (Int × Sec)) (j : Int) : Sec := (look K j).getD sec0
def Nd (K : List (Int × Sec)) : Prop := (K.map (·.1)).Nodup
theorem keepL_nd {K : List (Int × Sec)} (h : Nd K) (x : Wr) (n : Nat) : Nd (keepL K x n) := by
  unfold keepL
  split
  · exact del_nodup h _
  · exact upd_nodup h _ _
theorem keepL_kv {K : List (Int × Sec)} (h : Nd K) (x : Wr) (n : Nat) (j : Int) : kv (keepL K x n) j = if j = x.pos then overS n x.b (kv K x.pos) else kv K j := by
  unfold keepL
  split
  · rename_i hz
    unfold kv
    rw [look_del h]
    by_cases hj : j = x.pos
    · rw [if_pos hj, if_pos hj, hz]
      rfl
    · rw [if_neg hj, if_neg hj]
  · unfold kv
    rw [look_upd h]
    by_cases hj : j = x.pos
    · rw [if_pos hj, if_pos hj]
      rfl
    · rw [if_neg hj, if_neg hj]
theorem overS_full (a b : Sec) : overS 32 a b = a := by
  apply Subtype.ext
  show a.1.take 32 ++ b.1.drop 32 = a.1
  rw [List.take_of_length_le (by rw [a.2.1]; omega), List.drop_of_length_le (by rw [b.2.1]; omega), List.append_nil]
theorem crashL_nd (f : Fate) : ∀ (l : List Wr) (i : Nat) (K : List (Int × Sec)), Nd K → Nd (crashL f i K l)
  | [], _, _, h => h
  | x :: l, i, K, h => by
    rw [crashL]
    refine crashL_nd f l _ _ ?_
    split
    · exact keepL_nd h _ _
    · split
      · exact keepL_nd h _ _
      · exact h
theorem crash_kv (f : Fate) (j : Int) : ∀ (l : List Wr) (i : Nat) (K : List (Int × Sec)), Nd K → (∀ k x, l[k]? = some x → ((i + k : Nat) : Int) = f.torn → x.pos ≠ j) →
    kv (crashL f i K l) j = kv K j ∨ ∃ x ∈ l, x.pos = j ∧ kv (crashL f i K l) j = x.b
  | [], _, _, _, _ => .inl rfl
  | x :: l, i, K, h, hj => by
    rw [crashL]
    have ih := fun K' hK' => crash_kv f j l (i + 1) K' hK' (fun k y hy he => hj (k + 1) y (by simpa using hy) (by omega))
    have up : ∀ K', Nd K' → (kv K' j = kv K j ∨ (x.pos = j ∧ kv K' j = x.b)) → (kv (crashL f (i + 1) K' l) j = kv K j ∨ ∃ y ∈ x :: l, y.pos = j ∧ kv (crashL f (i + 1) K' l) j = y.b) := fun K' hK' hc => by
      rcases ih K' hK' with e | ⟨y, hy, e1, e2⟩
      · rcases hc with c | ⟨c1, c2⟩
        · exact .inl (e.trans c)
        · exact .inr ⟨x, List.mem_cons_self, c1, e.trans c2⟩
      · exact .inr ⟨y, List.mem_cons_of_mem _ hy, e1, e2⟩
    by_cases ht : (i : Int) = f.torn
    · rw [if_pos ht]
      refine up _ (keepL_nd h _ _) (.inl ?_)
      rw [keepL_kv h, if_neg (fun e => hj 0 x rfl (by simpa using ht) e.symm)]
    · rw [if_neg ht]
      by_cases hk : f.keep[i]? = some true
      · rw [if_pos hk]
        refine up _ (keepL_nd h _ _) ?_
        rw [keepL_kv h]
        by_cases hx : j = x.pos
        · rw [if_pos hx, overS_full]
          exact .inr ⟨hx.symm, rfl⟩
        · rw [if_neg hx]
          exact .inl rfl
      · rw [if_neg hk]
        exact up _ h (.inl rfl)
/-- The sector of the write that is torn. -/
def tornAt (f : Fate) (l : List Wr) : Int := match l[f.torn.toNat]? with | some x => x.pos | none => -1
theorem torn_ne (f : Fate) (l : List Wr) (j : Int) (hj : j ≠ tornAt f l) : ∀ k x, l[k]? = some x → ((0 + k : Nat) : Int) = f.torn → x.pos ≠ j := fun k x hx hk e => by
  have h : f.torn.toNat = k := by omega
  apply hj
  unfold tornAt
  rw [h, hx]
  exact e.symm
/-- All that is in a cache came of deeds. -/
def From (l : List Deed) (C : List Wr) : Prop := ∀ x ∈ C, ∃ y ∈ l, y.pos = x.pos ∧ y.b = x.b.1
theorem keeps_at (f : Fate) {K : List (Int × Sec)} (h : Nd K) {l : List Deed} {C : List Wr} (hC : From l C) (j : Int) (hj : j ≠ tornAt f C) : kv (crashL f 0 K C) j = kv K j ∨ ∃ y ∈ l, y.pos = j ∧ (kv (crashL f 0 K C) j).1 = y.b := by
  rcases crash_kv f j C 0 K h (torn_ne f C j hj) with e | ⟨x, hx, e1, e2⟩
  · exact .inl e
  · obtain ⟨y, hy, q1, q2⟩ := hC x hx
    exact .inr ⟨y, hy, q1.trans e1, by rw [e2, q2]⟩

/-- Neither dead nor armed, and no sector is bad. -/
def Calm (D : Dv) : Prop := D.dead = false ∧ D.armed = false ∧ D.bad = []
theorem calm_act {D : Dv} (h : Calm D) : D.act = (true, D) := by
  unfold Dv.act
  simp [h.1, h.2.1]
theorem calm_write {D : Dv} (h : Calm D) (p : Int) (b : List Int) : Calm (D.write p b).2 ∧ (D.write p b).2.kept = D.kept ∧ (D.write p b).2.n = D.n ∧ ((D.write p b).2.cache = D.cache ∨ ∃ s : Sec, s.1 = b ∧ (D.write p b).2.cache = D.cache ++ [⟨p, s⟩]) := by
  unfold Dv.write
  rw [if_neg (by simp [h.1]), calm_act h]
  split
  · rename_i hb
    exact ⟨h, rfl, rfl, .inr ⟨⟨b, hb.2⟩, rfl, rfl⟩⟩
  · exact ⟨h, rfl, rfl, .inl rfl⟩
theorem calm_flush {D : Dv} (h : Calm D) : D.flush.1 = 0 ∧ Calm D.flush.2 ∧ D.flush.2.cache = [] ∧ D.flush.2.n = D.n := by
  unfold Dv.flush
  rw [calm_act h]
  exact ⟨rfl, h, rfl, rfl⟩
theorem calm_read {D : Dv} (h : Calm D) (hc : D.cache = []) (i : Int) (h0 : 0 ≤ i) (h1 : i < D.n) : D.readE i = 0 ∧ D.readB i = (kv D.kept i).1 := by
  have hE : D.readE i = 0 := by
    unfold Dv.readE Dv.badAt Dv.has
    rw [h.1, h.2.2]
    simp [h0, h1, look, at?]
  refine ⟨hE, ?_⟩
  rw [readB_now hE]
  unfold Dv.now Dv.base kv
  rw [hc]
  rfl
theorem sec_byte (s : Sec) : byteL s.1 := s.2.2
end Go.Proofs.Ytglpckdmiohciaa
