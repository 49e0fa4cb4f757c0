/- The device and the reference's are alike. No program here. -/
import Derived.Test.YtglpckdmiohciaaRefN
import Derived.Test.YtglpckdmiohciaaKeepsPure
namespace Go.Proofs.Ytglpckdmiohciaa
open Go.RowKit
set_option linter.unusedVariables false
set_option linter.unusedSimpArgs false

structure Sim (D : Dv) (X : Rv) : Prop where
  n1 : X.S.length = D.n
  n2 : X.bad.length = D.n
  kept : ∀ p : Nat, p < D.n → (X.S[p]?).getD sec0 = kv D.kept p
  cache : X.cache = D.cache
  bad : ∀ p : Nat, p < D.n → (X.bad[p]?).getD false = D.badAt p
  dead : X.dead = D.dead
  left : X.left = if D.armed then D.left else -1
  ge : 0 ≤ D.left
  inn : ∀ x ∈ D.cache, 0 ≤ x.pos ∧ x.pos < D.n
  nd1 : Nd D.kept
  nd2 : (D.bad.map (·.1)).Nodup
/-- A row of sectors and a map of them are alike. -/
def SimS (n : Nat) (S : List Sec) (K : List (Int × Sec)) : Prop := S.length = n ∧ (∀ p : Nat, p < n → (S[p]?).getD sec0 = kv K p) ∧ Nd K
theorem simS_set {n : Nat} {S : List Sec} {K : List (Int × Sec)} (h : SimS n S K) (x : Wr) (m : Nat) (h0 : 0 ≤ x.pos) (h1 : x.pos < n) : SimS n (S.set x.pos.toNat (overS m x.b ((S[x.pos.toNat]?).getD sec0))) (keepL K x m) := by
  obtain ⟨a, b, c⟩ := h
  refine ⟨by rw [List.length_set]; exact a, fun p hp => ?_, keepL_nd c x m⟩
  rw [keepL_kv c]
  have hk : (S[x.pos.toNat]?).getD sec0 = kv K x.pos := by
    have := b x.pos.toNat (by omega)
    rwa [show ((x.pos.toNat : Nat) : Int) = x.pos by omega] at this
  by_cases e : (p : Int) = x.pos
  · rw [if_pos e, hk]
    have e2 : x.pos.toNat = p := by omega
    rw [e2, List.getElem?_set_self (by omega)]
    rfl
  · rw [if_neg e, List.getElem?_set_ne (by omega)]
    exact b p hp
theorem simS_full {n : Nat} {S : List Sec} {K : List (Int × Sec)} (h : SimS n S K) (x : Wr) (h0 : 0 ≤ x.pos) (h1 : x.pos < n) : SimS n (S.set x.pos.toNat x.b) (keepL K x 32) := by
  have := simS_set h x 32 h0 h1
  rwa [overS_full] at this
theorem simS_fold {n : Nat} : ∀ (l : List Wr) {S : List Sec} {K : List (Int × Sec)}, SimS n S K → (∀ x ∈ l, 0 ≤ x.pos ∧ x.pos < n) → SimS n (l.foldl (fun S x => S.set x.pos.toNat x.b) S) (l.foldl (fun K x => keepL K x 32) K)
  | [], _, _, h, _ => h
  | x :: l, S, K, h, hl => simS_fold l (simS_full h x (hl x List.mem_cons_self).1 (hl x List.mem_cons_self).2) (fun y hy => hl y (List.mem_cons_of_mem _ hy))
theorem simS_crash {n : Nat} (f : Fate) : ∀ (l : List Wr) (i : Nat) {S : List Sec} {K : List (Int × Sec)}, SimS n S K → (∀ x ∈ l, 0 ≤ x.pos ∧ x.pos < n) → SimS n (crashS f i S l) (crashL f i K l)
  | [], _, _, _, h, _ => h
  | x :: l, i, S, K, h, hl => by
    rw [crashS, crashL]
    have hx := hl x List.mem_cons_self
    refine simS_crash f l (i + 1) ?_ (fun y hy => hl y (List.mem_cons_of_mem _ hy))
    split
    · exact simS_set h x _ hx.1 hx.2
    · split
      · exact simS_full h x hx.1 hx.2
      · exact h
section
variable {D : Dv} {X : Rv}
theorem Sim.s (h : Sim D X) : SimS D.n X.S D.kept := ⟨h.n1, h.kept, h.nd1⟩
theorem sim_new {n : Int} (hn : n ≤ 1000) : Sim (Dv.new n) (Rv.new n.toNat) := by
  have e : (Dv.new n).n = n.toNat := by simp only [Dv.new]; omega
  refine ⟨by rw [e]; simp [Rv.new], by rw [e]; simp [Rv.new], fun p hp => ?_, rfl, fun p hp => ?_, rfl, rfl, Int.le_refl _, (fun x hx => by cases hx), by simp [Nd, Dv.new], by simp [Dv.new]⟩
  · rw [e] at hp
    simp [Rv.new, List.getElem?_replicate, hp]
    rfl
  · rw [e] at hp
    simp [Rv.new, List.getElem?_replicate, hp]
    rfl
theorem sim_has (h : Sim D X) (p : Int) : X.has p = D.has p := by
  unfold Rv.has Dv.has
  rw [h.n1]
theorem sim_act (h : Sim D X) : X.act.1 = D.act.1 ∧ Sim D.act.2 X.act.2 := by
  have hl := h.left
  have hg := h.ge
  unfold Rv.act Dv.act
  rcases hd : D.dead with _ | _
  · rw [h.dead, hd]
    rcases ha : D.armed with _ | _
    · rw [ha] at hl
      simp at hl
      simp [hl]
      exact h
    · rw [ha] at hl
      simp at hl
      by_cases hz : D.left = 0
      · simp [hl, hz]
        exact ⟨h.n1, h.n2, h.kept, h.cache, h.bad, rfl, by simp [ha, hl, hz], (Int.le_refl 0), h.inn, h.nd1, h.nd2⟩
      · have hp : 0 < D.left := by omega
        simp [hl, hz, hp]
        exact ⟨h.n1, h.n2, h.kept, h.cache, h.bad, by simp [h.dead, hd], by simp [ha], by show 0 ≤ D.left - 1; omega, h.inn, h.nd1, h.nd2⟩
  · rw [h.dead, hd]
    simp
    exact ⟨h.n1, h.n2, h.kept, h.cache, h.bad, by simp [hd], h.left, h.ge, h.inn, h.nd1, h.nd2⟩
theorem sim_write (h : Sim D X) (p : Int) (b : List Int) : (X.write p b).1 = (D.write p b).1 ∧ Sim (D.write p b).2 (X.write p b).2 := by
  obtain ⟨a1, a2⟩ := sim_act h
  by_cases hd : D.dead = true
  · unfold Rv.write Dv.write
    rw [if_pos (by rw [h.dead]; exact hd), if_pos hd]
    exact ⟨rfl, h⟩
  · by_cases hh : D.has p = true ∧ (b.length = 32 ∧ ∀ x ∈ b, 0 ≤ x ∧ x ≤ 255)
    · have hh' : X.has p = true ∧ (b.length = 32 ∧ ∀ x ∈ b, 0 ≤ x ∧ x ≤ 255) := by rw [sim_has h]; exact hh
      unfold Rv.write Dv.write
      rw [if_neg (by rw [h.dead]; exact hd), if_neg hd, dif_pos hh, dif_pos hh', a1]
      split
      · refine ⟨rfl, a2.n1, a2.n2, a2.kept, ?_, a2.bad, a2.dead, a2.left, a2.ge, fun x hx => ?_, a2.nd1, a2.nd2⟩
        · show X.act.2.cache ++ _ = D.act.2.cache ++ _
          rw [a2.cache]
        · rcases List.mem_append.1 hx with q | q
          · exact a2.inn x q
          · simp at q
            subst q
            have hp := hh.1
            have hn : D.act.2.n = D.n := (act_n D).1
            unfold Dv.has at hp
            simp at hp
            show 0 ≤ p ∧ p < (D.act.2.n : Int)
            rw [hn]
            exact hp
      · exact ⟨rfl, a2⟩
    · have hh' : ¬ (X.has p = true ∧ (b.length = 32 ∧ ∀ x ∈ b, 0 ≤ x ∧ x ≤ 255)) := by rw [sim_has h]; exact hh
      unfold Rv.write Dv.write
      rw [if_neg (by rw [h.dead]; exact hd), if_neg hd, dif_neg hh, dif_neg hh']
      exact ⟨rfl, h⟩
theorem sim_flush (h : Sim D X) : X.flush.1 = D.flush.1 ∧ Sim D.flush.2 X.flush.2 := by
  obtain ⟨a1, a2⟩ := sim_act h
  unfold Rv.flush Dv.flush
  rw [a1]
  split
  · have hs := simS_fold D.act.2.cache a2.s a2.inn
    refine ⟨rfl, ?_, a2.n2, ?_, rfl, a2.bad, a2.dead, a2.left, a2.ge, (fun x hx => by cases hx), ?_, a2.nd2⟩
    · show (X.act.2.cache.foldl (fun S x => S.set x.pos.toNat x.b) X.act.2.S).length = _
      rw [a2.cache]
      exact hs.1
    · show ∀ p : Nat, p < D.act.2.n → ((X.act.2.cache.foldl (fun S x => S.set x.pos.toNat x.b) X.act.2.S)[p]?).getD sec0 = _
      rw [a2.cache]
      exact hs.2.1
    · exact hs.2.2
  · exact ⟨rfl, a2⟩
theorem sim_arm (h : Sim D X) (n : Int) : Sim (D.arm n) (X.arm n) := by
  refine ⟨h.n1, h.n2, h.kept, h.cache, h.bad, h.dead, ?_, by show 0 ≤ max n 0; omega, h.inn, h.nd1, h.nd2⟩
  show (if 0 ≤ n then n else -1) = if decide (0 ≤ n) = true then max n 0 else -1
  by_cases hn : 0 ≤ n
  · simp [hn]; omega
  · simp [hn]
theorem sim_crash (h : Sim D X) (f : Fate) : Sim (D.crash f) (X.crash f) := by
  have hs := simS_crash f D.cache 0 h.s h.inn
  refine ⟨?_, h.n2, ?_, rfl, h.bad, rfl, rfl, Int.le_refl _, (fun x hx => by cases hx), hs.2.2, h.nd2⟩
  · show (crashS f 0 X.S X.cache).length = D.n
    rw [h.cache]
    exact hs.1
  · show ∀ p : Nat, p < D.n → ((crashS f 0 X.S X.cache)[p]?).getD sec0 = _
    rw [h.cache]
    exact hs.2.1
theorem sim_fault (h : Sim D X) (p : Int) (on : Bool) : Sim (D.fault p on) (X.fault p on) := by
  unfold Dv.fault Rv.fault
  rw [sim_has h]
  split
  · rename_i hp
    unfold Dv.has at hp
    simp at hp
    have key : ∀ (L : List (Int × Bool)), (L.map (·.1)).Nodup → (∀ j : Int, (look L j).getD false = if j = p then on else D.badAt j) → Sim { D with bad := L } { X with bad := X.bad.set p.toNat on } := fun L hL hj => by
      refine ⟨h.n1, by show (X.bad.set _ _).length = D.n; rw [List.length_set]; exact h.n2, h.kept, h.cache, fun q hq => ?_, h.dead, h.left, h.ge, h.inn, h.nd1, hL⟩
      show ((X.bad.set p.toNat on)[q]?).getD false = (look L q).getD false
      rw [hj]
      have hq' : q < D.n := hq
      by_cases e : (q : Int) = p
      · rw [if_pos e, show p.toNat = q by omega, List.getElem?_set_self (by rw [h.n2]; omega)]
        rfl
      · rw [if_neg e, List.getElem?_set_ne (by omega)]
        exact h.bad q hq'
    rcases on with _ | _
    · exact key _ (del_nodup h.nd2 _) (fun j => by
        rw [look_del h.nd2]
        split <;> simp_all [Dv.badAt])
    · exact key _ (upd_nodup h.nd2 _ _) (fun j => by
        rw [look_upd h.nd2]
        split <;> simp_all [Dv.badAt])
  · exact h
theorem sim_read (h : Sim D X) (p : Int) : X.readE p = D.readE p ∧ X.readB p = D.readB p := by
  have e : X.readE p = D.readE p := by
    unfold Rv.readE Dv.readE
    rw [h.dead, sim_has h]
    split
    · rfl
    · split
      · rfl
      · rename_i hp
        unfold Dv.has at hp
        simp at hp
        have := h.bad p.toNat (by omega)
        rw [show ((p.toNat : Nat) : Int) = p by omega] at this
        rw [this]
  refine ⟨e, ?_⟩
  unfold Rv.readB Dv.readB
  rw [e]
  split
  · rename_i h0
    have hp : 0 ≤ p ∧ p < D.n := by
      unfold Dv.readE at h0
      split at h0
      · cases h0
      · split at h0
        · cases h0
        · rename_i hp
          unfold Dv.has at hp
          simpa using hp
    have := h.kept p.toNat (by omega)
    rw [show ((p.toNat : Nat) : Int) = p by omega] at this
    rw [this, h.cache]
    rfl
  · rfl
end
end Go.Proofs.Ytglpckdmiohciaa
