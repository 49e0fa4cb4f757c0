/- What a save, whatever crash strikes within it, leaves, told of devices: plain laws, no program. -/
import Derived.Test.YtglpckdmiohciaaSaveLaw
namespace Go.Proofs.Ytglpckdmiohciaa
open Go.RowKit
set_option linter.unusedVariables false
set_option linter.unusedSimpArgs false

/-- A device of two sectors that nothing is the matter with, all of it kept. -/
def Two (D : Dv) : Prop := Calm D ∧ D.cache = [] ∧ D.n = 2
def wrOf (s : Sup) : Wr := ⟨s.epoch % 2, supSec s⟩
theorem write_sup {D : Dv} (hn : D.n = 2) (hd : D.dead = false) (s : Sup) : D.write (s.epoch % 2) (put s) = if D.act.1 then (0, { D.act.2 with cache := D.act.2.cache ++ [wrOf s] }) else (40, D.act.2) := by
  unfold Dv.write
  have hh : D.has (s.epoch % 2) = true := by
    unfold Dv.has
    rw [hn]
    simp
    omega
  rw [if_neg (by simp [hd]), dif_pos ⟨hh, put_len s, put_byte s⟩]
  rfl
theorem calm_save {D : Dv} (h : Two D) (s : Sup) : (saveR D s).1 = 0 ∧ Two (saveR D s).2 ∧ (saveR D s).2.kept = keepL D.kept (wrOf s) 32 := by
  obtain ⟨hc, h0, hn⟩ := h
  have f1 : D.flush = (0, D) := by
    unfold Dv.flush
    rw [calm_act hc]
    simp only [if_true, h0, List.foldl_nil]
    cases D
    simp only at h0
    subst h0
    rfl
  have w1 := write_sup hn hc.1 s
  rw [calm_act hc, h0] at w1
  simp only [if_true, List.nil_append] at w1
  have hs : saveR D s = ({ D with cache := [wrOf s] } : Dv).flush := by
    unfold saveR
    rw [f1]
    simp only [ne_eq, not_true_eq_false, if_false]
    rw [w1]
    simp
  have hc2 : Calm ({ D with cache := [wrOf s] } : Dv) := hc
  have f2 : ({ D with cache := [wrOf s] } : Dv).flush = (0, { D with kept := keepL D.kept (wrOf s) 32, cache := [] }) := by
    unfold Dv.flush
    rw [calm_act hc2]
    rfl
  rw [hs, f2]
  exact ⟨rfl, ⟨hc, rfl, hn⟩, rfl⟩
/-- A save of an armed device, and a crash. -/
theorem crash_save {D : Dv} (h : Two D) (arm : Int) (f : Fate) (s : Sup) : Two ((saveR (D.arm arm) s).2.crash f) ∧
    (((saveR (D.arm arm) s).1 = 0 ∧ ((saveR (D.arm arm) s).2.crash f).kept = keepL D.kept (wrOf s) 32) ∨
     ((saveR (D.arm arm) s).1 ≠ 0 ∧ (((saveR (D.arm arm) s).2.crash f).kept = D.kept ∨ ∃ k, k ≤ 32 ∧ ((saveR (D.arm arm) s).2.crash f).kept = keepL D.kept (wrOf s) k))) := by
  obtain ⟨⟨hd, ha, hb⟩, h0, hn⟩ := h
  by_cases hneg : arm < 0
  · -- not armed
    have hT : Two (D.arm arm) := ⟨⟨hd, by simp only [Dv.arm, decide_eq_false_iff_not]; omega, hb⟩, h0, hn⟩
    obtain ⟨e1, e2, e3⟩ := calm_save hT s
    refine ⟨⟨⟨rfl, rfl, e2.1.2.2⟩, rfl, e2.2.2⟩, .inl ⟨e1, ?_⟩⟩
    show crashL f 0 _ (saveR (D.arm arm) s).2.cache = _
    rw [e2.2.1, e3]
    rfl
  · have harm : D.arm arm = { D with armed := true, left := arm } := by
      unfold Dv.arm
      rw [show decide (0 ≤ arm) = true from by simp; omega, show max arm 0 = arm from by omega]
    rw [harm]
    generalize hE : ({ D with armed := true, left := arm } : Dv) = E
    have En : E.n = 2 := by rw [← hE]; exact hn
    have Ek : E.kept = D.kept := by rw [← hE]
    have Ec : E.cache = [] := by rw [← hE]; exact h0
    have Eb : E.bad = [] := by rw [← hE]; exact hb
    have Ed : E.dead = false := by rw [← hE]; exact hd
    have Ea : E.armed = true := by rw [← hE]
    have El : E.left = arm := by rw [← hE]
    have aD : ∀ G : Dv, G.dead = false → G.armed = true → G.left = 0 → G.act = (false, { G with dead := true }) := fun G g1 g2 g3 => by
      unfold Dv.act
      rw [if_neg (by simp [g1]), if_neg (by simp [g2]), if_pos g3]
    have aL : ∀ G : Dv, G.dead = false → G.armed = true → G.left ≠ 0 → G.act = (true, { G with left := G.left - 1 }) := fun G g1 g2 g3 => by
      unfold Dv.act
      rw [if_neg (by simp [g1]), if_neg (by simp [g2]), if_neg g3]
    by_cases ha0 : arm = 0
    · -- dead at the first flush
      have hs : saveR E s = (40, { E with dead := true }) := by
        have : E.flush = (40, { E with dead := true }) := by
          unfold Dv.flush
          rw [aD E Ed Ea (by omega)]
          rfl
        unfold saveR
        rw [this]
        simp
      rw [hs]
      refine ⟨⟨⟨rfl, rfl, Eb⟩, rfl, En⟩, .inr ⟨by simp, .inl ?_⟩⟩
      show crashL f 0 E.kept E.cache = _
      rw [Ec, Ek]
      rfl
    · have f1 : E.flush = (0, { E with left := arm - 1 }) := by
        unfold Dv.flush
        rw [aL E Ed Ea (by omega), El]
        simp only [if_true, Ec, List.foldl_nil]
      generalize hG : ({ E with left := arm - 1 } : Dv) = G at f1
      have Gn : G.n = 2 := by rw [← hG]; exact En
      have Gk : G.kept = D.kept := by rw [← hG]; exact Ek
      have Gc : G.cache = [] := by rw [← hG]; exact Ec
      have Gb : G.bad = [] := by rw [← hG]; exact Eb
      have Gd : G.dead = false := by rw [← hG]; exact Ed
      have Ga : G.armed = true := by rw [← hG]; exact Ea
      have Gl : G.left = arm - 1 := by rw [← hG]
      have hs0 : saveR E s = if (G.write (s.epoch % 2) (put s)).1 ≠ 0 then G.write (s.epoch % 2) (put s) else (G.write (s.epoch % 2) (put s)).2.flush := by
        unfold saveR
        rw [f1]
        simp
      have w1 := write_sup Gn Gd s
      by_cases ha1 : arm - 1 = 0
      · rw [aD G Gd Ga (by omega)] at w1
        simp only [Bool.false_eq_true, if_false] at w1
        rw [hs0, w1]
        refine ⟨⟨⟨rfl, rfl, Gb⟩, rfl, Gn⟩, .inr ⟨by simp, .inl ?_⟩⟩
        show crashL f 0 G.kept G.cache = _
        rw [Gc, Gk]
        rfl
      · rw [aL G Gd Ga (by omega), Gl] at w1
        simp only [if_true, Gc, List.nil_append] at w1
        generalize hH : ({ G with left := arm - 1 - 1, cache := [wrOf s] } : Dv) = H
        have w2 : G.write (s.epoch % 2) (put s) = (0, H) := by rw [w1, ← hH]
        have Hn : H.n = 2 := by rw [← hH]; exact Gn
        have Hk : H.kept = D.kept := by rw [← hH]; exact Gk
        have Hc : H.cache = [wrOf s] := by rw [← hH]
        have Hb : H.bad = [] := by rw [← hH]; exact Gb
        have Hd : H.dead = false := by rw [← hH]; exact Gd
        have Ha : H.armed = true := by rw [← hH]; exact Ga
        have Hl : H.left = arm - 1 - 1 := by rw [← hH]
        have hs1 : saveR E s = H.flush := by rw [hs0, w2]; simp
        by_cases ha2 : arm - 1 - 1 = 0
        · have f2 : H.flush = (40, { H with dead := true }) := by
            unfold Dv.flush
            rw [aD H Hd Ha (by omega)]
            rfl
          rw [hs1, f2]
          refine ⟨⟨⟨rfl, rfl, Hb⟩, rfl, Hn⟩, .inr ⟨by simp, ?_⟩⟩
          show crashL f 0 H.kept H.cache = _ ∨ ∃ k, k ≤ 32 ∧ crashL f 0 H.kept H.cache = _
          rw [Hc, Hk]
          simp only [crashL]
          split
          · exact .inr ⟨_, by omega, rfl⟩
          · split
            · exact .inr ⟨32, Nat.le_refl _, rfl⟩
            · exact .inl rfl
        · have f2 : H.flush = (0, { H with left := arm - 1 - 1 - 1, kept := keepL D.kept (wrOf s) 32, cache := [] }) := by
            unfold Dv.flush
            rw [aL H Hd Ha (by omega), Hl]
            simp only [if_true, Hc, Hk]
            rfl
          rw [hs1, f2]
          exact ⟨⟨⟨rfl, rfl, Hb⟩, rfl, Hn⟩, .inl ⟨rfl, rfl⟩⟩

/-! ### What is loaded -/
def loadK (K : List (Int × Sec)) : Sup × Int := if (ld (kv K 0).1 (kv K 1).1).epoch = 0 then (zeroSup, 50) else (ld (kv K 0).1 (kv K 1).1, 0)
theorem load_two {D : Dv} (h : Two D) : loadR D = loadK D.kept := by
  obtain ⟨hc, h0, hn⟩ := h
  obtain ⟨a1, a2⟩ := calm_read hc h0 0 (by omega) (by rw [hn]; omega)
  obtain ⟨b1, b2⟩ := calm_read hc h0 1 (by omega) (by rw [hn]; omega)
  have hout : outAt D 2 = ld (kv D.kept 0).1 (kv D.kept 1).1 := by
    show step (step zeroSup (D.readB 0)) (D.readB 1) = _
    rw [a2, b2]
    rfl
  unfold loadR loadK
  rw [if_neg (fun q => q a1), if_neg (fun q => q b1), hout]
/-- The sector of epoch j. -/
def secO (xs : Nat → Sup) : Nat → Sec
  | 0 => sec0
  | j + 1 => supSec (xs j)
def Good (xs : Nat → Sup) (m : Nat) : Prop := ∀ j, j < m → (xs j).ok ∧ (xs j).epoch = j + 1
/-- Behind m saves. -/
def Saved (xs : Nat → Sup) (m : Nat) (K : List (Int × Sec)) : Prop := Nd K ∧ kv K ((m : Int) % 2) = secO xs m ∧ kv K (1 - (m : Int) % 2) = secO xs (m - 1)
theorem saved_zero {xs : Nat → Sup} : Saved xs 0 [] := ⟨List.nodup_nil, rfl, rfl⟩
theorem saved_next {xs : Nat → Sup} {m : Nat} {K : List (Int × Sec)} (h : Saved xs m K) (he : (xs m).epoch = m + 1) : Saved xs (m + 1) (keepL K (wrOf (xs m)) 32) := by
  obtain ⟨hn, h1, h2⟩ := h
  have hp : (wrOf (xs m)).pos = ((m + 1 : Nat) : Int) % 2 := by
    show (xs m).epoch % 2 = _
    rw [he]
    omega
  refine ⟨keepL_nd hn _ _, ?_, ?_⟩
  · rw [keepL_kv hn, if_pos hp.symm, overS_full]
    rfl
  · rw [keepL_kv hn, if_neg (by omega), show 1 - ((m + 1 : Nat) : Int) % 2 = (m : Int) % 2 from by omega, h1]
    rfl
theorem mod2 (m : Nat) : ((m : Int) % 2 = 0 ∨ (m : Int) % 2 = 1) := by omega
/-- What a sector of an epoch is. -/
theorem secO_sup {xs : Nat → Sup} {m j : Nat} (hg : Good xs m) (hj : j ≤ m) : (j = 0 → ¬ isSup (secO xs j).1) ∧ (0 < j → isSup (secO xs j).1 ∧ ofB (secO xs j).1 = xs (j - 1) ∧ (xs (j - 1)).epoch = j) := by
  cases j with
  | zero => exact ⟨fun _ => zero_not, fun h => by omega⟩
  | succ j =>
    obtain ⟨g1, g2⟩ := hg j (by omega)
    exact ⟨fun h => by omega, fun _ => ⟨(isSup_put _ g1).2 (by omega), ofB_put _ g1 (by omega), by simpa using g2⟩⟩
theorem load_with {xs : Nat → Sup} {m : Nat} {K : List (Int × Sec)} (hg : Good xs m) (h1 : kv K ((m : Int) % 2) = secO xs m) (h2 : isSup (kv K (1 - (m : Int) % 2)).1 → (ofB (kv K (1 - (m : Int) % 2)).1).epoch < m) :
    loadK K = if m = 0 then (zeroSup, 50) else (xs (m - 1), 0) := by
  obtain ⟨s1, s2⟩ := secO_sup hg (Nat.le_refl m)
  by_cases hm : m = 0
  · rw [if_pos hm]
    subst hm
    have e0 : ¬ isSup (kv K 0).1 := by
      have := s1 rfl
      rw [← h1] at this
      exact this
    have e1 : ¬ isSup (kv K 1).1 := fun q => by
      have := h2 q
      have h3 : 0 ≤ (ofB (kv K 1).1).epoch := by
        have h5 := (supOf_ok (kv K 1).2.2 (kv K 1).2.1).1.1
        unfold ofB
        split
        · exact h5
        · exact h5
      have h4 : (ofB (kv K 1).1).epoch < 0 := this
      omega
    unfold loadK
    rw [ld_none e0 e1]
    rfl
  · rw [if_neg hm]
    obtain ⟨q1, q2, q3⟩ := s2 (by omega)
    have e := ld_win (a := (m : Int) % 2) (mod2 m) (c := fun j => (kv K j).1) (x := xs (m - 1)) (by show isSup (kv K _).1; rw [h1]; exact q1) (by show ofB (kv K _).1 = _; rw [h1]; exact q2) (by omega) (fun q => by have := h2 q; omega)
    unfold loadK
    rw [show ld (kv K 0).1 (kv K 1).1 = xs (m - 1) from e, if_neg (by omega)]
theorem load_saved {xs : Nat → Sup} {m : Nat} {K : List (Int × Sec)} (hg : Good xs m) (h : Saved xs m K) : loadK K = if m = 0 then (zeroSup, 50) else (xs (m - 1), 0) := by
  refine load_with hg h.2.1 (fun q => ?_)
  rw [h.2.2] at q ⊢
  obtain ⟨s1, s2⟩ := secO_sup hg (Nat.sub_le m 1)
  by_cases hm : m - 1 = 0
  · exact absurd q (s1 hm)
  · obtain ⟨_, q2, q3⟩ := s2 (by omega)
    rw [q2, q3]
    omega
/-- A next super is loaded where its sector holds it. -/
theorem load_new {xs : Nat → Sup} {m : Nat} {K : List (Int × Sec)} {s : Sup} (hg : Good xs m) (h1 : kv K ((m : Int) % 2) = secO xs m) (he : s.epoch = m + 1) (hs : isSup (kv K (1 - (m : Int) % 2)).1) (ho : ofB (kv K (1 - (m : Int) % 2)).1 = s) : loadK K = (s, 0) := by
  obtain ⟨s1, s2⟩ := secO_sup hg (Nat.le_refl m)
  have e := ld_win (a := 1 - (m : Int) % 2) (by have := mod2 m; omega) (c := fun j => (kv K j).1) (x := s) hs ho (by omega) (fun q => by
    have hq : isSup (kv K ((m : Int) % 2)).1 := by
      have : (1 : Int) - (1 - (m : Int) % 2) = (m : Int) % 2 := by omega
      rwa [this] at q
    show (ofB (kv K (1 - (1 - (m : Int) % 2))).1).epoch < _
    rw [show (1 : Int) - (1 - (m : Int) % 2) = (m : Int) % 2 from by omega, h1]
    rw [h1] at hq
    by_cases hm : m = 0
    · exact absurd hq (s1 hm)
    · obtain ⟨_, q2, q3⟩ := s2 (by omega)
      rw [q2, q3]
      omega)
  unfold loadK
  rw [show ld (kv K 0).1 (kv K 1).1 = s from e, if_neg (by omega)]
/-- Behind a crash within a save: what was saved, or what was there. -/
theorem load_crash {xs : Nat → Sup} {m : Nat} {K : List (Int × Sec)} {s : Sup} (hg : Good xs m) (h : Saved xs m K) (hm : m < 250) (hs : s.ok) (he : s.epoch = m + 1) (k : Nat) (hk : k ≤ 32) :
    loadK (keepL K (wrOf s) k) = (s, 0) ∨ loadK (keepL K (wrOf s) k) = loadK K := by
  have hp : (wrOf s).pos = 1 - (m : Int) % 2 := by
    show s.epoch % 2 = _
    rw [he]
    omega
  have e1 : kv (keepL K (wrOf s) k) ((m : Int) % 2) = secO xs m := by
    rw [keepL_kv h.1, if_neg (by rw [hp]; omega), h.2.1]
  have e2 : kv (keepL K (wrOf s) k) (1 - (m : Int) % 2) = overS k (supSec s) (secO xs (m - 1)) := by
    rw [keepL_kv h.1, if_pos hp.symm, hp, h.2.2]
    rfl
  have e3 : (kv (keepL K (wrOf s) k) (1 - (m : Int) % 2)).1 = (put s).take k ++ (secO xs (m - 1)).1.drop k := by rw [e2]; rfl
  by_cases hT : isSup (kv (keepL K (wrOf s) k) (1 - (m : Int) % 2)).1
  · have hcase : ofB (kv (keepL K (wrOf s) k) (1 - (m : Int) % 2)).1 = s ∨ (2 ≤ m ∧ ofB (kv (keepL K (wrOf s) k) (1 - (m : Int) % 2)).1 = xs (m - 2)) := by
      rw [e3] at hT ⊢
      by_cases hm1 : m - 1 = 0
      · rw [hm1] at hT ⊢
        exact .inl (torn_zero hs (by omega) (by omega) k hk hT)
      · obtain ⟨j, hj⟩ : ∃ j, m - 1 = j + 1 := ⟨m - 2, by omega⟩
        rw [hj] at hT ⊢
        obtain ⟨g1, g2⟩ := hg j (by omega)
        rcases torn_law (xs j) s g1 hs (by omega) k hk hT with e | e
        · exact .inr ⟨by omega, by rw [show m - 2 = j from by omega]; exact e⟩
        · exact .inl e
    rcases hcase with e | ⟨hm2, e⟩
    · exact .inl (load_new hg e1 he hT e)
    · right
      rw [load_saved hg h]
      refine load_with hg e1 (fun _ => ?_)
      rw [e]
      obtain ⟨_, g2⟩ := hg (m - 2) (by omega)
      rw [g2]
      omega
  · right
    rw [load_saved hg h]
    exact load_with hg e1 (fun q => absurd q hT)
theorem load_done {xs : Nat → Sup} {m : Nat} {K : List (Int × Sec)} {s : Sup} (hg : Good xs m) (h : Saved xs m K) (hs : s.ok) (he : s.epoch = m + 1) : loadK (keepL K (wrOf s) 32) = (s, 0) := by
  have hp : (wrOf s).pos = 1 - (m : Int) % 2 := by
    show s.epoch % 2 = _
    rw [he]
    omega
  have e2 : kv (keepL K (wrOf s) 32) (1 - (m : Int) % 2) = supSec s := by rw [keepL_kv h.1, if_pos hp.symm, overS_full]; rfl
  refine load_new hg ?_ he ?_ ?_
  · rw [keepL_kv h.1, if_neg (by rw [hp]; omega), h.2.1]
  · rw [e2]
    exact (isSup_put s hs).2 (by omega)
  · rw [e2]
    exact ofB_put s hs (by omega)
end Go.Proofs.Ytglpckdmiohciaa
