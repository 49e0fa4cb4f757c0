/- pager.Format. pager.Open. -/
import Derived.Test.YtikgplhcadomcaaGreatKJ
namespace Go.Proofs.YtikgplhcadomcaaGreat
open Go.RowKit
set_option linter.unusedVariables false
set_option linter.unusedSimpArgs false
theorem formatR_eq (D : Dv) : formatR D = if D.n / 4 < 2 then (70, D) else if (wrRun D 0 [sec0.1, sec0.1]).1 ≠ 0 then wrRun D 0 [sec0.1, sec0.1] else saveR (wrRun D 0 [sec0.1, sec0.1]).2 ⟨1, 0, 0, 0⟩ := by
  unfold formatR
  simp only [wrRun]
  by_cases h : D.n / 4 < 2
  · rw [if_pos h, if_pos h]
  · rw [if_neg h, if_neg h]
    by_cases h1 : (D.write 0 sec0.1).1 = 0
    · simp only [h1, ne_eq, not_true_eq_false, if_false]
      by_cases h2 : ((D.write 0 sec0.1).2.write (0 + 1) sec0.1).1 = 0
      · rw [show ((0 : Int) + 1) = 1 from rfl] at h2 ⊢
        simp [h2]
      · rw [show ((0 : Int) + 1) = 1 from rfl] at h2 ⊢
        simp [h2]
    · simp [h1]
section
variable {w : World} {g : Nat} {F : Nat → Prop} {D : Dv}
set_option maxRecDepth 100000 in
set_option maxHeartbeats 1000000 in
theorem format_calls (h : DevAt w g F D) (hcl : D.cache.length ≤ 1000000000) : Calls Tryz.prog 121 #[.pointer (some ⟨g, 0, none⟩)] w fun e w' => e = .returned (.int .i64 (formatR D).1) ∧ Did F w w' g (formatR D).2 := by
  have HD := Lib.hid h
  have hpg := pages_calls h
  have hfe := Lib.hid (formatR_eq D)
  have mk := run_make32
  clear h
  by_cases hn : D.n / 4 < 2
  · have hv : Hid (formatR D = (70, D)) := by show _ = _; rw [hfe.out, if_pos hn]
    have hn' : (D.n : Int) / 4 < 2 := by omega
    clear hn
    go_enter Tryz.func121, Tryz.ntmps121
    go_wp2_with fail
    refine hpg.mono ?_
    rintro e w1 ⟨rfl, rfl⟩
    go_wp2
    go_ret
    exact ⟨by rw [hv.out]; rfl, by rw [hv.out]; exact Did.refl HD.out⟩
  have hv : Hid (formatR D = if (wrRun D 0 [sec0.1, sec0.1]).1 ≠ 0 then wrRun D 0 [sec0.1, sec0.1] else saveR (wrRun D 0 [sec0.1, sec0.1]).2 ⟨1, 0, 0, 0⟩) := by show _ = _; rw [hfe.out, if_neg hn]
  have hn' : ¬ (D.n : Int) / 4 < 2 := by omega
  clear hn hfe
  go_enter Tryz.func121, Tryz.ntmps121
  go_wp2_with fail
  refine hpg.mono ?_
  rintro e w1 ⟨rfl, rfl⟩
  go_wp2
  go_loopg [8] 2 (fun m i wr => ∃ (k : Nat) (D1 : Dv), i = .int .i64 k ∧ k + m = 2 ∧ Hid (Did F w wr g D1) ∧ Hid (wrRun D 0 [sec0.1, sec0.1] = wrRun D1 k (List.replicate m sec0.1)) ∧ Hid (D1.cache.length ≤ D.cache.length + k))
  case atStart => exact ⟨0, D, rfl, by omega, Did.refl HD.out, by show _ = _; rfl, by show _ ≤ _; omega⟩
  case round =>
    obtain ⟨k, D1, rfl, hk, hdid, hrun, hcache⟩ := hrel
    obtain ⟨F1, d1, ch1, s1⟩ := hdid.out
    by_cases hk2 : k < 2
    · obtain ⟨m', hm'⟩ : ∃ m', gk = m' + 1 := ⟨gk - 1, by omega⟩
      subst hm'
      have hkn : (k : Int) < 2 := by omega
      have hb := blk_new wr (.cells (secCells sec0).toArray 5)
      have hcb := hcache.out
      have HW := Lib.hid (write_calls' (d1.alloc (.cells (secCells sec0).toArray 5)) (k : Int) (some ⟨wr.heap.size, 0, none⟩) 32 32 sec0.1 sec0.2.1 (rd_sec hb) sec0.2.2 (Nat.le_refl _) (fun _ a ha hf => by cases ha; exact Nat.lt_irrefl _ (d1.lt _ hf)) (by omega))
      have hrun2 : Hid (wrRun D 0 [sec0.1, sec0.1] = if (D1.write k sec0.1).1 ≠ 0 then D1.write k sec0.1 else wrRun (D1.write k sec0.1).2 (k + 1) (List.replicate m' sec0.1)) := by show _ = _; rw [hrun.out]; rfl
      have hwc := Lib.hid (write_cache D1 k sec0.1)
      have C1 := Lib.hid (ch1.trans (Chg.alloc wr (.cells (secCells sec0).toArray 5) F) (fun i _ hi => hi))
      have S1 := Lib.hid s1
      have mk1 := mk wr
      clear hb d1 ch1 s1 hrun mk
      go_wp2_with fail
      refine HW.out.mono ?_
      rintro e w5 ⟨rfl, hd5⟩
      have H5 := Lib.hid (hd5.after C1.out S1.out)
      clear hd5 HW mk1
      generalize D1.write k sec0.1 = R at *
      obtain ⟨er, D5⟩ := R
      simp only at hrun2 hwc H5 ⊢
      by_cases her : er = 0
      · subst her
        have hr5 := Lib.hid (hrun2.out.trans (if_neg (by simp)))
        go_wp2
        go_roundg m'
        case measure => omega
        case rel => exact ⟨k + 1, D5, by go_num, by omega, H5, by show _ = _; rw [hr5.out]; congr 1, by show _ ≤ _; have := hwc.out; omega⟩
      · have hr5 : Hid (formatR D = (er, D5)) := by
          show _ = _
          rw [hv.out, hrun2.out]
          simp [her]
        have heb : (er != 0) = true := by simpa using her
        clear her
        go_wp2
        go_ret
        exact ⟨by rw [hr5.out]; rfl, by rw [hr5.out]; exact H5.out⟩
    · have hk' : k = 2 := by omega
      subst hk'
      have hg0 : gk = 0 := by omega
      subst hg0
      have hv2 : Hid (formatR D = saveR D1 ⟨1, 0, 0, 0⟩) := by
        show _ = _
        have : wrRun D 0 [sec0.1, sec0.1] = (0, D1) := hrun.out
        rw [hv.out, this]
        rfl
      have HS := Lib.hid (save_calls d1 1 0 0 0 (by unfold Sup.ok; decide))
      have C1 := Lib.hid ch1
      have S1 := Lib.hid s1
      clear d1 ch1 s1 hk2
      go_wp2_with fail
      refine HS.out.mono ?_
      rintro e w5 ⟨rfl, hd5⟩
      have H5 := Lib.hid (hd5.after C1.out S1.out)
      clear hd5 HS
      go_wp2
      go_ret
      exact ⟨by rw [hv2.out]; rfl, by rw [hv2.out]; exact H5.out⟩
end
end Go.Proofs.YtikgplhcadomcaaGreat

namespace Go.Proofs.YtikgplhcadomcaaGreat
open Go.RowKit
set_option linter.unusedVariables false
set_option linter.unusedSimpArgs false
theorem zeroSup_ok : zeroSup.ok := by unfold Sup.ok zeroSup; decide
theorem ofB_ok {b : List Int} (h : byteL b) : (ofB b).ok := by
  unfold ofB
  split
  · rename_i q
    exact supOf_ok h q.1
  · exact zeroSup_ok
theorem outAt_ok (D : Dv) : ∀ k, (outAt D k).ok
  | 0 => zeroSup_ok
  | k + 1 => by
    show (loadStep D (outAt D k) k).ok
    unfold loadStep
    split
    · exact ofB_ok (readB_byte D k)
    · exact outAt_ok D k
theorem load_ok (D : Dv) : (loadR D).1.ok := by
  unfold loadR
  split
  · exact zeroSup_ok
  · split
    · exact zeroSup_ok
    · split
      · exact zeroSup_ok
      · exact outAt_ok D 2
/-- What Open hands back. -/
def OpenR (w w' : World) (g : Nat) (F : Nat → Prop) (D : Dv) (e : Ending) : Prop :=
  (∃ P b p F' A c, openR D = (some (P, b), 0) ∧ e = .returned (.tuple #[.pointer (some ⟨p, 0, none⟩), .slice A b.length c, .int .i64 0]) ∧ b.length ≤ c ∧ Rd by1 1 w' A b ∧ (∀ a, A = some a → w.heap.size ≤ a.block ∧ ¬ F' a.block) ∧ PgAt w' p g F' D P ∧ (∀ i, F' i → F i ∨ w.heap.size ≤ i) ∧ Below w.heap.size w w') ∨
  (∃ n, openR D = (none, n) ∧ n ≠ 0 ∧ e = .returned (.tuple #[.pointer none, .slice none 0 0, .int .i64 n]) ∧ Below w.heap.size w w')
def OpS (w : World) (b : Nat) (s : Sup) (W : World) : Prop := SupAt W b s ∧ Below w.heap.size w W
theorem OpS.below {w W W' : World} {b : Nat} {s : Sup} (h : OpS w b s W) (hb : Below W.heap.size W W') : OpS w b s W' := ⟨h.1.below hb, bl_then h.2 h.2.size hb⟩
def OpT (b r p f : Nat) (s : Sup) (W : World) : Prop := SupAt W b s ∧ W.heap[r]? = some (.cells #[.int .i64 s.start, .int .i64 s.pages] 160 (0, 0)) ∧ W.cell? ⟨p, 5, none⟩ = some (.pointer (some ⟨f, 0, none⟩))
theorem pg_new {W : World} {p g f B : Nat} {F FF : Nat → Prop} {D : Dv} {P : Pg} (hb : W.heap[p]? = some (.cells (P.cells g f (.slice none 0 0) (.slice none 0 0)) 211 (0, 0))) (hd : DevAt W g F D) (hf : FrAt W f FF P.fr) (e1 : P.put = []) (e2 : P.drop = []) (hk : P.s.ok) (lF : ∀ i, F i → i < B) (gFF : ∀ i, FF i → B ≤ i) (hp : B ≤ p) (hpf : ¬ FF p) :
    PgAt W p g (fun i => F i ∨ FF i ∨ i = p) D P := by
  refine ⟨f, _, _, F, FF, hb, hd, hf, by rw [e1]; exact Own.nil, by rw [e2]; exact Own.nil, ⟨fun i hi => ⟨.inl hi, fun q => ?_, ?_⟩, fun i hi => ⟨.inr (.inl hi), fun q => ?_, ?_⟩, .inr (.inr rfl), (fun k hk => by cases hk), (fun k hk => by cases hk), ?_⟩, hk⟩
  · have := lF i hi; have := gFF i q; omega
  · have := lF i hi; omega
  · have := lF i q; have := gFF i hi; omega
  · exact fun q => hpf (q ▸ hi)
  · rintro i (hi | hi | hi)
    · exact hd.lt i hi
    · exact hf.lt i hi
    · rw [hi]; exact blk_lt hb
section
variable {w : World} {g : Nat} {F : Nat → Prop} {D : Dv}
set_option maxRecDepth 100000 in
set_option maxHeartbeats 2000000 in
theorem open_calls (h : DevAt w g F D) : Calls Tryz.prog 120 #[.pointer (some ⟨g, 0, none⟩)] w fun e w' => OpenR w w' g F D e := by
  have HD := Lib.hid h
  have hl := Lib.hid (load_calls h)
  have hsok := load_ok D
  obtain ⟨s, hs⟩ : ∃ s, (loadR D).1 = s := ⟨_, rfl⟩
  obtain ⟨er, her⟩ : ∃ er, (loadR D).2 = er := ⟨_, rfl⟩
  rw [hs] at hsok
  rw [hs, her] at hl
  have hnl := h.n_le
  clear h
  go_enter Tryz.func120, Tryz.ntmps120
  go_wp2_with fail
  refine hl.out.mono ?_
  rintro e w1 ⟨rfl, hb1⟩
  have B1 := Lib.hid hb1
  clear hb1 hl
  by_cases he : er = 0
  case' neg =>
    have hO : Hid (openR D = (none, er)) := by
      show _ = _
      unfold openR
      simp only [her]
      rw [if_pos he]
    have heb : (er != 0) = true := by simpa using he
    unfold supV
    go_wp2
    go_ret3
    exact .inr ⟨er, hO.out, he, rfl, bl_alloc B1.out _⟩
  subst he
  have heb : ((0 : Int) != 0) = false := rfl
  obtain ⟨W1, hW1⟩ : ∃ W, w1.alloc (.cells #[.int .u64 s.epoch, .int .u32 s.start, .int .u32 s.pages, .int .u32 s.size] 209) = W := ⟨_, rfl⟩
  have hS0 : OpS w w1.heap.size s W1.drew := by
    rw [← hW1]
    exact ⟨(supAt_new w1 s _ rfl).below (Below.refl _ _).drew, (bl_alloc B1.out _).drew⟩
  unfold supV
  have hpg := Lib.hid (pages_calls (HD.out.below (by have := hS0.2; exact this)))
  go_wp2
  refine wp_region_noPanic ?_
  refine wp_region_held_drew (S := OpS w w1.heap.size s) (by kernel_rfl) (hS0) (fun hHeld => ?_)
  refine wpAnyH_take (i := 0) (oi := ⟨some 18, _, _, _, _, _⟩) (v := ?_) rfl (by kernel_rfl) (by kernel_rfl) (by kernel_rfl) (fun _ _ _ h => h) (Or.inl ⟨by rfl, ?_⟩) (by assumption) ?_
  rotate_left
  · (intro w hSw; (try dsimp only at hSw); have kk := hSw.1.cells; obtain ⟨k0, k1, k2, k3⟩ := kk; have kl := hSw.1.2; (go_simp <;> with_reducible rfl))
  try simp only [Act.put, List.setIfInBounds_toArray, List.set_cons_zero, List.set_cons_succ]
  refine wpAnyH_take (i := 1) (oi := ⟨some 19, _, _, _, _, _⟩) (v := ?_) rfl (by kernel_rfl) (by kernel_rfl) (by kernel_rfl) (fun _ _ _ h => h) (Or.inl ⟨by rfl, ?_⟩) (by assumption) ?_
  rotate_left
  · (intro w hSw; (try dsimp only at hSw); have kk := hSw.1.cells; obtain ⟨k0, k1, k2, k3⟩ := kk; have kl := hSw.1.2; (go_simp <;> with_reducible rfl))
  try simp only [Act.put, List.setIfInBounds_toArray, List.set_cons_zero, List.set_cons_succ]
  refine wpAnyH_take (i := 2) (oi := ⟨some 20, _, _, _, _, _⟩) (v := ?_) rfl (by kernel_rfl) (by kernel_rfl) (by kernel_rfl) (fun _ _ _ h => h) (Or.inl ⟨by rfl, ?_⟩) (by assumption) ?_
  rotate_left
  · (intro w hSw; (try dsimp only at hSw); have kk := hSw.1.cells; obtain ⟨k0, k1, k2, k3⟩ := kk; have kl := hSw.1.2; (go_simp <;> with_reducible rfl))
  try simp only [Act.put, List.setIfInBounds_toArray, List.set_cons_zero, List.set_cons_succ]
  refine wpAnyH_ready (rs := [3]) (by kernel_rfl) (by simp) ?_
  refine AllReadyH.cons rfl (fun K hK => ?_) AllReadyH.nil
  go_simp
  go_at_call 161
  refine hpg.out.mono ?_
  rintro e w3 ⟨rfl, rfl⟩
  refine hK.out _ _ (by assumption) (fun _ => ?_)
  clear hK K
  try simp only [Act.put, List.setIfInBounds_toArray, List.set_cons_zero, List.set_cons_succ]
  refine wpAnyH_ready (rs := [4]) (by kernel_rfl) (by simp) ?_
  refine AllReadyH.cons rfl (fun K hK => ?_) AllReadyH.nil
  go_simp
  go_at_call 160
  refine (newFr_calls _ 1 ((D.n : Int) / 4) (by omega) (by omega)).mono ?_
  rintro e w4 ⟨f, FF, rfl, hf, hF, hb4⟩
  have S4 := hS0.below hb4
  have HF4 := Lib.hid hf
  have HFl := Lib.hid hF
  have B4 := Lib.hid hb4
  obtain ⟨W5, hW5⟩ : ∃ W, w4.alloc (.cells #[.pointer (some ⟨g, 0, none⟩), .int .u64 s.epoch, .int .u32 s.start, .int .u32 s.pages, .int .u32 s.size, .pointer (some ⟨f, 0, none⟩), .slice none 0 0, .slice none 0 0, .bool false] 211) = W := ⟨_, rfl⟩
  have S5 : OpS w w1.heap.size s W5 := hW5 ▸ S4.below (bl_alloc (Below.refl _ w4) _)
  clear hf hF hb4
  refine hK.out _ _ (by assumption) (fun _ => ?_)
  clear hK K
  try simp only [Act.put, List.setIfInBounds_toArray, List.set_cons_zero, List.set_cons_succ]
  refine wpAnyH_take (i := 5) (oi := ⟨some 23, _, _, _, _, _⟩) (v := ?_) rfl (by kernel_rfl) (by kernel_rfl) (by kernel_rfl) (fun _ _ _ h => h) (Or.inl ⟨by rfl, ?_⟩) (by assumption) ?_
  rotate_left
  · (intro w hSw; (try dsimp only at hSw); have kk := hSw.1.cells; obtain ⟨k0, k1, k2, k3⟩ := kk; have kl := hSw.1.2; (go_simp <;> with_reducible rfl))
  try simp only [Act.put, List.setIfInBounds_toArray, List.set_cons_zero, List.set_cons_succ]
  refine wpAnyH_ready (rs := [6]) (by kernel_rfl) (by simp) ?_
  refine AllReadyH.cons rfl (fun K hK => ?_) AllReadyH.nil
  go_simp
  refine hK.out _ _ (by assumption) (fun _ => ?_)
  clear hK K
  try simp only [Act.put, List.setIfInBounds_toArray, List.set_cons_zero, List.set_cons_succ]
  refine wpAnyH_take (i := 7) (oi := ⟨some 7, _, _, _, _, _⟩) (v := ?_) rfl (by kernel_rfl) (by kernel_rfl) (by kernel_rfl) (fun _ _ _ h => h) (Or.inl ⟨by rfl, ?_⟩) (by assumption) ?_
  rotate_left
  · (intro w hSw; (try dsimp only at hSw); have kk := hSw.1.cells; obtain ⟨k0, k1, k2, k3⟩ := kk; have kl := hSw.1.2; (go_simp <;> with_reducible rfl))
  try simp only [Act.put, List.setIfInBounds_toArray, List.set_cons_zero, List.set_cons_succ]
  refine wpAnyH_done (by kernel_rfl) ?_ _
  refine NoPanic.normal ?_
  -- behind region 4 (mk_pgopen.py)
  obtain ⟨ep, st, pgs, sz⟩ := s
  obtain ⟨p, hp⟩ : ∃ p, w4.heap.size = p := ⟨_, rfl⟩
  obtain ⟨b0, hb0⟩ : ∃ b, w1.heap.size = b := ⟨_, rfl⟩
  obtain ⟨P0, hP0⟩ : ∃ P : Pg, (⟨⟨ep, st, pgs, sz⟩, Fr.new 1 ((D.n : Int) / 4), [], [], false⟩ : Pg) = P := ⟨_, rfl⟩
  have hPs : P0.s = ⟨ep, st, pgs, sz⟩ := by rw [← hP0]
  have hw1 : w.heap.size ≤ W1.drew.heap.size := hS0.2.size
  have hw4 : W1.drew.heap.size ≤ w4.heap.size := B4.out.size
  have HWp : Hid (W5.heap[p]? = some (.cells (P0.cells g f (.slice none 0 0) (.slice none 0 0)) 211 (0, 0))) := by
    show _ = _
    rw [← hW5, ← hp, ← hP0]
    exact blk_new w4 _
  have hb45 : Below w4.heap.size w4 W5 := by rw [← hW5]; exact bl_alloc (Below.refl _ w4) _
  have HF5 : Hid (FrAt W5 f FF P0.fr) := by rw [← hP0]; exact HF4.out.below hb45
  have hpw : w.heap.size ≤ p := by omega
  have hpF : Hid (¬ FF p) := fun q => by have := HF4.out.lt p q; omega
  have hbF : Hid (¬ FF b0) := fun q => by have := HFl.out b0 q; have := hS0.1.2; omega
  have hFFw : Hid (∀ i, FF i → w.heap.size ≤ i) := fun i hi => by have := HFl.out i hi; omega
  have hpl : p < W5.heap.size := blk_lt HWp.out
  have hPe : P0.put = [] ∧ P0.drop = [] := by rw [← hP0]; exact ⟨rfl, rfl⟩
  have hP0f : Hid (P0.fr.n ≤ 16384 ∧ P0.fr.lo = 1) := by
    have := HF4.out.okD.n1
    show _ ∧ _
    rw [← hP0]
    exact ⟨this, rfl⟩
  have hO1 : Hid (openR D = (if pgs = 0 ∧ st = 0 ∧ sz = 0 then (some (P0, []), 0) else if 131072 < sz ∨ pgs ≠ needP sz ∨ (P0.fr.claim ⟨st, pgs⟩).1 = false then (none, 50) else if (readT D st sz).2 ≠ 0 then (none, (readT D st sz).2) else (some ({ P0 with fr := (P0.fr.claim ⟨st, pgs⟩).2 }, (readT D st sz).1), 0))) := by
    show _ = _
    unfold openR
    simp only [her, hs]
    rw [if_neg (by simp), ← hP0]
    rfl
  have B5 := Lib.hid S5.2
  have hS5 := Lib.hid S5.1
  have PA : Hid (PgAt W5 p g (fun i => F i ∨ FF i ∨ i = p) D P0) := pg_new HWp.out (HD.out.below B5.out) HF5.out hPe.1 hPe.2 (by rw [hPs]; exact hsok) HD.out.lt hFFw.out hpw hpF.out
  have hF0 : Hid (∀ i, (F i ∨ FF i ∨ i = p) → F i ∨ w.heap.size ≤ i) := by
    rintro i (hi | hi | hi)
    · exact .inl hi
    · exact .inr (hFFw.out i hi)
    · exact .inr (by omega)
  obtain ⟨o0, o1, o2, o3⟩ := S5.1.cells
  have ol := S5.1.2
  rw [hb0] at o0 o1 o2 o3 ol hS5 ⊢
  rw [hp]
  clear hS0 hpg S4 HF4 HFl B4 hb45 hP0 her hs hW1 hW5 S5 hw1 hw4 B1 hp hHeld hb0
  by_cases hall : pgs = 0 ∧ st = 0 ∧ sz = 0
  · obtain ⟨rfl, rfl, rfl⟩ := hall
    have hO : Hid (openR D = (some (P0, []), 0)) := by show _ = _; rw [hO1.out, if_pos ⟨rfl, rfl, rfl⟩]
    go_wp2
    go_ret3
    exact .inl ⟨P0, [], p, _, none, 0, hO.out, rfl, Nat.le_refl _, .inl rfl, (fun a ha => by cases ha), PA.out, hF0.out, B5.out⟩
  have hO2 : Hid (openR D = (if 131072 < sz ∨ pgs ≠ needP sz ∨ (P0.fr.claim ⟨st, pgs⟩).1 = false then (none, 50) else if (readT D st sz).2 ≠ 0 then (none, (readT D st sz).2) else (some ({ P0 with fr := (P0.fr.claim ⟨st, pgs⟩).2 }, (readT D st sz).1), 0))) := by
    show _ = _
    rw [hO1.out, if_neg hall]
  have hroot : Hid (Calls Tryz.prog 134 #[.pointer (some ⟨p, 0, none⟩)] W5 fun e w' => e = .returned (.agg #[.int .i64 st, .int .i64 pgs]) ∧ Below W5.heap.size W5 w') := by
    have := proot_calls PA.out
    rw [hPs] at this
    exact this
  have HK := Lib.hid hsok
  obtain ⟨q0, q1⟩ := hsok.1
  obtain ⟨q2, q3⟩ := hsok.2.1
  obtain ⟨q4, q5⟩ := hsok.2.2.1
  obtain ⟨q6, q7⟩ := hsok.2.2.2
  dsimp only at q0 q1 q2 q3 q4 q5 q6 q7
  have wst : IntKind.i64.wrap st = st := wrapI (by omega)
  have wpg : IntKind.i64.wrap pgs = pgs := wrapI (by omega)
  have wsz : IntKind.i64.wrap sz = sz := wrapI (by omega)
  clear hO1 hsok PA hF0
  by_cases hp0 : pgs = 0
  case' pos =>
    have hnz : pgs ≠ needP sz ∨ 131072 < sz := by
      by_cases q : (131072 : Int) < sz
      · exact .inr q
      · left
        rw [hp0, needP_ok (by omega) (by omega)]; omega
    have hpb : (pgs == 0) = true := by rw [hp0]; rfl
    by_cases hs0 : st = 0
    case' pos =>
      have hz0 : sz ≠ 0 := fun q => hall ⟨hp0, hs0, q⟩
      have hzb : (sz == 0) = false := by rw [beq_eq_false_iff_ne]; exact hz0
      have hsb : (st == 0) = true := by rw [hs0]; rfl
      clear hall hz0 hp0 hs0
      by_cases hbig : (131072 : Int) < sz
      · skip
        go_wp2_with fail
        refine hroot.out.mono ?_
        rintro e w6 ⟨rfl, hb6⟩
        obtain ⟨r, hr⟩ : ∃ r, w6.heap.size = r := ⟨_, rfl⟩
        obtain ⟨W7, hW7⟩ : ∃ W, w6.alloc (.cells #[.int .i64 st, .int .i64 pgs] 160) = W := ⟨_, rfl⟩
        have hb7 : Below W5.heap.size W5 W7.drew := by rw [← hW7]; exact (bl_then hb6 hb6.size (bl_alloc (Below.refl _ w6) _)).drew
        have hr7 : W7.drew.heap[r]? = some (.cells #[.int .i64 st, .int .i64 pgs] 160 (0, 0)) := by rw [← hW7, ← hr]; exact blk_new w6 _
        have HWp7 := Lib.hid (blk_below hb7 HWp.out hpl)
        have hT0 : OpT b0 r p f ⟨ep, st, pgs, sz⟩ W7.drew := ⟨hS5.out.below hb7, hr7, by rw [blk_cell HWp7.out]; rfl⟩
        have HF7 := Lib.hid (HF5.out.below hb7)
        have B7 : Hid (Below w.heap.size w W7.drew) := bl_then B5.out B5.out.size hb7
        have hrF : Hid (¬ FF r ∧ ¬ FF b0 ∧ r < W7.drew.heap.size ∧ b0 < W7.drew.heap.size) := ⟨fun q => by have := HF5.out.lt r q; have := hb6.size; omega, hbF.out, blk_lt hr7, (hS5.out.below hb7).2⟩
        have HC := Lib.hid (claim_calls HF7.out ⟨st, pgs⟩)
        have HT : Hid (∀ w9 fr', FrDid FF W7.drew w9 f fr' → OpT b0 r p f ⟨ep, st, pgs, sz⟩ w9) := fun w9 fr' hd9 => by
          obtain ⟨F3, d3, ch3, s3⟩ := hd9
          refine ⟨⟨ch3.blk hT0.1.1 hrF.out.2.1, Nat.lt_of_lt_of_le hT0.1.2 ch3.size⟩, ch3.blk hr7 hrF.out.1, ?_⟩
          rw [blk_cell (ch3.blk HWp7.out hpF.out)]
          rfl
        clear hb6 hb7 hr7
        have hO : Hid (openR D = (none, 50)) := by show _ = _; rw [hO2.out, if_pos (.inl hbig)]
        go_wp2
        refine wp_region_noPanic ?_
        refine wp_region_held_drew (S := OpT b0 r p f ⟨ep, st, pgs, sz⟩) (by kernel_rfl) (hT0) (fun hHeld => ?_)
        refine wpAnyH_take (i := 0) (oi := ⟨some 41, _, _, _, _, _⟩) (v := ?_) rfl (by kernel_rfl) (by kernel_rfl) (by kernel_rfl) (fun _ _ _ h => h) (Or.inl ⟨by rfl, ?_⟩) (by assumption) ?_
        rotate_left
        · (intro w hSw; (try dsimp only at hSw); obtain ⟨kS, kr, k5⟩ := hSw; obtain ⟨k0, k1, k2, k3⟩ := kS.cells; have kl := kS.2; have kc0 := blk_cell kr 0; have kc1 := blk_cell kr 1; have klr := blk_lt kr; (go_simp <;> with_reducible rfl))
        try simp only [Act.put, List.setIfInBounds_toArray, List.set_cons_zero, List.set_cons_succ]
        refine wpAnyH_take (i := 1) (oi := ⟨some 42, _, _, _, _, _⟩) (v := ?_) rfl (by kernel_rfl) (by kernel_rfl) (by kernel_rfl) (fun _ _ _ h => h) (Or.inl ⟨by rfl, ?_⟩) (by assumption) ?_
        rotate_left
        · (intro w hSw; (try dsimp only at hSw); obtain ⟨kS, kr, k5⟩ := hSw; obtain ⟨k0, k1, k2, k3⟩ := kS.cells; have kl := kS.2; have kc0 := blk_cell kr 0; have kc1 := blk_cell kr 1; have klr := blk_lt kr; (go_simp <;> with_reducible rfl))
        try simp only [Act.put, List.setIfInBounds_toArray, List.set_cons_zero, List.set_cons_succ]
        refine wpAnyH_take (i := 2) (oi := ⟨some 43, _, _, _, _, _⟩) (v := ?_) rfl (by kernel_rfl) (by kernel_rfl) (by kernel_rfl) (fun _ _ _ h => h) (Or.inl ⟨by rfl, ?_⟩) (by assumption) ?_
        rotate_left
        · (intro w hSw; (try dsimp only at hSw); obtain ⟨kS, kr, k5⟩ := hSw; obtain ⟨k0, k1, k2, k3⟩ := kS.cells; have kl := kS.2; have kc0 := blk_cell kr 0; have kc1 := blk_cell kr 1; have klr := blk_lt kr; (go_simp <;> with_reducible rfl))
        try simp only [Act.put, List.setIfInBounds_toArray, List.set_cons_zero, List.set_cons_succ]
        refine wpAnyH_take (i := 3) (oi := ⟨some 44, _, _, _, _, _⟩) (v := ?_) rfl (by kernel_rfl) (by kernel_rfl) (by kernel_rfl) (fun _ _ _ h => h) (Or.inl ⟨by rfl, ?_⟩) (by assumption) ?_
        rotate_left
        · (intro w hSw; (try dsimp only at hSw); obtain ⟨kS, kr, k5⟩ := hSw; obtain ⟨k0, k1, k2, k3⟩ := kS.cells; have kl := kS.2; have kc0 := blk_cell kr 0; have kc1 := blk_cell kr 1; have klr := blk_lt kr; (go_simp <;> with_reducible rfl))
        try simp only [Act.put, List.setIfInBounds_toArray, List.set_cons_zero, List.set_cons_succ]
        refine wpAnyH_take (i := 4) (oi := ⟨some 45, _, _, _, _, _⟩) rfl (by kernel_rfl) (by kernel_rfl) (by kernel_rfl) (fun _ _ _ h => h) (Or.inr ⟨by rfl, rfl⟩) (by assumption) ?_
        try simp only [Act.put, List.setIfInBounds_toArray, List.set_cons_zero, List.set_cons_succ]
        refine wpAnyH_take (i := 5) (oi := ⟨some 46, _, _, _, _, _⟩) rfl (by kernel_rfl) (by kernel_rfl) (by kernel_rfl) (fun _ _ _ h => h) (Or.inr ⟨by rfl, rfl⟩) (by assumption) ?_
        try simp only [Act.put, List.setIfInBounds_toArray, List.set_cons_zero, List.set_cons_succ]
        refine wpAnyH_take (i := 6) (oi := ⟨some 47, _, _, _, _, _⟩) rfl (by kernel_rfl) (by kernel_rfl) (by kernel_rfl) (fun _ _ _ h => h) (Or.inr ⟨by rfl, rfl⟩) (by assumption) ?_
        try simp only [Act.put, List.setIfInBounds_toArray, List.set_cons_zero, List.set_cons_succ]
        refine wpAnyH_take (i := 7) (oi := ⟨some 48, _, _, _, _, _⟩) rfl (by kernel_rfl) (by kernel_rfl) (by kernel_rfl) (fun _ _ _ h => h) (Or.inr ⟨by rfl, rfl⟩) (by assumption) ?_
        try simp only [Act.put, List.setIfInBounds_toArray, List.set_cons_zero, List.set_cons_succ]
        refine wpAnyH_take (i := 8) (oi := ⟨some 49, _, _, _, _, _⟩) rfl (by kernel_rfl) (by kernel_rfl) (by kernel_rfl) (fun _ _ _ h => h) (Or.inr ⟨by rfl, rfl⟩) (by assumption) ?_
        try simp only [Act.put, List.setIfInBounds_toArray, List.set_cons_zero, List.set_cons_succ]
        refine wpAnyH_take (i := 9) (oi := ⟨some 50, _, _, _, _, _⟩) rfl (by kernel_rfl) (by kernel_rfl) (by kernel_rfl) (fun _ _ _ h => h) (Or.inr ⟨by rfl, rfl⟩) (by assumption) ?_
        try simp only [Act.put, List.setIfInBounds_toArray, List.set_cons_zero, List.set_cons_succ]
        refine wpAnyH_take (i := 10) (oi := ⟨some 51, _, _, _, _, _⟩) rfl (by kernel_rfl) (by kernel_rfl) (by kernel_rfl) (fun _ _ _ h => h) (Or.inr ⟨by rfl, rfl⟩) (by assumption) ?_
        try simp only [Act.put, List.setIfInBounds_toArray, List.set_cons_zero, List.set_cons_succ]
        refine wpAnyH_take (i := 11) (oi := ⟨some 52, _, _, _, _, _⟩) rfl (by kernel_rfl) (by kernel_rfl) (by kernel_rfl) (fun _ _ _ h => h) (Or.inr ⟨by rfl, rfl⟩) (by assumption) ?_
        try simp only [Act.put, List.setIfInBounds_toArray, List.set_cons_zero, List.set_cons_succ]
        refine wpAnyH_take (i := 12) (oi := ⟨some 53, _, _, _, _, _⟩) (v := ?_) rfl (by kernel_rfl) (by kernel_rfl) (by kernel_rfl) (fun _ _ _ h => h) (Or.inl ⟨by rfl, ?_⟩) (by assumption) ?_
        rotate_left
        · (intro w hSw; (try dsimp only at hSw); obtain ⟨kS, kr, k5⟩ := hSw; obtain ⟨k0, k1, k2, k3⟩ := kS.cells; have kl := kS.2; have kc0 := blk_cell kr 0; have kc1 := blk_cell kr 1; have klr := blk_lt kr; (go_simp <;> with_reducible rfl))
        try simp only [Act.put, List.setIfInBounds_toArray, List.set_cons_zero, List.set_cons_succ]
        refine wpAnyH_take (i := 13) (oi := ⟨some 54, _, _, _, _, _⟩) (v := ?_) rfl (by kernel_rfl) (by kernel_rfl) (by kernel_rfl) (fun _ _ _ h => h) (Or.inl ⟨by rfl, ?_⟩) (by assumption) ?_
        rotate_left
        · (intro w hSw; (try dsimp only at hSw); obtain ⟨kS, kr, k5⟩ := hSw; obtain ⟨k0, k1, k2, k3⟩ := kS.cells; have kl := kS.2; have kc0 := blk_cell kr 0; have kc1 := blk_cell kr 1; have klr := blk_lt kr; (go_simp <;> with_reducible rfl))
        try simp only [Act.put, List.setIfInBounds_toArray, List.set_cons_zero, List.set_cons_succ]
        refine wpAnyH_take (i := 14) (oi := ⟨some 55, _, _, _, _, _⟩) rfl (by kernel_rfl) (by kernel_rfl) (by kernel_rfl) (fun _ _ _ h => h) (Or.inr ⟨by rfl, rfl⟩) (by assumption) ?_
        try simp only [Act.put, List.setIfInBounds_toArray, List.set_cons_zero, List.set_cons_succ]
        refine wpAnyH_take (i := 15) (oi := ⟨some 56, _, _, _, _, _⟩) rfl (by kernel_rfl) (by kernel_rfl) (by kernel_rfl) (fun _ _ _ h => h) (Or.inr ⟨by rfl, rfl⟩) (by assumption) ?_
        try simp only [Act.put, List.setIfInBounds_toArray, List.set_cons_zero, List.set_cons_succ]
        refine wpAnyH_take (i := 16) (oi := ⟨some 57, _, _, _, _, _⟩) rfl (by kernel_rfl) (by kernel_rfl) (by kernel_rfl) (fun _ _ _ h => h) (Or.inr ⟨by rfl, rfl⟩) (by assumption) ?_
        try simp only [Act.put, List.setIfInBounds_toArray, List.set_cons_zero, List.set_cons_succ]
        refine wpAnyH_take (i := 17) (oi := ⟨some 58, _, _, _, _, _⟩) rfl (by kernel_rfl) (by kernel_rfl) (by kernel_rfl) (fun _ _ _ h => h) (Or.inr ⟨by rfl, rfl⟩) (by assumption) ?_
        try simp only [Act.put, List.setIfInBounds_toArray, List.set_cons_zero, List.set_cons_succ]
        refine wpAnyH_take (i := 18) (oi := ⟨some 59, _, _, _, _, _⟩) rfl (by kernel_rfl) (by kernel_rfl) (by kernel_rfl) (fun _ _ _ h => h) (Or.inr ⟨by rfl, rfl⟩) (by assumption) ?_
        try simp only [Act.put, List.setIfInBounds_toArray, List.set_cons_zero, List.set_cons_succ]
        refine wpAnyH_take (i := 19) (oi := ⟨some 60, _, _, _, _, _⟩) rfl (by kernel_rfl) (by kernel_rfl) (by kernel_rfl) (fun _ _ _ h => h) (Or.inr ⟨by rfl, rfl⟩) (by assumption) ?_
        try simp only [Act.put, List.setIfInBounds_toArray, List.set_cons_zero, List.set_cons_succ]
        refine wpAnyH_take (i := 20) (oi := ⟨some 61, _, _, _, _, _⟩) rfl (by kernel_rfl) (by kernel_rfl) (by kernel_rfl) (fun _ _ _ h => h) (Or.inr ⟨by rfl, rfl⟩) (by assumption) ?_
        try simp only [Act.put, List.setIfInBounds_toArray, List.set_cons_zero, List.set_cons_succ]
        refine wpAnyH_take (i := 21) (oi := ⟨some 62, _, _, _, _, _⟩) (v := ?_) rfl (by kernel_rfl) (by kernel_rfl) (by kernel_rfl) (fun _ _ _ h => h) (Or.inl ⟨by rfl, ?_⟩) (by assumption) ?_
        rotate_left
        · (intro w hSw; (try dsimp only at hSw); obtain ⟨kS, kr, k5⟩ := hSw; obtain ⟨k0, k1, k2, k3⟩ := kS.cells; have kl := kS.2; have kc0 := blk_cell kr 0; have kc1 := blk_cell kr 1; have klr := blk_lt kr; (go_simp <;> with_reducible rfl))
        try simp only [Act.put, List.setIfInBounds_toArray, List.set_cons_zero, List.set_cons_succ]
        refine wpAnyH_done (by kernel_rfl) ?_ _
        refine NoPanic.normal ?_
        go_wp2
        go_ret3
        exact .inr ⟨50, hO.out, by decide, rfl, B7.out⟩
      · have hodd : pgs ≠ needP sz := hnz.resolve_right hbig
        have hbd : decide ((131072 : Int) < sz) = false := by simpa using hbig
        clear hbig
        go_wp2_with fail
        refine hroot.out.mono ?_
        rintro e w6 ⟨rfl, hb6⟩
        obtain ⟨r, hr⟩ : ∃ r, w6.heap.size = r := ⟨_, rfl⟩
        obtain ⟨W7, hW7⟩ : ∃ W, w6.alloc (.cells #[.int .i64 st, .int .i64 pgs] 160) = W := ⟨_, rfl⟩
        have hb7 : Below W5.heap.size W5 W7.drew := by rw [← hW7]; exact (bl_then hb6 hb6.size (bl_alloc (Below.refl _ w6) _)).drew
        have hr7 : W7.drew.heap[r]? = some (.cells #[.int .i64 st, .int .i64 pgs] 160 (0, 0)) := by rw [← hW7, ← hr]; exact blk_new w6 _
        have HWp7 := Lib.hid (blk_below hb7 HWp.out hpl)
        have hT0 : OpT b0 r p f ⟨ep, st, pgs, sz⟩ W7.drew := ⟨hS5.out.below hb7, hr7, by rw [blk_cell HWp7.out]; rfl⟩
        have HF7 := Lib.hid (HF5.out.below hb7)
        have B7 : Hid (Below w.heap.size w W7.drew) := bl_then B5.out B5.out.size hb7
        have hrF : Hid (¬ FF r ∧ ¬ FF b0 ∧ r < W7.drew.heap.size ∧ b0 < W7.drew.heap.size) := ⟨fun q => by have := HF5.out.lt r q; have := hb6.size; omega, hbF.out, blk_lt hr7, (hS5.out.below hb7).2⟩
        have HC := Lib.hid (claim_calls HF7.out ⟨st, pgs⟩)
        have HT : Hid (∀ w9 fr', FrDid FF W7.drew w9 f fr' → OpT b0 r p f ⟨ep, st, pgs, sz⟩ w9) := fun w9 fr' hd9 => by
          obtain ⟨F3, d3, ch3, s3⟩ := hd9
          refine ⟨⟨ch3.blk hT0.1.1 hrF.out.2.1, Nat.lt_of_lt_of_le hT0.1.2 ch3.size⟩, ch3.blk hr7 hrF.out.1, ?_⟩
          rw [blk_cell (ch3.blk HWp7.out hpF.out)]
          rfl
        clear hb6 hb7 hr7
        have hO : Hid (openR D = (none, 50)) := by show _ = _; rw [hO2.out, if_pos (.inr (.inl hodd))]
        have hob : (pgs != needP sz) = true := by simpa using hodd
        go_wp2
        refine wp_region_noPanic ?_
        refine wp_region_held_drew (S := OpT b0 r p f ⟨ep, st, pgs, sz⟩) (by kernel_rfl) (hT0) (fun hHeld => ?_)
        refine wpAnyH_take (i := 0) (oi := ⟨some 41, _, _, _, _, _⟩) (v := ?_) rfl (by kernel_rfl) (by kernel_rfl) (by kernel_rfl) (fun _ _ _ h => h) (Or.inl ⟨by rfl, ?_⟩) (by assumption) ?_
        rotate_left
        · (intro w hSw; (try dsimp only at hSw); obtain ⟨kS, kr, k5⟩ := hSw; obtain ⟨k0, k1, k2, k3⟩ := kS.cells; have kl := kS.2; have kc0 := blk_cell kr 0; have kc1 := blk_cell kr 1; have klr := blk_lt kr; (go_simp <;> with_reducible rfl))
        try simp only [Act.put, List.setIfInBounds_toArray, List.set_cons_zero, List.set_cons_succ]
        refine wpAnyH_take (i := 1) (oi := ⟨some 42, _, _, _, _, _⟩) (v := ?_) rfl (by kernel_rfl) (by kernel_rfl) (by kernel_rfl) (fun _ _ _ h => h) (Or.inl ⟨by rfl, ?_⟩) (by assumption) ?_
        rotate_left
        · (intro w hSw; (try dsimp only at hSw); obtain ⟨kS, kr, k5⟩ := hSw; obtain ⟨k0, k1, k2, k3⟩ := kS.cells; have kl := kS.2; have kc0 := blk_cell kr 0; have kc1 := blk_cell kr 1; have klr := blk_lt kr; (go_simp <;> with_reducible rfl))
        try simp only [Act.put, List.setIfInBounds_toArray, List.set_cons_zero, List.set_cons_succ]
        refine wpAnyH_take (i := 2) (oi := ⟨some 43, _, _, _, _, _⟩) (v := ?_) rfl (by kernel_rfl) (by kernel_rfl) (by kernel_rfl) (fun _ _ _ h => h) (Or.inl ⟨by rfl, ?_⟩) (by assumption) ?_
        rotate_left
        · (intro w hSw; (try dsimp only at hSw); obtain ⟨kS, kr, k5⟩ := hSw; obtain ⟨k0, k1, k2, k3⟩ := kS.cells; have kl := kS.2; have kc0 := blk_cell kr 0; have kc1 := blk_cell kr 1; have klr := blk_lt kr; (go_simp <;> with_reducible rfl))
        try simp only [Act.put, List.setIfInBounds_toArray, List.set_cons_zero, List.set_cons_succ]
        refine wpAnyH_take (i := 3) (oi := ⟨some 44, _, _, _, _, _⟩) (v := ?_) rfl (by kernel_rfl) (by kernel_rfl) (by kernel_rfl) (fun _ _ _ h => h) (Or.inl ⟨by rfl, ?_⟩) (by assumption) ?_
        rotate_left
        · (intro w hSw; (try dsimp only at hSw); obtain ⟨kS, kr, k5⟩ := hSw; obtain ⟨k0, k1, k2, k3⟩ := kS.cells; have kl := kS.2; have kc0 := blk_cell kr 0; have kc1 := blk_cell kr 1; have klr := blk_lt kr; (go_simp <;> with_reducible rfl))
        try simp only [Act.put, List.setIfInBounds_toArray, List.set_cons_zero, List.set_cons_succ]
        refine wpAnyH_take (i := 4) (oi := ⟨some 45, _, _, _, _, _⟩) (v := ?_) rfl (by kernel_rfl) (by kernel_rfl) (by kernel_rfl) (fun _ _ _ h => h) (Or.inl ⟨by rfl, ?_⟩) (by assumption) ?_
        rotate_left
        · (intro w hSw; (try dsimp only at hSw); obtain ⟨kS, kr, k5⟩ := hSw; obtain ⟨k0, k1, k2, k3⟩ := kS.cells; have kl := kS.2; have kc0 := blk_cell kr 0; have kc1 := blk_cell kr 1; have klr := blk_lt kr; (go_simp <;> with_reducible rfl))
        try simp only [Act.put, List.setIfInBounds_toArray, List.set_cons_zero, List.set_cons_succ]
        refine wpAnyH_take (i := 5) (oi := ⟨some 46, _, _, _, _, _⟩) (v := ?_) rfl (by kernel_rfl) (by kernel_rfl) (by kernel_rfl) (fun _ _ _ h => h) (Or.inl ⟨by rfl, ?_⟩) (by assumption) ?_
        rotate_left
        · (intro w hSw; (try dsimp only at hSw); obtain ⟨kS, kr, k5⟩ := hSw; obtain ⟨k0, k1, k2, k3⟩ := kS.cells; have kl := kS.2; have kc0 := blk_cell kr 0; have kc1 := blk_cell kr 1; have klr := blk_lt kr; (go_simp <;> with_reducible rfl))
        try simp only [Act.put, List.setIfInBounds_toArray, List.set_cons_zero, List.set_cons_succ]
        refine wpAnyH_take (i := 6) (oi := ⟨some 47, _, _, _, _, _⟩) (v := ?_) rfl (by kernel_rfl) (by kernel_rfl) (by kernel_rfl) (fun _ _ _ h => h) (Or.inl ⟨by rfl, ?_⟩) (by assumption) ?_
        rotate_left
        · (intro w hSw; (try dsimp only at hSw); obtain ⟨kS, kr, k5⟩ := hSw; obtain ⟨k0, k1, k2, k3⟩ := kS.cells; have kl := kS.2; have kc0 := blk_cell kr 0; have kc1 := blk_cell kr 1; have klr := blk_lt kr; (go_simp <;> with_reducible rfl))
        try simp only [Act.put, List.setIfInBounds_toArray, List.set_cons_zero, List.set_cons_succ]
        refine wpAnyH_take (i := 7) (oi := ⟨some 48, _, _, _, _, _⟩) (v := ?_) rfl (by kernel_rfl) (by kernel_rfl) (by kernel_rfl) (fun _ _ _ h => h) (Or.inl ⟨by rfl, ?_⟩) (by assumption) ?_
        rotate_left
        · (intro w hSw; (try dsimp only at hSw); obtain ⟨kS, kr, k5⟩ := hSw; obtain ⟨k0, k1, k2, k3⟩ := kS.cells; have kl := kS.2; have kc0 := blk_cell kr 0; have kc1 := blk_cell kr 1; have klr := blk_lt kr; (go_simp <;> with_reducible rfl))
        try simp only [Act.put, List.setIfInBounds_toArray, List.set_cons_zero, List.set_cons_succ]
        refine wpAnyH_take (i := 8) (oi := ⟨some 49, _, _, _, _, _⟩) (v := ?_) rfl (by kernel_rfl) (by kernel_rfl) (by kernel_rfl) (fun _ _ _ h => h) (Or.inl ⟨by rfl, ?_⟩) (by assumption) ?_
        rotate_left
        · (intro w hSw; (try dsimp only at hSw); obtain ⟨kS, kr, k5⟩ := hSw; obtain ⟨k0, k1, k2, k3⟩ := kS.cells; have kl := kS.2; have kc0 := blk_cell kr 0; have kc1 := blk_cell kr 1; have klr := blk_lt kr; (go_simp <;> with_reducible rfl))
        try simp only [Act.put, List.setIfInBounds_toArray, List.set_cons_zero, List.set_cons_succ]
        refine wpAnyH_take (i := 9) (oi := ⟨some 50, _, _, _, _, _⟩) (v := ?_) rfl (by kernel_rfl) (by kernel_rfl) (by kernel_rfl) (fun _ _ _ h => h) (Or.inl ⟨by rfl, ?_⟩) (by assumption) ?_
        rotate_left
        · (intro w hSw; (try dsimp only at hSw); obtain ⟨kS, kr, k5⟩ := hSw; obtain ⟨k0, k1, k2, k3⟩ := kS.cells; have kl := kS.2; have kc0 := blk_cell kr 0; have kc1 := blk_cell kr 1; have klr := blk_lt kr; (go_simp <;> with_reducible rfl))
        try simp only [Act.put, List.setIfInBounds_toArray, List.set_cons_zero, List.set_cons_succ]
        refine wpAnyH_ready (rs := [10]) (by kernel_rfl) (by simp) ?_
        refine AllReadyH.cons rfl (fun K hK => ?_) AllReadyH.nil
        go_simp
        go_at_call 125
        refine (need_calls _ sz (by omega) (by omega)).mono ?_
        rintro e w9 ⟨rfl, rfl⟩
        refine hK.out _ _ (by assumption) (fun _ => ?_)
        clear hK K
        try simp only [Act.put, List.setIfInBounds_toArray, List.set_cons_zero, List.set_cons_succ]
        refine wpAnyH_take (i := 11) (oi := ⟨some 52, _, _, _, _, _⟩) (v := ?_) rfl (by kernel_rfl) (by kernel_rfl) (by kernel_rfl) (fun _ _ _ h => h) (Or.inl ⟨by rfl, ?_⟩) (by assumption) ?_
        rotate_left
        · (intro w hSw; (try dsimp only at hSw); obtain ⟨kS, kr, k5⟩ := hSw; obtain ⟨k0, k1, k2, k3⟩ := kS.cells; have kl := kS.2; have kc0 := blk_cell kr 0; have kc1 := blk_cell kr 1; have klr := blk_lt kr; (go_simp <;> with_reducible rfl))
        try simp only [Act.put, List.setIfInBounds_toArray, List.set_cons_zero, List.set_cons_succ]
        refine wpAnyH_take (i := 12) (oi := ⟨some 53, _, _, _, _, _⟩) (v := ?_) rfl (by kernel_rfl) (by kernel_rfl) (by kernel_rfl) (fun _ _ _ h => h) (Or.inl ⟨by rfl, ?_⟩) (by assumption) ?_
        rotate_left
        · (intro w hSw; (try dsimp only at hSw); obtain ⟨kS, kr, k5⟩ := hSw; obtain ⟨k0, k1, k2, k3⟩ := kS.cells; have kl := kS.2; have kc0 := blk_cell kr 0; have kc1 := blk_cell kr 1; have klr := blk_lt kr; (go_simp <;> with_reducible rfl))
        try simp only [Act.put, List.setIfInBounds_toArray, List.set_cons_zero, List.set_cons_succ]
        refine wpAnyH_take (i := 13) (oi := ⟨some 54, _, _, _, _, _⟩) (v := ?_) rfl (by kernel_rfl) (by kernel_rfl) (by kernel_rfl) (fun _ _ _ h => h) (Or.inl ⟨by rfl, ?_⟩) (by assumption) ?_
        rotate_left
        · (intro w hSw; (try dsimp only at hSw); obtain ⟨kS, kr, k5⟩ := hSw; obtain ⟨k0, k1, k2, k3⟩ := kS.cells; have kl := kS.2; have kc0 := blk_cell kr 0; have kc1 := blk_cell kr 1; have klr := blk_lt kr; (go_simp <;> with_reducible rfl))
        try simp only [Act.put, List.setIfInBounds_toArray, List.set_cons_zero, List.set_cons_succ]
        refine wpAnyH_take (i := 14) (oi := ⟨some 55, _, _, _, _, _⟩) rfl (by kernel_rfl) (by kernel_rfl) (by kernel_rfl) (fun _ _ _ h => h) (Or.inr ⟨by rfl, rfl⟩) (by assumption) ?_
        try simp only [Act.put, List.setIfInBounds_toArray, List.set_cons_zero, List.set_cons_succ]
        refine wpAnyH_take (i := 15) (oi := ⟨some 56, _, _, _, _, _⟩) rfl (by kernel_rfl) (by kernel_rfl) (by kernel_rfl) (fun _ _ _ h => h) (Or.inr ⟨by rfl, rfl⟩) (by assumption) ?_
        try simp only [Act.put, List.setIfInBounds_toArray, List.set_cons_zero, List.set_cons_succ]
        refine wpAnyH_take (i := 16) (oi := ⟨some 57, _, _, _, _, _⟩) rfl (by kernel_rfl) (by kernel_rfl) (by kernel_rfl) (fun _ _ _ h => h) (Or.inr ⟨by rfl, rfl⟩) (by assumption) ?_
        try simp only [Act.put, List.setIfInBounds_toArray, List.set_cons_zero, List.set_cons_succ]
        refine wpAnyH_take (i := 17) (oi := ⟨some 58, _, _, _, _, _⟩) rfl (by kernel_rfl) (by kernel_rfl) (by kernel_rfl) (fun _ _ _ h => h) (Or.inr ⟨by rfl, rfl⟩) (by assumption) ?_
        try simp only [Act.put, List.setIfInBounds_toArray, List.set_cons_zero, List.set_cons_succ]
        refine wpAnyH_take (i := 18) (oi := ⟨some 59, _, _, _, _, _⟩) rfl (by kernel_rfl) (by kernel_rfl) (by kernel_rfl) (fun _ _ _ h => h) (Or.inr ⟨by rfl, rfl⟩) (by assumption) ?_
        try simp only [Act.put, List.setIfInBounds_toArray, List.set_cons_zero, List.set_cons_succ]
        refine wpAnyH_take (i := 19) (oi := ⟨some 60, _, _, _, _, _⟩) rfl (by kernel_rfl) (by kernel_rfl) (by kernel_rfl) (fun _ _ _ h => h) (Or.inr ⟨by rfl, rfl⟩) (by assumption) ?_
        try simp only [Act.put, List.setIfInBounds_toArray, List.set_cons_zero, List.set_cons_succ]
        refine wpAnyH_take (i := 20) (oi := ⟨some 61, _, _, _, _, _⟩) rfl (by kernel_rfl) (by kernel_rfl) (by kernel_rfl) (fun _ _ _ h => h) (Or.inr ⟨by rfl, rfl⟩) (by assumption) ?_
        try simp only [Act.put, List.setIfInBounds_toArray, List.set_cons_zero, List.set_cons_succ]
        refine wpAnyH_take (i := 21) (oi := ⟨some 62, _, _, _, _, _⟩) (v := ?_) rfl (by kernel_rfl) (by kernel_rfl) (by kernel_rfl) (fun _ _ _ h => h) (Or.inl ⟨by rfl, ?_⟩) (by assumption) ?_
        rotate_left
        · (intro w hSw; (try dsimp only at hSw); obtain ⟨kS, kr, k5⟩ := hSw; obtain ⟨k0, k1, k2, k3⟩ := kS.cells; have kl := kS.2; have kc0 := blk_cell kr 0; have kc1 := blk_cell kr 1; have klr := blk_lt kr; (go_simp <;> with_reducible rfl))
        try simp only [Act.put, List.setIfInBounds_toArray, List.set_cons_zero, List.set_cons_succ]
        refine wpAnyH_done (by kernel_rfl) ?_ _
        refine NoPanic.normal ?_
        go_wp2
        go_ret3
        exact .inr ⟨50, hO.out, by decide, rfl, B7.out⟩
    have hsb : (st == 0) = false := by rw [beq_eq_false_iff_ne]; exact hs0
    clear hall hs0 hp0
    by_cases hbig : (131072 : Int) < sz
    · skip
      go_wp2_with fail
      refine hroot.out.mono ?_
      rintro e w6 ⟨rfl, hb6⟩
      obtain ⟨r, hr⟩ : ∃ r, w6.heap.size = r := ⟨_, rfl⟩
      obtain ⟨W7, hW7⟩ : ∃ W, w6.alloc (.cells #[.int .i64 st, .int .i64 pgs] 160) = W := ⟨_, rfl⟩
      have hb7 : Below W5.heap.size W5 W7.drew := by rw [← hW7]; exact (bl_then hb6 hb6.size (bl_alloc (Below.refl _ w6) _)).drew
      have hr7 : W7.drew.heap[r]? = some (.cells #[.int .i64 st, .int .i64 pgs] 160 (0, 0)) := by rw [← hW7, ← hr]; exact blk_new w6 _
      have HWp7 := Lib.hid (blk_below hb7 HWp.out hpl)
      have hT0 : OpT b0 r p f ⟨ep, st, pgs, sz⟩ W7.drew := ⟨hS5.out.below hb7, hr7, by rw [blk_cell HWp7.out]; rfl⟩
      have HF7 := Lib.hid (HF5.out.below hb7)
      have B7 : Hid (Below w.heap.size w W7.drew) := bl_then B5.out B5.out.size hb7
      have hrF : Hid (¬ FF r ∧ ¬ FF b0 ∧ r < W7.drew.heap.size ∧ b0 < W7.drew.heap.size) := ⟨fun q => by have := HF5.out.lt r q; have := hb6.size; omega, hbF.out, blk_lt hr7, (hS5.out.below hb7).2⟩
      have HC := Lib.hid (claim_calls HF7.out ⟨st, pgs⟩)
      have HT : Hid (∀ w9 fr', FrDid FF W7.drew w9 f fr' → OpT b0 r p f ⟨ep, st, pgs, sz⟩ w9) := fun w9 fr' hd9 => by
        obtain ⟨F3, d3, ch3, s3⟩ := hd9
        refine ⟨⟨ch3.blk hT0.1.1 hrF.out.2.1, Nat.lt_of_lt_of_le hT0.1.2 ch3.size⟩, ch3.blk hr7 hrF.out.1, ?_⟩
        rw [blk_cell (ch3.blk HWp7.out hpF.out)]
        rfl
      clear hb6 hb7 hr7
      have hO : Hid (openR D = (none, 50)) := by show _ = _; rw [hO2.out, if_pos (.inl hbig)]
      go_wp2
      refine wp_region_noPanic ?_
      refine wp_region_held_drew (S := OpT b0 r p f ⟨ep, st, pgs, sz⟩) (by kernel_rfl) (hT0) (fun hHeld => ?_)
      refine wpAnyH_take (i := 0) (oi := ⟨some 41, _, _, _, _, _⟩) (v := ?_) rfl (by kernel_rfl) (by kernel_rfl) (by kernel_rfl) (fun _ _ _ h => h) (Or.inl ⟨by rfl, ?_⟩) (by assumption) ?_
      rotate_left
      · (intro w hSw; (try dsimp only at hSw); obtain ⟨kS, kr, k5⟩ := hSw; obtain ⟨k0, k1, k2, k3⟩ := kS.cells; have kl := kS.2; have kc0 := blk_cell kr 0; have kc1 := blk_cell kr 1; have klr := blk_lt kr; (go_simp <;> with_reducible rfl))
      try simp only [Act.put, List.setIfInBounds_toArray, List.set_cons_zero, List.set_cons_succ]
      refine wpAnyH_take (i := 1) (oi := ⟨some 42, _, _, _, _, _⟩) (v := ?_) rfl (by kernel_rfl) (by kernel_rfl) (by kernel_rfl) (fun _ _ _ h => h) (Or.inl ⟨by rfl, ?_⟩) (by assumption) ?_
      rotate_left
      · (intro w hSw; (try dsimp only at hSw); obtain ⟨kS, kr, k5⟩ := hSw; obtain ⟨k0, k1, k2, k3⟩ := kS.cells; have kl := kS.2; have kc0 := blk_cell kr 0; have kc1 := blk_cell kr 1; have klr := blk_lt kr; (go_simp <;> with_reducible rfl))
      try simp only [Act.put, List.setIfInBounds_toArray, List.set_cons_zero, List.set_cons_succ]
      refine wpAnyH_take (i := 2) (oi := ⟨some 43, _, _, _, _, _⟩) (v := ?_) rfl (by kernel_rfl) (by kernel_rfl) (by kernel_rfl) (fun _ _ _ h => h) (Or.inl ⟨by rfl, ?_⟩) (by assumption) ?_
      rotate_left
      · (intro w hSw; (try dsimp only at hSw); obtain ⟨kS, kr, k5⟩ := hSw; obtain ⟨k0, k1, k2, k3⟩ := kS.cells; have kl := kS.2; have kc0 := blk_cell kr 0; have kc1 := blk_cell kr 1; have klr := blk_lt kr; (go_simp <;> with_reducible rfl))
      try simp only [Act.put, List.setIfInBounds_toArray, List.set_cons_zero, List.set_cons_succ]
      refine wpAnyH_take (i := 3) (oi := ⟨some 44, _, _, _, _, _⟩) (v := ?_) rfl (by kernel_rfl) (by kernel_rfl) (by kernel_rfl) (fun _ _ _ h => h) (Or.inl ⟨by rfl, ?_⟩) (by assumption) ?_
      rotate_left
      · (intro w hSw; (try dsimp only at hSw); obtain ⟨kS, kr, k5⟩ := hSw; obtain ⟨k0, k1, k2, k3⟩ := kS.cells; have kl := kS.2; have kc0 := blk_cell kr 0; have kc1 := blk_cell kr 1; have klr := blk_lt kr; (go_simp <;> with_reducible rfl))
      try simp only [Act.put, List.setIfInBounds_toArray, List.set_cons_zero, List.set_cons_succ]
      refine wpAnyH_take (i := 4) (oi := ⟨some 45, _, _, _, _, _⟩) rfl (by kernel_rfl) (by kernel_rfl) (by kernel_rfl) (fun _ _ _ h => h) (Or.inr ⟨by rfl, rfl⟩) (by assumption) ?_
      try simp only [Act.put, List.setIfInBounds_toArray, List.set_cons_zero, List.set_cons_succ]
      refine wpAnyH_take (i := 5) (oi := ⟨some 46, _, _, _, _, _⟩) rfl (by kernel_rfl) (by kernel_rfl) (by kernel_rfl) (fun _ _ _ h => h) (Or.inr ⟨by rfl, rfl⟩) (by assumption) ?_
      try simp only [Act.put, List.setIfInBounds_toArray, List.set_cons_zero, List.set_cons_succ]
      refine wpAnyH_take (i := 6) (oi := ⟨some 47, _, _, _, _, _⟩) rfl (by kernel_rfl) (by kernel_rfl) (by kernel_rfl) (fun _ _ _ h => h) (Or.inr ⟨by rfl, rfl⟩) (by assumption) ?_
      try simp only [Act.put, List.setIfInBounds_toArray, List.set_cons_zero, List.set_cons_succ]
      refine wpAnyH_take (i := 7) (oi := ⟨some 48, _, _, _, _, _⟩) rfl (by kernel_rfl) (by kernel_rfl) (by kernel_rfl) (fun _ _ _ h => h) (Or.inr ⟨by rfl, rfl⟩) (by assumption) ?_
      try simp only [Act.put, List.setIfInBounds_toArray, List.set_cons_zero, List.set_cons_succ]
      refine wpAnyH_take (i := 8) (oi := ⟨some 49, _, _, _, _, _⟩) rfl (by kernel_rfl) (by kernel_rfl) (by kernel_rfl) (fun _ _ _ h => h) (Or.inr ⟨by rfl, rfl⟩) (by assumption) ?_
      try simp only [Act.put, List.setIfInBounds_toArray, List.set_cons_zero, List.set_cons_succ]
      refine wpAnyH_take (i := 9) (oi := ⟨some 50, _, _, _, _, _⟩) rfl (by kernel_rfl) (by kernel_rfl) (by kernel_rfl) (fun _ _ _ h => h) (Or.inr ⟨by rfl, rfl⟩) (by assumption) ?_
      try simp only [Act.put, List.setIfInBounds_toArray, List.set_cons_zero, List.set_cons_succ]
      refine wpAnyH_take (i := 10) (oi := ⟨some 51, _, _, _, _, _⟩) rfl (by kernel_rfl) (by kernel_rfl) (by kernel_rfl) (fun _ _ _ h => h) (Or.inr ⟨by rfl, rfl⟩) (by assumption) ?_
      try simp only [Act.put, List.setIfInBounds_toArray, List.set_cons_zero, List.set_cons_succ]
      refine wpAnyH_take (i := 11) (oi := ⟨some 52, _, _, _, _, _⟩) rfl (by kernel_rfl) (by kernel_rfl) (by kernel_rfl) (fun _ _ _ h => h) (Or.inr ⟨by rfl, rfl⟩) (by assumption) ?_
      try simp only [Act.put, List.setIfInBounds_toArray, List.set_cons_zero, List.set_cons_succ]
      refine wpAnyH_take (i := 12) (oi := ⟨some 53, _, _, _, _, _⟩) (v := ?_) rfl (by kernel_rfl) (by kernel_rfl) (by kernel_rfl) (fun _ _ _ h => h) (Or.inl ⟨by rfl, ?_⟩) (by assumption) ?_
      rotate_left
      · (intro w hSw; (try dsimp only at hSw); obtain ⟨kS, kr, k5⟩ := hSw; obtain ⟨k0, k1, k2, k3⟩ := kS.cells; have kl := kS.2; have kc0 := blk_cell kr 0; have kc1 := blk_cell kr 1; have klr := blk_lt kr; (go_simp <;> with_reducible rfl))
      try simp only [Act.put, List.setIfInBounds_toArray, List.set_cons_zero, List.set_cons_succ]
      refine wpAnyH_take (i := 13) (oi := ⟨some 54, _, _, _, _, _⟩) (v := ?_) rfl (by kernel_rfl) (by kernel_rfl) (by kernel_rfl) (fun _ _ _ h => h) (Or.inl ⟨by rfl, ?_⟩) (by assumption) ?_
      rotate_left
      · (intro w hSw; (try dsimp only at hSw); obtain ⟨kS, kr, k5⟩ := hSw; obtain ⟨k0, k1, k2, k3⟩ := kS.cells; have kl := kS.2; have kc0 := blk_cell kr 0; have kc1 := blk_cell kr 1; have klr := blk_lt kr; (go_simp <;> with_reducible rfl))
      try simp only [Act.put, List.setIfInBounds_toArray, List.set_cons_zero, List.set_cons_succ]
      refine wpAnyH_take (i := 14) (oi := ⟨some 55, _, _, _, _, _⟩) rfl (by kernel_rfl) (by kernel_rfl) (by kernel_rfl) (fun _ _ _ h => h) (Or.inr ⟨by rfl, rfl⟩) (by assumption) ?_
      try simp only [Act.put, List.setIfInBounds_toArray, List.set_cons_zero, List.set_cons_succ]
      refine wpAnyH_take (i := 15) (oi := ⟨some 56, _, _, _, _, _⟩) rfl (by kernel_rfl) (by kernel_rfl) (by kernel_rfl) (fun _ _ _ h => h) (Or.inr ⟨by rfl, rfl⟩) (by assumption) ?_
      try simp only [Act.put, List.setIfInBounds_toArray, List.set_cons_zero, List.set_cons_succ]
      refine wpAnyH_take (i := 16) (oi := ⟨some 57, _, _, _, _, _⟩) rfl (by kernel_rfl) (by kernel_rfl) (by kernel_rfl) (fun _ _ _ h => h) (Or.inr ⟨by rfl, rfl⟩) (by assumption) ?_
      try simp only [Act.put, List.setIfInBounds_toArray, List.set_cons_zero, List.set_cons_succ]
      refine wpAnyH_take (i := 17) (oi := ⟨some 58, _, _, _, _, _⟩) rfl (by kernel_rfl) (by kernel_rfl) (by kernel_rfl) (fun _ _ _ h => h) (Or.inr ⟨by rfl, rfl⟩) (by assumption) ?_
      try simp only [Act.put, List.setIfInBounds_toArray, List.set_cons_zero, List.set_cons_succ]
      refine wpAnyH_take (i := 18) (oi := ⟨some 59, _, _, _, _, _⟩) rfl (by kernel_rfl) (by kernel_rfl) (by kernel_rfl) (fun _ _ _ h => h) (Or.inr ⟨by rfl, rfl⟩) (by assumption) ?_
      try simp only [Act.put, List.setIfInBounds_toArray, List.set_cons_zero, List.set_cons_succ]
      refine wpAnyH_take (i := 19) (oi := ⟨some 60, _, _, _, _, _⟩) rfl (by kernel_rfl) (by kernel_rfl) (by kernel_rfl) (fun _ _ _ h => h) (Or.inr ⟨by rfl, rfl⟩) (by assumption) ?_
      try simp only [Act.put, List.setIfInBounds_toArray, List.set_cons_zero, List.set_cons_succ]
      refine wpAnyH_take (i := 20) (oi := ⟨some 61, _, _, _, _, _⟩) rfl (by kernel_rfl) (by kernel_rfl) (by kernel_rfl) (fun _ _ _ h => h) (Or.inr ⟨by rfl, rfl⟩) (by assumption) ?_
      try simp only [Act.put, List.setIfInBounds_toArray, List.set_cons_zero, List.set_cons_succ]
      refine wpAnyH_take (i := 21) (oi := ⟨some 62, _, _, _, _, _⟩) (v := ?_) rfl (by kernel_rfl) (by kernel_rfl) (by kernel_rfl) (fun _ _ _ h => h) (Or.inl ⟨by rfl, ?_⟩) (by assumption) ?_
      rotate_left
      · (intro w hSw; (try dsimp only at hSw); obtain ⟨kS, kr, k5⟩ := hSw; obtain ⟨k0, k1, k2, k3⟩ := kS.cells; have kl := kS.2; have kc0 := blk_cell kr 0; have kc1 := blk_cell kr 1; have klr := blk_lt kr; (go_simp <;> with_reducible rfl))
      try simp only [Act.put, List.setIfInBounds_toArray, List.set_cons_zero, List.set_cons_succ]
      refine wpAnyH_done (by kernel_rfl) ?_ _
      refine NoPanic.normal ?_
      go_wp2
      go_ret3
      exact .inr ⟨50, hO.out, by decide, rfl, B7.out⟩
    · have hodd : pgs ≠ needP sz := hnz.resolve_right hbig
      have hbd : decide ((131072 : Int) < sz) = false := by simpa using hbig
      clear hbig
      go_wp2_with fail
      refine hroot.out.mono ?_
      rintro e w6 ⟨rfl, hb6⟩
      obtain ⟨r, hr⟩ : ∃ r, w6.heap.size = r := ⟨_, rfl⟩
      obtain ⟨W7, hW7⟩ : ∃ W, w6.alloc (.cells #[.int .i64 st, .int .i64 pgs] 160) = W := ⟨_, rfl⟩
      have hb7 : Below W5.heap.size W5 W7.drew := by rw [← hW7]; exact (bl_then hb6 hb6.size (bl_alloc (Below.refl _ w6) _)).drew
      have hr7 : W7.drew.heap[r]? = some (.cells #[.int .i64 st, .int .i64 pgs] 160 (0, 0)) := by rw [← hW7, ← hr]; exact blk_new w6 _
      have HWp7 := Lib.hid (blk_below hb7 HWp.out hpl)
      have hT0 : OpT b0 r p f ⟨ep, st, pgs, sz⟩ W7.drew := ⟨hS5.out.below hb7, hr7, by rw [blk_cell HWp7.out]; rfl⟩
      have HF7 := Lib.hid (HF5.out.below hb7)
      have B7 : Hid (Below w.heap.size w W7.drew) := bl_then B5.out B5.out.size hb7
      have hrF : Hid (¬ FF r ∧ ¬ FF b0 ∧ r < W7.drew.heap.size ∧ b0 < W7.drew.heap.size) := ⟨fun q => by have := HF5.out.lt r q; have := hb6.size; omega, hbF.out, blk_lt hr7, (hS5.out.below hb7).2⟩
      have HC := Lib.hid (claim_calls HF7.out ⟨st, pgs⟩)
      have HT : Hid (∀ w9 fr', FrDid FF W7.drew w9 f fr' → OpT b0 r p f ⟨ep, st, pgs, sz⟩ w9) := fun w9 fr' hd9 => by
        obtain ⟨F3, d3, ch3, s3⟩ := hd9
        refine ⟨⟨ch3.blk hT0.1.1 hrF.out.2.1, Nat.lt_of_lt_of_le hT0.1.2 ch3.size⟩, ch3.blk hr7 hrF.out.1, ?_⟩
        rw [blk_cell (ch3.blk HWp7.out hpF.out)]
        rfl
      clear hb6 hb7 hr7
      have hO : Hid (openR D = (none, 50)) := by show _ = _; rw [hO2.out, if_pos (.inr (.inl hodd))]
      have hob : (pgs != needP sz) = true := by simpa using hodd
      go_wp2
      refine wp_region_noPanic ?_
      refine wp_region_held_drew (S := OpT b0 r p f ⟨ep, st, pgs, sz⟩) (by kernel_rfl) (hT0) (fun hHeld => ?_)
      refine wpAnyH_take (i := 0) (oi := ⟨some 41, _, _, _, _, _⟩) (v := ?_) rfl (by kernel_rfl) (by kernel_rfl) (by kernel_rfl) (fun _ _ _ h => h) (Or.inl ⟨by rfl, ?_⟩) (by assumption) ?_
      rotate_left
      · (intro w hSw; (try dsimp only at hSw); obtain ⟨kS, kr, k5⟩ := hSw; obtain ⟨k0, k1, k2, k3⟩ := kS.cells; have kl := kS.2; have kc0 := blk_cell kr 0; have kc1 := blk_cell kr 1; have klr := blk_lt kr; (go_simp <;> with_reducible rfl))
      try simp only [Act.put, List.setIfInBounds_toArray, List.set_cons_zero, List.set_cons_succ]
      refine wpAnyH_take (i := 1) (oi := ⟨some 42, _, _, _, _, _⟩) (v := ?_) rfl (by kernel_rfl) (by kernel_rfl) (by kernel_rfl) (fun _ _ _ h => h) (Or.inl ⟨by rfl, ?_⟩) (by assumption) ?_
      rotate_left
      · (intro w hSw; (try dsimp only at hSw); obtain ⟨kS, kr, k5⟩ := hSw; obtain ⟨k0, k1, k2, k3⟩ := kS.cells; have kl := kS.2; have kc0 := blk_cell kr 0; have kc1 := blk_cell kr 1; have klr := blk_lt kr; (go_simp <;> with_reducible rfl))
      try simp only [Act.put, List.setIfInBounds_toArray, List.set_cons_zero, List.set_cons_succ]
      refine wpAnyH_take (i := 2) (oi := ⟨some 43, _, _, _, _, _⟩) (v := ?_) rfl (by kernel_rfl) (by kernel_rfl) (by kernel_rfl) (fun _ _ _ h => h) (Or.inl ⟨by rfl, ?_⟩) (by assumption) ?_
      rotate_left
      · (intro w hSw; (try dsimp only at hSw); obtain ⟨kS, kr, k5⟩ := hSw; obtain ⟨k0, k1, k2, k3⟩ := kS.cells; have kl := kS.2; have kc0 := blk_cell kr 0; have kc1 := blk_cell kr 1; have klr := blk_lt kr; (go_simp <;> with_reducible rfl))
      try simp only [Act.put, List.setIfInBounds_toArray, List.set_cons_zero, List.set_cons_succ]
      refine wpAnyH_take (i := 3) (oi := ⟨some 44, _, _, _, _, _⟩) (v := ?_) rfl (by kernel_rfl) (by kernel_rfl) (by kernel_rfl) (fun _ _ _ h => h) (Or.inl ⟨by rfl, ?_⟩) (by assumption) ?_
      rotate_left
      · (intro w hSw; (try dsimp only at hSw); obtain ⟨kS, kr, k5⟩ := hSw; obtain ⟨k0, k1, k2, k3⟩ := kS.cells; have kl := kS.2; have kc0 := blk_cell kr 0; have kc1 := blk_cell kr 1; have klr := blk_lt kr; (go_simp <;> with_reducible rfl))
      try simp only [Act.put, List.setIfInBounds_toArray, List.set_cons_zero, List.set_cons_succ]
      refine wpAnyH_take (i := 4) (oi := ⟨some 45, _, _, _, _, _⟩) (v := ?_) rfl (by kernel_rfl) (by kernel_rfl) (by kernel_rfl) (fun _ _ _ h => h) (Or.inl ⟨by rfl, ?_⟩) (by assumption) ?_
      rotate_left
      · (intro w hSw; (try dsimp only at hSw); obtain ⟨kS, kr, k5⟩ := hSw; obtain ⟨k0, k1, k2, k3⟩ := kS.cells; have kl := kS.2; have kc0 := blk_cell kr 0; have kc1 := blk_cell kr 1; have klr := blk_lt kr; (go_simp <;> with_reducible rfl))
      try simp only [Act.put, List.setIfInBounds_toArray, List.set_cons_zero, List.set_cons_succ]
      refine wpAnyH_take (i := 5) (oi := ⟨some 46, _, _, _, _, _⟩) (v := ?_) rfl (by kernel_rfl) (by kernel_rfl) (by kernel_rfl) (fun _ _ _ h => h) (Or.inl ⟨by rfl, ?_⟩) (by assumption) ?_
      rotate_left
      · (intro w hSw; (try dsimp only at hSw); obtain ⟨kS, kr, k5⟩ := hSw; obtain ⟨k0, k1, k2, k3⟩ := kS.cells; have kl := kS.2; have kc0 := blk_cell kr 0; have kc1 := blk_cell kr 1; have klr := blk_lt kr; (go_simp <;> with_reducible rfl))
      try simp only [Act.put, List.setIfInBounds_toArray, List.set_cons_zero, List.set_cons_succ]
      refine wpAnyH_take (i := 6) (oi := ⟨some 47, _, _, _, _, _⟩) (v := ?_) rfl (by kernel_rfl) (by kernel_rfl) (by kernel_rfl) (fun _ _ _ h => h) (Or.inl ⟨by rfl, ?_⟩) (by assumption) ?_
      rotate_left
      · (intro w hSw; (try dsimp only at hSw); obtain ⟨kS, kr, k5⟩ := hSw; obtain ⟨k0, k1, k2, k3⟩ := kS.cells; have kl := kS.2; have kc0 := blk_cell kr 0; have kc1 := blk_cell kr 1; have klr := blk_lt kr; (go_simp <;> with_reducible rfl))
      try simp only [Act.put, List.setIfInBounds_toArray, List.set_cons_zero, List.set_cons_succ]
      refine wpAnyH_take (i := 7) (oi := ⟨some 48, _, _, _, _, _⟩) (v := ?_) rfl (by kernel_rfl) (by kernel_rfl) (by kernel_rfl) (fun _ _ _ h => h) (Or.inl ⟨by rfl, ?_⟩) (by assumption) ?_
      rotate_left
      · (intro w hSw; (try dsimp only at hSw); obtain ⟨kS, kr, k5⟩ := hSw; obtain ⟨k0, k1, k2, k3⟩ := kS.cells; have kl := kS.2; have kc0 := blk_cell kr 0; have kc1 := blk_cell kr 1; have klr := blk_lt kr; (go_simp <;> with_reducible rfl))
      try simp only [Act.put, List.setIfInBounds_toArray, List.set_cons_zero, List.set_cons_succ]
      refine wpAnyH_take (i := 8) (oi := ⟨some 49, _, _, _, _, _⟩) (v := ?_) rfl (by kernel_rfl) (by kernel_rfl) (by kernel_rfl) (fun _ _ _ h => h) (Or.inl ⟨by rfl, ?_⟩) (by assumption) ?_
      rotate_left
      · (intro w hSw; (try dsimp only at hSw); obtain ⟨kS, kr, k5⟩ := hSw; obtain ⟨k0, k1, k2, k3⟩ := kS.cells; have kl := kS.2; have kc0 := blk_cell kr 0; have kc1 := blk_cell kr 1; have klr := blk_lt kr; (go_simp <;> with_reducible rfl))
      try simp only [Act.put, List.setIfInBounds_toArray, List.set_cons_zero, List.set_cons_succ]
      refine wpAnyH_take (i := 9) (oi := ⟨some 50, _, _, _, _, _⟩) (v := ?_) rfl (by kernel_rfl) (by kernel_rfl) (by kernel_rfl) (fun _ _ _ h => h) (Or.inl ⟨by rfl, ?_⟩) (by assumption) ?_
      rotate_left
      · (intro w hSw; (try dsimp only at hSw); obtain ⟨kS, kr, k5⟩ := hSw; obtain ⟨k0, k1, k2, k3⟩ := kS.cells; have kl := kS.2; have kc0 := blk_cell kr 0; have kc1 := blk_cell kr 1; have klr := blk_lt kr; (go_simp <;> with_reducible rfl))
      try simp only [Act.put, List.setIfInBounds_toArray, List.set_cons_zero, List.set_cons_succ]
      refine wpAnyH_ready (rs := [10]) (by kernel_rfl) (by simp) ?_
      refine AllReadyH.cons rfl (fun K hK => ?_) AllReadyH.nil
      go_simp
      go_at_call 125
      refine (need_calls _ sz (by omega) (by omega)).mono ?_
      rintro e w9 ⟨rfl, rfl⟩
      refine hK.out _ _ (by assumption) (fun _ => ?_)
      clear hK K
      try simp only [Act.put, List.setIfInBounds_toArray, List.set_cons_zero, List.set_cons_succ]
      refine wpAnyH_take (i := 11) (oi := ⟨some 52, _, _, _, _, _⟩) (v := ?_) rfl (by kernel_rfl) (by kernel_rfl) (by kernel_rfl) (fun _ _ _ h => h) (Or.inl ⟨by rfl, ?_⟩) (by assumption) ?_
      rotate_left
      · (intro w hSw; (try dsimp only at hSw); obtain ⟨kS, kr, k5⟩ := hSw; obtain ⟨k0, k1, k2, k3⟩ := kS.cells; have kl := kS.2; have kc0 := blk_cell kr 0; have kc1 := blk_cell kr 1; have klr := blk_lt kr; (go_simp <;> with_reducible rfl))
      try simp only [Act.put, List.setIfInBounds_toArray, List.set_cons_zero, List.set_cons_succ]
      refine wpAnyH_take (i := 12) (oi := ⟨some 53, _, _, _, _, _⟩) (v := ?_) rfl (by kernel_rfl) (by kernel_rfl) (by kernel_rfl) (fun _ _ _ h => h) (Or.inl ⟨by rfl, ?_⟩) (by assumption) ?_
      rotate_left
      · (intro w hSw; (try dsimp only at hSw); obtain ⟨kS, kr, k5⟩ := hSw; obtain ⟨k0, k1, k2, k3⟩ := kS.cells; have kl := kS.2; have kc0 := blk_cell kr 0; have kc1 := blk_cell kr 1; have klr := blk_lt kr; (go_simp <;> with_reducible rfl))
      try simp only [Act.put, List.setIfInBounds_toArray, List.set_cons_zero, List.set_cons_succ]
      refine wpAnyH_take (i := 13) (oi := ⟨some 54, _, _, _, _, _⟩) (v := ?_) rfl (by kernel_rfl) (by kernel_rfl) (by kernel_rfl) (fun _ _ _ h => h) (Or.inl ⟨by rfl, ?_⟩) (by assumption) ?_
      rotate_left
      · (intro w hSw; (try dsimp only at hSw); obtain ⟨kS, kr, k5⟩ := hSw; obtain ⟨k0, k1, k2, k3⟩ := kS.cells; have kl := kS.2; have kc0 := blk_cell kr 0; have kc1 := blk_cell kr 1; have klr := blk_lt kr; (go_simp <;> with_reducible rfl))
      try simp only [Act.put, List.setIfInBounds_toArray, List.set_cons_zero, List.set_cons_succ]
      refine wpAnyH_take (i := 14) (oi := ⟨some 55, _, _, _, _, _⟩) rfl (by kernel_rfl) (by kernel_rfl) (by kernel_rfl) (fun _ _ _ h => h) (Or.inr ⟨by rfl, rfl⟩) (by assumption) ?_
      try simp only [Act.put, List.setIfInBounds_toArray, List.set_cons_zero, List.set_cons_succ]
      refine wpAnyH_take (i := 15) (oi := ⟨some 56, _, _, _, _, _⟩) rfl (by kernel_rfl) (by kernel_rfl) (by kernel_rfl) (fun _ _ _ h => h) (Or.inr ⟨by rfl, rfl⟩) (by assumption) ?_
      try simp only [Act.put, List.setIfInBounds_toArray, List.set_cons_zero, List.set_cons_succ]
      refine wpAnyH_take (i := 16) (oi := ⟨some 57, _, _, _, _, _⟩) rfl (by kernel_rfl) (by kernel_rfl) (by kernel_rfl) (fun _ _ _ h => h) (Or.inr ⟨by rfl, rfl⟩) (by assumption) ?_
      try simp only [Act.put, List.setIfInBounds_toArray, List.set_cons_zero, List.set_cons_succ]
      refine wpAnyH_take (i := 17) (oi := ⟨some 58, _, _, _, _, _⟩) rfl (by kernel_rfl) (by kernel_rfl) (by kernel_rfl) (fun _ _ _ h => h) (Or.inr ⟨by rfl, rfl⟩) (by assumption) ?_
      try simp only [Act.put, List.setIfInBounds_toArray, List.set_cons_zero, List.set_cons_succ]
      refine wpAnyH_take (i := 18) (oi := ⟨some 59, _, _, _, _, _⟩) rfl (by kernel_rfl) (by kernel_rfl) (by kernel_rfl) (fun _ _ _ h => h) (Or.inr ⟨by rfl, rfl⟩) (by assumption) ?_
      try simp only [Act.put, List.setIfInBounds_toArray, List.set_cons_zero, List.set_cons_succ]
      refine wpAnyH_take (i := 19) (oi := ⟨some 60, _, _, _, _, _⟩) rfl (by kernel_rfl) (by kernel_rfl) (by kernel_rfl) (fun _ _ _ h => h) (Or.inr ⟨by rfl, rfl⟩) (by assumption) ?_
      try simp only [Act.put, List.setIfInBounds_toArray, List.set_cons_zero, List.set_cons_succ]
      refine wpAnyH_take (i := 20) (oi := ⟨some 61, _, _, _, _, _⟩) rfl (by kernel_rfl) (by kernel_rfl) (by kernel_rfl) (fun _ _ _ h => h) (Or.inr ⟨by rfl, rfl⟩) (by assumption) ?_
      try simp only [Act.put, List.setIfInBounds_toArray, List.set_cons_zero, List.set_cons_succ]
      refine wpAnyH_take (i := 21) (oi := ⟨some 62, _, _, _, _, _⟩) (v := ?_) rfl (by kernel_rfl) (by kernel_rfl) (by kernel_rfl) (fun _ _ _ h => h) (Or.inl ⟨by rfl, ?_⟩) (by assumption) ?_
      rotate_left
      · (intro w hSw; (try dsimp only at hSw); obtain ⟨kS, kr, k5⟩ := hSw; obtain ⟨k0, k1, k2, k3⟩ := kS.cells; have kl := kS.2; have kc0 := blk_cell kr 0; have kc1 := blk_cell kr 1; have klr := blk_lt kr; (go_simp <;> with_reducible rfl))
      try simp only [Act.put, List.setIfInBounds_toArray, List.set_cons_zero, List.set_cons_succ]
      refine wpAnyH_done (by kernel_rfl) ?_ _
      refine NoPanic.normal ?_
      go_wp2
      go_ret3
      exact .inr ⟨50, hO.out, by decide, rfl, B7.out⟩
  have hpb : (pgs == 0) = false := by rw [beq_eq_false_iff_ne]; exact hp0
  clear hall hp0
  by_cases hbig : (131072 : Int) < sz
  case' pos =>
    go_wp2_with fail
    refine hroot.out.mono ?_
    rintro e w6 ⟨rfl, hb6⟩
    obtain ⟨r, hr⟩ : ∃ r, w6.heap.size = r := ⟨_, rfl⟩
    obtain ⟨W7, hW7⟩ : ∃ W, w6.alloc (.cells #[.int .i64 st, .int .i64 pgs] 160) = W := ⟨_, rfl⟩
    have hb7 : Below W5.heap.size W5 W7.drew := by rw [← hW7]; exact (bl_then hb6 hb6.size (bl_alloc (Below.refl _ w6) _)).drew
    have hr7 : W7.drew.heap[r]? = some (.cells #[.int .i64 st, .int .i64 pgs] 160 (0, 0)) := by rw [← hW7, ← hr]; exact blk_new w6 _
    have HWp7 := Lib.hid (blk_below hb7 HWp.out hpl)
    have hT0 : OpT b0 r p f ⟨ep, st, pgs, sz⟩ W7.drew := ⟨hS5.out.below hb7, hr7, by rw [blk_cell HWp7.out]; rfl⟩
    have HF7 := Lib.hid (HF5.out.below hb7)
    have B7 : Hid (Below w.heap.size w W7.drew) := bl_then B5.out B5.out.size hb7
    have hrF : Hid (¬ FF r ∧ ¬ FF b0 ∧ r < W7.drew.heap.size ∧ b0 < W7.drew.heap.size) := ⟨fun q => by have := HF5.out.lt r q; have := hb6.size; omega, hbF.out, blk_lt hr7, (hS5.out.below hb7).2⟩
    have HC := Lib.hid (claim_calls HF7.out ⟨st, pgs⟩)
    have HT : Hid (∀ w9 fr', FrDid FF W7.drew w9 f fr' → OpT b0 r p f ⟨ep, st, pgs, sz⟩ w9) := fun w9 fr' hd9 => by
      obtain ⟨F3, d3, ch3, s3⟩ := hd9
      refine ⟨⟨ch3.blk hT0.1.1 hrF.out.2.1, Nat.lt_of_lt_of_le hT0.1.2 ch3.size⟩, ch3.blk hr7 hrF.out.1, ?_⟩
      rw [blk_cell (ch3.blk HWp7.out hpF.out)]
      rfl
    clear hb6 hb7 hr7
    have hO : Hid (openR D = (none, 50)) := by show _ = _; rw [hO2.out, if_pos (.inl hbig)]
    go_wp2
    refine wp_region_noPanic ?_
    refine wp_region_held_drew (S := OpT b0 r p f ⟨ep, st, pgs, sz⟩) (by kernel_rfl) (hT0) (fun hHeld => ?_)
    refine wpAnyH_take (i := 0) (oi := ⟨some 41, _, _, _, _, _⟩) (v := ?_) rfl (by kernel_rfl) (by kernel_rfl) (by kernel_rfl) (fun _ _ _ h => h) (Or.inl ⟨by rfl, ?_⟩) (by assumption) ?_
    rotate_left
    · (intro w hSw; (try dsimp only at hSw); obtain ⟨kS, kr, k5⟩ := hSw; obtain ⟨k0, k1, k2, k3⟩ := kS.cells; have kl := kS.2; have kc0 := blk_cell kr 0; have kc1 := blk_cell kr 1; have klr := blk_lt kr; (go_simp <;> with_reducible rfl))
    try simp only [Act.put, List.setIfInBounds_toArray, List.set_cons_zero, List.set_cons_succ]
    refine wpAnyH_take (i := 1) (oi := ⟨some 42, _, _, _, _, _⟩) (v := ?_) rfl (by kernel_rfl) (by kernel_rfl) (by kernel_rfl) (fun _ _ _ h => h) (Or.inl ⟨by rfl, ?_⟩) (by assumption) ?_
    rotate_left
    · (intro w hSw; (try dsimp only at hSw); obtain ⟨kS, kr, k5⟩ := hSw; obtain ⟨k0, k1, k2, k3⟩ := kS.cells; have kl := kS.2; have kc0 := blk_cell kr 0; have kc1 := blk_cell kr 1; have klr := blk_lt kr; (go_simp <;> with_reducible rfl))
    try simp only [Act.put, List.setIfInBounds_toArray, List.set_cons_zero, List.set_cons_succ]
    refine wpAnyH_take (i := 2) (oi := ⟨some 43, _, _, _, _, _⟩) (v := ?_) rfl (by kernel_rfl) (by kernel_rfl) (by kernel_rfl) (fun _ _ _ h => h) (Or.inl ⟨by rfl, ?_⟩) (by assumption) ?_
    rotate_left
    · (intro w hSw; (try dsimp only at hSw); obtain ⟨kS, kr, k5⟩ := hSw; obtain ⟨k0, k1, k2, k3⟩ := kS.cells; have kl := kS.2; have kc0 := blk_cell kr 0; have kc1 := blk_cell kr 1; have klr := blk_lt kr; (go_simp <;> with_reducible rfl))
    try simp only [Act.put, List.setIfInBounds_toArray, List.set_cons_zero, List.set_cons_succ]
    refine wpAnyH_take (i := 3) (oi := ⟨some 44, _, _, _, _, _⟩) (v := ?_) rfl (by kernel_rfl) (by kernel_rfl) (by kernel_rfl) (fun _ _ _ h => h) (Or.inl ⟨by rfl, ?_⟩) (by assumption) ?_
    rotate_left
    · (intro w hSw; (try dsimp only at hSw); obtain ⟨kS, kr, k5⟩ := hSw; obtain ⟨k0, k1, k2, k3⟩ := kS.cells; have kl := kS.2; have kc0 := blk_cell kr 0; have kc1 := blk_cell kr 1; have klr := blk_lt kr; (go_simp <;> with_reducible rfl))
    try simp only [Act.put, List.setIfInBounds_toArray, List.set_cons_zero, List.set_cons_succ]
    refine wpAnyH_take (i := 4) (oi := ⟨some 45, _, _, _, _, _⟩) rfl (by kernel_rfl) (by kernel_rfl) (by kernel_rfl) (fun _ _ _ h => h) (Or.inr ⟨by rfl, rfl⟩) (by assumption) ?_
    try simp only [Act.put, List.setIfInBounds_toArray, List.set_cons_zero, List.set_cons_succ]
    refine wpAnyH_take (i := 5) (oi := ⟨some 46, _, _, _, _, _⟩) rfl (by kernel_rfl) (by kernel_rfl) (by kernel_rfl) (fun _ _ _ h => h) (Or.inr ⟨by rfl, rfl⟩) (by assumption) ?_
    try simp only [Act.put, List.setIfInBounds_toArray, List.set_cons_zero, List.set_cons_succ]
    refine wpAnyH_take (i := 6) (oi := ⟨some 47, _, _, _, _, _⟩) rfl (by kernel_rfl) (by kernel_rfl) (by kernel_rfl) (fun _ _ _ h => h) (Or.inr ⟨by rfl, rfl⟩) (by assumption) ?_
    try simp only [Act.put, List.setIfInBounds_toArray, List.set_cons_zero, List.set_cons_succ]
    refine wpAnyH_take (i := 7) (oi := ⟨some 48, _, _, _, _, _⟩) rfl (by kernel_rfl) (by kernel_rfl) (by kernel_rfl) (fun _ _ _ h => h) (Or.inr ⟨by rfl, rfl⟩) (by assumption) ?_
    try simp only [Act.put, List.setIfInBounds_toArray, List.set_cons_zero, List.set_cons_succ]
    refine wpAnyH_take (i := 8) (oi := ⟨some 49, _, _, _, _, _⟩) rfl (by kernel_rfl) (by kernel_rfl) (by kernel_rfl) (fun _ _ _ h => h) (Or.inr ⟨by rfl, rfl⟩) (by assumption) ?_
    try simp only [Act.put, List.setIfInBounds_toArray, List.set_cons_zero, List.set_cons_succ]
    refine wpAnyH_take (i := 9) (oi := ⟨some 50, _, _, _, _, _⟩) rfl (by kernel_rfl) (by kernel_rfl) (by kernel_rfl) (fun _ _ _ h => h) (Or.inr ⟨by rfl, rfl⟩) (by assumption) ?_
    try simp only [Act.put, List.setIfInBounds_toArray, List.set_cons_zero, List.set_cons_succ]
    refine wpAnyH_take (i := 10) (oi := ⟨some 51, _, _, _, _, _⟩) rfl (by kernel_rfl) (by kernel_rfl) (by kernel_rfl) (fun _ _ _ h => h) (Or.inr ⟨by rfl, rfl⟩) (by assumption) ?_
    try simp only [Act.put, List.setIfInBounds_toArray, List.set_cons_zero, List.set_cons_succ]
    refine wpAnyH_take (i := 11) (oi := ⟨some 52, _, _, _, _, _⟩) rfl (by kernel_rfl) (by kernel_rfl) (by kernel_rfl) (fun _ _ _ h => h) (Or.inr ⟨by rfl, rfl⟩) (by assumption) ?_
    try simp only [Act.put, List.setIfInBounds_toArray, List.set_cons_zero, List.set_cons_succ]
    refine wpAnyH_take (i := 12) (oi := ⟨some 53, _, _, _, _, _⟩) (v := ?_) rfl (by kernel_rfl) (by kernel_rfl) (by kernel_rfl) (fun _ _ _ h => h) (Or.inl ⟨by rfl, ?_⟩) (by assumption) ?_
    rotate_left
    · (intro w hSw; (try dsimp only at hSw); obtain ⟨kS, kr, k5⟩ := hSw; obtain ⟨k0, k1, k2, k3⟩ := kS.cells; have kl := kS.2; have kc0 := blk_cell kr 0; have kc1 := blk_cell kr 1; have klr := blk_lt kr; (go_simp <;> with_reducible rfl))
    try simp only [Act.put, List.setIfInBounds_toArray, List.set_cons_zero, List.set_cons_succ]
    refine wpAnyH_take (i := 13) (oi := ⟨some 54, _, _, _, _, _⟩) (v := ?_) rfl (by kernel_rfl) (by kernel_rfl) (by kernel_rfl) (fun _ _ _ h => h) (Or.inl ⟨by rfl, ?_⟩) (by assumption) ?_
    rotate_left
    · (intro w hSw; (try dsimp only at hSw); obtain ⟨kS, kr, k5⟩ := hSw; obtain ⟨k0, k1, k2, k3⟩ := kS.cells; have kl := kS.2; have kc0 := blk_cell kr 0; have kc1 := blk_cell kr 1; have klr := blk_lt kr; (go_simp <;> with_reducible rfl))
    try simp only [Act.put, List.setIfInBounds_toArray, List.set_cons_zero, List.set_cons_succ]
    refine wpAnyH_take (i := 14) (oi := ⟨some 55, _, _, _, _, _⟩) rfl (by kernel_rfl) (by kernel_rfl) (by kernel_rfl) (fun _ _ _ h => h) (Or.inr ⟨by rfl, rfl⟩) (by assumption) ?_
    try simp only [Act.put, List.setIfInBounds_toArray, List.set_cons_zero, List.set_cons_succ]
    refine wpAnyH_take (i := 15) (oi := ⟨some 56, _, _, _, _, _⟩) rfl (by kernel_rfl) (by kernel_rfl) (by kernel_rfl) (fun _ _ _ h => h) (Or.inr ⟨by rfl, rfl⟩) (by assumption) ?_
    try simp only [Act.put, List.setIfInBounds_toArray, List.set_cons_zero, List.set_cons_succ]
    refine wpAnyH_take (i := 16) (oi := ⟨some 57, _, _, _, _, _⟩) rfl (by kernel_rfl) (by kernel_rfl) (by kernel_rfl) (fun _ _ _ h => h) (Or.inr ⟨by rfl, rfl⟩) (by assumption) ?_
    try simp only [Act.put, List.setIfInBounds_toArray, List.set_cons_zero, List.set_cons_succ]
    refine wpAnyH_take (i := 17) (oi := ⟨some 58, _, _, _, _, _⟩) rfl (by kernel_rfl) (by kernel_rfl) (by kernel_rfl) (fun _ _ _ h => h) (Or.inr ⟨by rfl, rfl⟩) (by assumption) ?_
    try simp only [Act.put, List.setIfInBounds_toArray, List.set_cons_zero, List.set_cons_succ]
    refine wpAnyH_take (i := 18) (oi := ⟨some 59, _, _, _, _, _⟩) rfl (by kernel_rfl) (by kernel_rfl) (by kernel_rfl) (fun _ _ _ h => h) (Or.inr ⟨by rfl, rfl⟩) (by assumption) ?_
    try simp only [Act.put, List.setIfInBounds_toArray, List.set_cons_zero, List.set_cons_succ]
    refine wpAnyH_take (i := 19) (oi := ⟨some 60, _, _, _, _, _⟩) rfl (by kernel_rfl) (by kernel_rfl) (by kernel_rfl) (fun _ _ _ h => h) (Or.inr ⟨by rfl, rfl⟩) (by assumption) ?_
    try simp only [Act.put, List.setIfInBounds_toArray, List.set_cons_zero, List.set_cons_succ]
    refine wpAnyH_take (i := 20) (oi := ⟨some 61, _, _, _, _, _⟩) rfl (by kernel_rfl) (by kernel_rfl) (by kernel_rfl) (fun _ _ _ h => h) (Or.inr ⟨by rfl, rfl⟩) (by assumption) ?_
    try simp only [Act.put, List.setIfInBounds_toArray, List.set_cons_zero, List.set_cons_succ]
    refine wpAnyH_take (i := 21) (oi := ⟨some 62, _, _, _, _, _⟩) (v := ?_) rfl (by kernel_rfl) (by kernel_rfl) (by kernel_rfl) (fun _ _ _ h => h) (Or.inl ⟨by rfl, ?_⟩) (by assumption) ?_
    rotate_left
    · (intro w hSw; (try dsimp only at hSw); obtain ⟨kS, kr, k5⟩ := hSw; obtain ⟨k0, k1, k2, k3⟩ := kS.cells; have kl := kS.2; have kc0 := blk_cell kr 0; have kc1 := blk_cell kr 1; have klr := blk_lt kr; (go_simp <;> with_reducible rfl))
    try simp only [Act.put, List.setIfInBounds_toArray, List.set_cons_zero, List.set_cons_succ]
    refine wpAnyH_done (by kernel_rfl) ?_ _
    refine NoPanic.normal ?_
    go_wp2
    go_ret3
    exact .inr ⟨50, hO.out, by decide, rfl, B7.out⟩
  have hbd : decide ((131072 : Int) < sz) = false := by simpa using hbig
  have hbig2 := Lib.hid hbig
  clear hbig
  by_cases hodd : pgs ≠ needP sz
  case' pos =>
    go_wp2_with fail
    refine hroot.out.mono ?_
    rintro e w6 ⟨rfl, hb6⟩
    obtain ⟨r, hr⟩ : ∃ r, w6.heap.size = r := ⟨_, rfl⟩
    obtain ⟨W7, hW7⟩ : ∃ W, w6.alloc (.cells #[.int .i64 st, .int .i64 pgs] 160) = W := ⟨_, rfl⟩
    have hb7 : Below W5.heap.size W5 W7.drew := by rw [← hW7]; exact (bl_then hb6 hb6.size (bl_alloc (Below.refl _ w6) _)).drew
    have hr7 : W7.drew.heap[r]? = some (.cells #[.int .i64 st, .int .i64 pgs] 160 (0, 0)) := by rw [← hW7, ← hr]; exact blk_new w6 _
    have HWp7 := Lib.hid (blk_below hb7 HWp.out hpl)
    have hT0 : OpT b0 r p f ⟨ep, st, pgs, sz⟩ W7.drew := ⟨hS5.out.below hb7, hr7, by rw [blk_cell HWp7.out]; rfl⟩
    have HF7 := Lib.hid (HF5.out.below hb7)
    have B7 : Hid (Below w.heap.size w W7.drew) := bl_then B5.out B5.out.size hb7
    have hrF : Hid (¬ FF r ∧ ¬ FF b0 ∧ r < W7.drew.heap.size ∧ b0 < W7.drew.heap.size) := ⟨fun q => by have := HF5.out.lt r q; have := hb6.size; omega, hbF.out, blk_lt hr7, (hS5.out.below hb7).2⟩
    have HC := Lib.hid (claim_calls HF7.out ⟨st, pgs⟩)
    have HT : Hid (∀ w9 fr', FrDid FF W7.drew w9 f fr' → OpT b0 r p f ⟨ep, st, pgs, sz⟩ w9) := fun w9 fr' hd9 => by
      obtain ⟨F3, d3, ch3, s3⟩ := hd9
      refine ⟨⟨ch3.blk hT0.1.1 hrF.out.2.1, Nat.lt_of_lt_of_le hT0.1.2 ch3.size⟩, ch3.blk hr7 hrF.out.1, ?_⟩
      rw [blk_cell (ch3.blk HWp7.out hpF.out)]
      rfl
    clear hb6 hb7 hr7
    have hO : Hid (openR D = (none, 50)) := by show _ = _; rw [hO2.out, if_pos (.inr (.inl hodd))]
    have hob : (pgs != needP sz) = true := by simpa using hodd
    go_wp2
    refine wp_region_noPanic ?_
    refine wp_region_held_drew (S := OpT b0 r p f ⟨ep, st, pgs, sz⟩) (by kernel_rfl) (hT0) (fun hHeld => ?_)
    refine wpAnyH_take (i := 0) (oi := ⟨some 41, _, _, _, _, _⟩) (v := ?_) rfl (by kernel_rfl) (by kernel_rfl) (by kernel_rfl) (fun _ _ _ h => h) (Or.inl ⟨by rfl, ?_⟩) (by assumption) ?_
    rotate_left
    · (intro w hSw; (try dsimp only at hSw); obtain ⟨kS, kr, k5⟩ := hSw; obtain ⟨k0, k1, k2, k3⟩ := kS.cells; have kl := kS.2; have kc0 := blk_cell kr 0; have kc1 := blk_cell kr 1; have klr := blk_lt kr; (go_simp <;> with_reducible rfl))
    try simp only [Act.put, List.setIfInBounds_toArray, List.set_cons_zero, List.set_cons_succ]
    refine wpAnyH_take (i := 1) (oi := ⟨some 42, _, _, _, _, _⟩) (v := ?_) rfl (by kernel_rfl) (by kernel_rfl) (by kernel_rfl) (fun _ _ _ h => h) (Or.inl ⟨by rfl, ?_⟩) (by assumption) ?_
    rotate_left
    · (intro w hSw; (try dsimp only at hSw); obtain ⟨kS, kr, k5⟩ := hSw; obtain ⟨k0, k1, k2, k3⟩ := kS.cells; have kl := kS.2; have kc0 := blk_cell kr 0; have kc1 := blk_cell kr 1; have klr := blk_lt kr; (go_simp <;> with_reducible rfl))
    try simp only [Act.put, List.setIfInBounds_toArray, List.set_cons_zero, List.set_cons_succ]
    refine wpAnyH_take (i := 2) (oi := ⟨some 43, _, _, _, _, _⟩) (v := ?_) rfl (by kernel_rfl) (by kernel_rfl) (by kernel_rfl) (fun _ _ _ h => h) (Or.inl ⟨by rfl, ?_⟩) (by assumption) ?_
    rotate_left
    · (intro w hSw; (try dsimp only at hSw); obtain ⟨kS, kr, k5⟩ := hSw; obtain ⟨k0, k1, k2, k3⟩ := kS.cells; have kl := kS.2; have kc0 := blk_cell kr 0; have kc1 := blk_cell kr 1; have klr := blk_lt kr; (go_simp <;> with_reducible rfl))
    try simp only [Act.put, List.setIfInBounds_toArray, List.set_cons_zero, List.set_cons_succ]
    refine wpAnyH_take (i := 3) (oi := ⟨some 44, _, _, _, _, _⟩) (v := ?_) rfl (by kernel_rfl) (by kernel_rfl) (by kernel_rfl) (fun _ _ _ h => h) (Or.inl ⟨by rfl, ?_⟩) (by assumption) ?_
    rotate_left
    · (intro w hSw; (try dsimp only at hSw); obtain ⟨kS, kr, k5⟩ := hSw; obtain ⟨k0, k1, k2, k3⟩ := kS.cells; have kl := kS.2; have kc0 := blk_cell kr 0; have kc1 := blk_cell kr 1; have klr := blk_lt kr; (go_simp <;> with_reducible rfl))
    try simp only [Act.put, List.setIfInBounds_toArray, List.set_cons_zero, List.set_cons_succ]
    refine wpAnyH_take (i := 4) (oi := ⟨some 45, _, _, _, _, _⟩) (v := ?_) rfl (by kernel_rfl) (by kernel_rfl) (by kernel_rfl) (fun _ _ _ h => h) (Or.inl ⟨by rfl, ?_⟩) (by assumption) ?_
    rotate_left
    · (intro w hSw; (try dsimp only at hSw); obtain ⟨kS, kr, k5⟩ := hSw; obtain ⟨k0, k1, k2, k3⟩ := kS.cells; have kl := kS.2; have kc0 := blk_cell kr 0; have kc1 := blk_cell kr 1; have klr := blk_lt kr; (go_simp <;> with_reducible rfl))
    try simp only [Act.put, List.setIfInBounds_toArray, List.set_cons_zero, List.set_cons_succ]
    refine wpAnyH_take (i := 5) (oi := ⟨some 46, _, _, _, _, _⟩) (v := ?_) rfl (by kernel_rfl) (by kernel_rfl) (by kernel_rfl) (fun _ _ _ h => h) (Or.inl ⟨by rfl, ?_⟩) (by assumption) ?_
    rotate_left
    · (intro w hSw; (try dsimp only at hSw); obtain ⟨kS, kr, k5⟩ := hSw; obtain ⟨k0, k1, k2, k3⟩ := kS.cells; have kl := kS.2; have kc0 := blk_cell kr 0; have kc1 := blk_cell kr 1; have klr := blk_lt kr; (go_simp <;> with_reducible rfl))
    try simp only [Act.put, List.setIfInBounds_toArray, List.set_cons_zero, List.set_cons_succ]
    refine wpAnyH_take (i := 6) (oi := ⟨some 47, _, _, _, _, _⟩) (v := ?_) rfl (by kernel_rfl) (by kernel_rfl) (by kernel_rfl) (fun _ _ _ h => h) (Or.inl ⟨by rfl, ?_⟩) (by assumption) ?_
    rotate_left
    · (intro w hSw; (try dsimp only at hSw); obtain ⟨kS, kr, k5⟩ := hSw; obtain ⟨k0, k1, k2, k3⟩ := kS.cells; have kl := kS.2; have kc0 := blk_cell kr 0; have kc1 := blk_cell kr 1; have klr := blk_lt kr; (go_simp <;> with_reducible rfl))
    try simp only [Act.put, List.setIfInBounds_toArray, List.set_cons_zero, List.set_cons_succ]
    refine wpAnyH_take (i := 7) (oi := ⟨some 48, _, _, _, _, _⟩) (v := ?_) rfl (by kernel_rfl) (by kernel_rfl) (by kernel_rfl) (fun _ _ _ h => h) (Or.inl ⟨by rfl, ?_⟩) (by assumption) ?_
    rotate_left
    · (intro w hSw; (try dsimp only at hSw); obtain ⟨kS, kr, k5⟩ := hSw; obtain ⟨k0, k1, k2, k3⟩ := kS.cells; have kl := kS.2; have kc0 := blk_cell kr 0; have kc1 := blk_cell kr 1; have klr := blk_lt kr; (go_simp <;> with_reducible rfl))
    try simp only [Act.put, List.setIfInBounds_toArray, List.set_cons_zero, List.set_cons_succ]
    refine wpAnyH_take (i := 8) (oi := ⟨some 49, _, _, _, _, _⟩) (v := ?_) rfl (by kernel_rfl) (by kernel_rfl) (by kernel_rfl) (fun _ _ _ h => h) (Or.inl ⟨by rfl, ?_⟩) (by assumption) ?_
    rotate_left
    · (intro w hSw; (try dsimp only at hSw); obtain ⟨kS, kr, k5⟩ := hSw; obtain ⟨k0, k1, k2, k3⟩ := kS.cells; have kl := kS.2; have kc0 := blk_cell kr 0; have kc1 := blk_cell kr 1; have klr := blk_lt kr; (go_simp <;> with_reducible rfl))
    try simp only [Act.put, List.setIfInBounds_toArray, List.set_cons_zero, List.set_cons_succ]
    refine wpAnyH_take (i := 9) (oi := ⟨some 50, _, _, _, _, _⟩) (v := ?_) rfl (by kernel_rfl) (by kernel_rfl) (by kernel_rfl) (fun _ _ _ h => h) (Or.inl ⟨by rfl, ?_⟩) (by assumption) ?_
    rotate_left
    · (intro w hSw; (try dsimp only at hSw); obtain ⟨kS, kr, k5⟩ := hSw; obtain ⟨k0, k1, k2, k3⟩ := kS.cells; have kl := kS.2; have kc0 := blk_cell kr 0; have kc1 := blk_cell kr 1; have klr := blk_lt kr; (go_simp <;> with_reducible rfl))
    try simp only [Act.put, List.setIfInBounds_toArray, List.set_cons_zero, List.set_cons_succ]
    refine wpAnyH_ready (rs := [10]) (by kernel_rfl) (by simp) ?_
    refine AllReadyH.cons rfl (fun K hK => ?_) AllReadyH.nil
    go_simp
    go_at_call 125
    refine (need_calls _ sz (by omega) (by omega)).mono ?_
    rintro e w9 ⟨rfl, rfl⟩
    refine hK.out _ _ (by assumption) (fun _ => ?_)
    clear hK K
    try simp only [Act.put, List.setIfInBounds_toArray, List.set_cons_zero, List.set_cons_succ]
    refine wpAnyH_take (i := 11) (oi := ⟨some 52, _, _, _, _, _⟩) (v := ?_) rfl (by kernel_rfl) (by kernel_rfl) (by kernel_rfl) (fun _ _ _ h => h) (Or.inl ⟨by rfl, ?_⟩) (by assumption) ?_
    rotate_left
    · (intro w hSw; (try dsimp only at hSw); obtain ⟨kS, kr, k5⟩ := hSw; obtain ⟨k0, k1, k2, k3⟩ := kS.cells; have kl := kS.2; have kc0 := blk_cell kr 0; have kc1 := blk_cell kr 1; have klr := blk_lt kr; (go_simp <;> with_reducible rfl))
    try simp only [Act.put, List.setIfInBounds_toArray, List.set_cons_zero, List.set_cons_succ]
    refine wpAnyH_take (i := 12) (oi := ⟨some 53, _, _, _, _, _⟩) (v := ?_) rfl (by kernel_rfl) (by kernel_rfl) (by kernel_rfl) (fun _ _ _ h => h) (Or.inl ⟨by rfl, ?_⟩) (by assumption) ?_
    rotate_left
    · (intro w hSw; (try dsimp only at hSw); obtain ⟨kS, kr, k5⟩ := hSw; obtain ⟨k0, k1, k2, k3⟩ := kS.cells; have kl := kS.2; have kc0 := blk_cell kr 0; have kc1 := blk_cell kr 1; have klr := blk_lt kr; (go_simp <;> with_reducible rfl))
    try simp only [Act.put, List.setIfInBounds_toArray, List.set_cons_zero, List.set_cons_succ]
    refine wpAnyH_take (i := 13) (oi := ⟨some 54, _, _, _, _, _⟩) (v := ?_) rfl (by kernel_rfl) (by kernel_rfl) (by kernel_rfl) (fun _ _ _ h => h) (Or.inl ⟨by rfl, ?_⟩) (by assumption) ?_
    rotate_left
    · (intro w hSw; (try dsimp only at hSw); obtain ⟨kS, kr, k5⟩ := hSw; obtain ⟨k0, k1, k2, k3⟩ := kS.cells; have kl := kS.2; have kc0 := blk_cell kr 0; have kc1 := blk_cell kr 1; have klr := blk_lt kr; (go_simp <;> with_reducible rfl))
    try simp only [Act.put, List.setIfInBounds_toArray, List.set_cons_zero, List.set_cons_succ]
    refine wpAnyH_take (i := 14) (oi := ⟨some 55, _, _, _, _, _⟩) rfl (by kernel_rfl) (by kernel_rfl) (by kernel_rfl) (fun _ _ _ h => h) (Or.inr ⟨by rfl, rfl⟩) (by assumption) ?_
    try simp only [Act.put, List.setIfInBounds_toArray, List.set_cons_zero, List.set_cons_succ]
    refine wpAnyH_take (i := 15) (oi := ⟨some 56, _, _, _, _, _⟩) rfl (by kernel_rfl) (by kernel_rfl) (by kernel_rfl) (fun _ _ _ h => h) (Or.inr ⟨by rfl, rfl⟩) (by assumption) ?_
    try simp only [Act.put, List.setIfInBounds_toArray, List.set_cons_zero, List.set_cons_succ]
    refine wpAnyH_take (i := 16) (oi := ⟨some 57, _, _, _, _, _⟩) rfl (by kernel_rfl) (by kernel_rfl) (by kernel_rfl) (fun _ _ _ h => h) (Or.inr ⟨by rfl, rfl⟩) (by assumption) ?_
    try simp only [Act.put, List.setIfInBounds_toArray, List.set_cons_zero, List.set_cons_succ]
    refine wpAnyH_take (i := 17) (oi := ⟨some 58, _, _, _, _, _⟩) rfl (by kernel_rfl) (by kernel_rfl) (by kernel_rfl) (fun _ _ _ h => h) (Or.inr ⟨by rfl, rfl⟩) (by assumption) ?_
    try simp only [Act.put, List.setIfInBounds_toArray, List.set_cons_zero, List.set_cons_succ]
    refine wpAnyH_take (i := 18) (oi := ⟨some 59, _, _, _, _, _⟩) rfl (by kernel_rfl) (by kernel_rfl) (by kernel_rfl) (fun _ _ _ h => h) (Or.inr ⟨by rfl, rfl⟩) (by assumption) ?_
    try simp only [Act.put, List.setIfInBounds_toArray, List.set_cons_zero, List.set_cons_succ]
    refine wpAnyH_take (i := 19) (oi := ⟨some 60, _, _, _, _, _⟩) rfl (by kernel_rfl) (by kernel_rfl) (by kernel_rfl) (fun _ _ _ h => h) (Or.inr ⟨by rfl, rfl⟩) (by assumption) ?_
    try simp only [Act.put, List.setIfInBounds_toArray, List.set_cons_zero, List.set_cons_succ]
    refine wpAnyH_take (i := 20) (oi := ⟨some 61, _, _, _, _, _⟩) rfl (by kernel_rfl) (by kernel_rfl) (by kernel_rfl) (fun _ _ _ h => h) (Or.inr ⟨by rfl, rfl⟩) (by assumption) ?_
    try simp only [Act.put, List.setIfInBounds_toArray, List.set_cons_zero, List.set_cons_succ]
    refine wpAnyH_take (i := 21) (oi := ⟨some 62, _, _, _, _, _⟩) (v := ?_) rfl (by kernel_rfl) (by kernel_rfl) (by kernel_rfl) (fun _ _ _ h => h) (Or.inl ⟨by rfl, ?_⟩) (by assumption) ?_
    rotate_left
    · (intro w hSw; (try dsimp only at hSw); obtain ⟨kS, kr, k5⟩ := hSw; obtain ⟨k0, k1, k2, k3⟩ := kS.cells; have kl := kS.2; have kc0 := blk_cell kr 0; have kc1 := blk_cell kr 1; have klr := blk_lt kr; (go_simp <;> with_reducible rfl))
    try simp only [Act.put, List.setIfInBounds_toArray, List.set_cons_zero, List.set_cons_succ]
    refine wpAnyH_done (by kernel_rfl) ?_ _
    refine NoPanic.normal ?_
    go_wp2
    go_ret3
    exact .inr ⟨50, hO.out, by decide, rfl, B7.out⟩
  go_wp2_with fail
  refine hroot.out.mono ?_
  rintro e w6 ⟨rfl, hb6⟩
  obtain ⟨r, hr⟩ : ∃ r, w6.heap.size = r := ⟨_, rfl⟩
  obtain ⟨W7, hW7⟩ : ∃ W, w6.alloc (.cells #[.int .i64 st, .int .i64 pgs] 160) = W := ⟨_, rfl⟩
  have hb7 : Below W5.heap.size W5 W7.drew := by rw [← hW7]; exact (bl_then hb6 hb6.size (bl_alloc (Below.refl _ w6) _)).drew
  have hr7 : W7.drew.heap[r]? = some (.cells #[.int .i64 st, .int .i64 pgs] 160 (0, 0)) := by rw [← hW7, ← hr]; exact blk_new w6 _
  have HWp7 := Lib.hid (blk_below hb7 HWp.out hpl)
  have hT0 : OpT b0 r p f ⟨ep, st, pgs, sz⟩ W7.drew := ⟨hS5.out.below hb7, hr7, by rw [blk_cell HWp7.out]; rfl⟩
  have HF7 := Lib.hid (HF5.out.below hb7)
  have B7 : Hid (Below w.heap.size w W7.drew) := bl_then B5.out B5.out.size hb7
  have hrF : Hid (¬ FF r ∧ ¬ FF b0 ∧ r < W7.drew.heap.size ∧ b0 < W7.drew.heap.size) := ⟨fun q => by have := HF5.out.lt r q; have := hb6.size; omega, hbF.out, blk_lt hr7, (hS5.out.below hb7).2⟩
  have HC := Lib.hid (claim_calls HF7.out ⟨st, pgs⟩)
  have HT : Hid (∀ w9 fr', FrDid FF W7.drew w9 f fr' → OpT b0 r p f ⟨ep, st, pgs, sz⟩ w9) := fun w9 fr' hd9 => by
    obtain ⟨F3, d3, ch3, s3⟩ := hd9
    refine ⟨⟨ch3.blk hT0.1.1 hrF.out.2.1, Nat.lt_of_lt_of_le hT0.1.2 ch3.size⟩, ch3.blk hr7 hrF.out.1, ?_⟩
    rw [blk_cell (ch3.blk HWp7.out hpF.out)]
    rfl
  clear hb6 hb7 hr7
  have heq : Hid (pgs = needP sz) := by show _ = _; omega
  have hob : (pgs != needP sz) = false := by rw [← heq.out]; simp
  clear hodd
  by_cases hcl : (P0.fr.claim ⟨st, pgs⟩).1 = true
  case' neg =>
    have hcl' : (P0.fr.claim ⟨st, pgs⟩).1 = false := by simpa using hcl
    have hO : Hid (openR D = (none, 50)) := by show _ = _; rw [hO2.out, if_pos (.inr (.inr hcl'))]
    rw [hcl'] at HC
    go_wp2
    refine wp_region_noPanic ?_
    refine wp_region_held_drew (S := OpT b0 r p f ⟨ep, st, pgs, sz⟩) (by kernel_rfl) (hT0) (fun hHeld => ?_)
    refine wpAnyH_take (i := 0) (oi := ⟨some 41, _, _, _, _, _⟩) (v := ?_) rfl (by kernel_rfl) (by kernel_rfl) (by kernel_rfl) (fun _ _ _ h => h) (Or.inl ⟨by rfl, ?_⟩) (by assumption) ?_
    rotate_left
    · (intro w hSw; (try dsimp only at hSw); obtain ⟨kS, kr, k5⟩ := hSw; obtain ⟨k0, k1, k2, k3⟩ := kS.cells; have kl := kS.2; have kc0 := blk_cell kr 0; have kc1 := blk_cell kr 1; have klr := blk_lt kr; (go_simp <;> with_reducible rfl))
    try simp only [Act.put, List.setIfInBounds_toArray, List.set_cons_zero, List.set_cons_succ]
    refine wpAnyH_take (i := 1) (oi := ⟨some 42, _, _, _, _, _⟩) (v := ?_) rfl (by kernel_rfl) (by kernel_rfl) (by kernel_rfl) (fun _ _ _ h => h) (Or.inl ⟨by rfl, ?_⟩) (by assumption) ?_
    rotate_left
    · (intro w hSw; (try dsimp only at hSw); obtain ⟨kS, kr, k5⟩ := hSw; obtain ⟨k0, k1, k2, k3⟩ := kS.cells; have kl := kS.2; have kc0 := blk_cell kr 0; have kc1 := blk_cell kr 1; have klr := blk_lt kr; (go_simp <;> with_reducible rfl))
    try simp only [Act.put, List.setIfInBounds_toArray, List.set_cons_zero, List.set_cons_succ]
    refine wpAnyH_take (i := 2) (oi := ⟨some 43, _, _, _, _, _⟩) (v := ?_) rfl (by kernel_rfl) (by kernel_rfl) (by kernel_rfl) (fun _ _ _ h => h) (Or.inl ⟨by rfl, ?_⟩) (by assumption) ?_
    rotate_left
    · (intro w hSw; (try dsimp only at hSw); obtain ⟨kS, kr, k5⟩ := hSw; obtain ⟨k0, k1, k2, k3⟩ := kS.cells; have kl := kS.2; have kc0 := blk_cell kr 0; have kc1 := blk_cell kr 1; have klr := blk_lt kr; (go_simp <;> with_reducible rfl))
    try simp only [Act.put, List.setIfInBounds_toArray, List.set_cons_zero, List.set_cons_succ]
    refine wpAnyH_take (i := 3) (oi := ⟨some 44, _, _, _, _, _⟩) (v := ?_) rfl (by kernel_rfl) (by kernel_rfl) (by kernel_rfl) (fun _ _ _ h => h) (Or.inl ⟨by rfl, ?_⟩) (by assumption) ?_
    rotate_left
    · (intro w hSw; (try dsimp only at hSw); obtain ⟨kS, kr, k5⟩ := hSw; obtain ⟨k0, k1, k2, k3⟩ := kS.cells; have kl := kS.2; have kc0 := blk_cell kr 0; have kc1 := blk_cell kr 1; have klr := blk_lt kr; (go_simp <;> with_reducible rfl))
    try simp only [Act.put, List.setIfInBounds_toArray, List.set_cons_zero, List.set_cons_succ]
    refine wpAnyH_take (i := 4) (oi := ⟨some 45, _, _, _, _, _⟩) (v := ?_) rfl (by kernel_rfl) (by kernel_rfl) (by kernel_rfl) (fun _ _ _ h => h) (Or.inl ⟨by rfl, ?_⟩) (by assumption) ?_
    rotate_left
    · (intro w hSw; (try dsimp only at hSw); obtain ⟨kS, kr, k5⟩ := hSw; obtain ⟨k0, k1, k2, k3⟩ := kS.cells; have kl := kS.2; have kc0 := blk_cell kr 0; have kc1 := blk_cell kr 1; have klr := blk_lt kr; (go_simp <;> with_reducible rfl))
    try simp only [Act.put, List.setIfInBounds_toArray, List.set_cons_zero, List.set_cons_succ]
    refine wpAnyH_take (i := 5) (oi := ⟨some 46, _, _, _, _, _⟩) (v := ?_) rfl (by kernel_rfl) (by kernel_rfl) (by kernel_rfl) (fun _ _ _ h => h) (Or.inl ⟨by rfl, ?_⟩) (by assumption) ?_
    rotate_left
    · (intro w hSw; (try dsimp only at hSw); obtain ⟨kS, kr, k5⟩ := hSw; obtain ⟨k0, k1, k2, k3⟩ := kS.cells; have kl := kS.2; have kc0 := blk_cell kr 0; have kc1 := blk_cell kr 1; have klr := blk_lt kr; (go_simp <;> with_reducible rfl))
    try simp only [Act.put, List.setIfInBounds_toArray, List.set_cons_zero, List.set_cons_succ]
    refine wpAnyH_take (i := 6) (oi := ⟨some 47, _, _, _, _, _⟩) (v := ?_) rfl (by kernel_rfl) (by kernel_rfl) (by kernel_rfl) (fun _ _ _ h => h) (Or.inl ⟨by rfl, ?_⟩) (by assumption) ?_
    rotate_left
    · (intro w hSw; (try dsimp only at hSw); obtain ⟨kS, kr, k5⟩ := hSw; obtain ⟨k0, k1, k2, k3⟩ := kS.cells; have kl := kS.2; have kc0 := blk_cell kr 0; have kc1 := blk_cell kr 1; have klr := blk_lt kr; (go_simp <;> with_reducible rfl))
    try simp only [Act.put, List.setIfInBounds_toArray, List.set_cons_zero, List.set_cons_succ]
    refine wpAnyH_take (i := 7) (oi := ⟨some 48, _, _, _, _, _⟩) (v := ?_) rfl (by kernel_rfl) (by kernel_rfl) (by kernel_rfl) (fun _ _ _ h => h) (Or.inl ⟨by rfl, ?_⟩) (by assumption) ?_
    rotate_left
    · (intro w hSw; (try dsimp only at hSw); obtain ⟨kS, kr, k5⟩ := hSw; obtain ⟨k0, k1, k2, k3⟩ := kS.cells; have kl := kS.2; have kc0 := blk_cell kr 0; have kc1 := blk_cell kr 1; have klr := blk_lt kr; (go_simp <;> with_reducible rfl))
    try simp only [Act.put, List.setIfInBounds_toArray, List.set_cons_zero, List.set_cons_succ]
    refine wpAnyH_take (i := 8) (oi := ⟨some 49, _, _, _, _, _⟩) (v := ?_) rfl (by kernel_rfl) (by kernel_rfl) (by kernel_rfl) (fun _ _ _ h => h) (Or.inl ⟨by rfl, ?_⟩) (by assumption) ?_
    rotate_left
    · (intro w hSw; (try dsimp only at hSw); obtain ⟨kS, kr, k5⟩ := hSw; obtain ⟨k0, k1, k2, k3⟩ := kS.cells; have kl := kS.2; have kc0 := blk_cell kr 0; have kc1 := blk_cell kr 1; have klr := blk_lt kr; (go_simp <;> with_reducible rfl))
    try simp only [Act.put, List.setIfInBounds_toArray, List.set_cons_zero, List.set_cons_succ]
    refine wpAnyH_take (i := 9) (oi := ⟨some 50, _, _, _, _, _⟩) (v := ?_) rfl (by kernel_rfl) (by kernel_rfl) (by kernel_rfl) (fun _ _ _ h => h) (Or.inl ⟨by rfl, ?_⟩) (by assumption) ?_
    rotate_left
    · (intro w hSw; (try dsimp only at hSw); obtain ⟨kS, kr, k5⟩ := hSw; obtain ⟨k0, k1, k2, k3⟩ := kS.cells; have kl := kS.2; have kc0 := blk_cell kr 0; have kc1 := blk_cell kr 1; have klr := blk_lt kr; (go_simp <;> with_reducible rfl))
    try simp only [Act.put, List.setIfInBounds_toArray, List.set_cons_zero, List.set_cons_succ]
    refine wpAnyH_ready (rs := [10]) (by kernel_rfl) (by simp) ?_
    refine AllReadyH.cons rfl (fun K hK => ?_) AllReadyH.nil
    go_simp
    go_at_call 125
    refine (need_calls _ sz (by omega) (by omega)).mono ?_
    rintro e w9 ⟨rfl, rfl⟩
    refine hK.out _ _ (by assumption) (fun _ => ?_)
    clear hK K
    try simp only [Act.put, List.setIfInBounds_toArray, List.set_cons_zero, List.set_cons_succ]
    refine wpAnyH_take (i := 11) (oi := ⟨some 52, _, _, _, _, _⟩) (v := ?_) rfl (by kernel_rfl) (by kernel_rfl) (by kernel_rfl) (fun _ _ _ h => h) (Or.inl ⟨by rfl, ?_⟩) (by assumption) ?_
    rotate_left
    · (intro w hSw; (try dsimp only at hSw); obtain ⟨kS, kr, k5⟩ := hSw; obtain ⟨k0, k1, k2, k3⟩ := kS.cells; have kl := kS.2; have kc0 := blk_cell kr 0; have kc1 := blk_cell kr 1; have klr := blk_lt kr; (go_simp <;> with_reducible rfl))
    try simp only [Act.put, List.setIfInBounds_toArray, List.set_cons_zero, List.set_cons_succ]
    refine wpAnyH_take (i := 12) (oi := ⟨some 53, _, _, _, _, _⟩) (v := ?_) rfl (by kernel_rfl) (by kernel_rfl) (by kernel_rfl) (fun _ _ _ h => h) (Or.inl ⟨by rfl, ?_⟩) (by assumption) ?_
    rotate_left
    · (intro w hSw; (try dsimp only at hSw); obtain ⟨kS, kr, k5⟩ := hSw; obtain ⟨k0, k1, k2, k3⟩ := kS.cells; have kl := kS.2; have kc0 := blk_cell kr 0; have kc1 := blk_cell kr 1; have klr := blk_lt kr; (go_simp <;> with_reducible rfl))
    try simp only [Act.put, List.setIfInBounds_toArray, List.set_cons_zero, List.set_cons_succ]
    refine wpAnyH_take (i := 13) (oi := ⟨some 54, _, _, _, _, _⟩) (v := ?_) rfl (by kernel_rfl) (by kernel_rfl) (by kernel_rfl) (fun _ _ _ h => h) (Or.inl ⟨by rfl, ?_⟩) (by assumption) ?_
    rotate_left
    · (intro w hSw; (try dsimp only at hSw); obtain ⟨kS, kr, k5⟩ := hSw; obtain ⟨k0, k1, k2, k3⟩ := kS.cells; have kl := kS.2; have kc0 := blk_cell kr 0; have kc1 := blk_cell kr 1; have klr := blk_lt kr; (go_simp <;> with_reducible rfl))
    try simp only [Act.put, List.setIfInBounds_toArray, List.set_cons_zero, List.set_cons_succ]
    refine wpAnyH_take (i := 14) (oi := ⟨some 55, _, _, _, _, _⟩) (v := ?_) rfl (by kernel_rfl) (by kernel_rfl) (by kernel_rfl) (fun _ _ _ h => h) (Or.inl ⟨by rfl, ?_⟩) (by assumption) ?_
    rotate_left
    · (intro w hSw; (try dsimp only at hSw); obtain ⟨kS, kr, k5⟩ := hSw; obtain ⟨k0, k1, k2, k3⟩ := kS.cells; have kl := kS.2; have kc0 := blk_cell kr 0; have kc1 := blk_cell kr 1; have klr := blk_lt kr; (go_simp <;> with_reducible rfl))
    try simp only [Act.put, List.setIfInBounds_toArray, List.set_cons_zero, List.set_cons_succ]
    refine wpAnyH_take (i := 15) (oi := ⟨some 56, _, _, _, _, _⟩) (v := ?_) rfl (by kernel_rfl) (by kernel_rfl) (by kernel_rfl) (fun _ _ _ h => h) (Or.inl ⟨by rfl, ?_⟩) (by assumption) ?_
    rotate_left
    · (intro w hSw; (try dsimp only at hSw); obtain ⟨kS, kr, k5⟩ := hSw; obtain ⟨k0, k1, k2, k3⟩ := kS.cells; have kl := kS.2; have kc0 := blk_cell kr 0; have kc1 := blk_cell kr 1; have klr := blk_lt kr; (go_simp <;> with_reducible rfl))
    try simp only [Act.put, List.setIfInBounds_toArray, List.set_cons_zero, List.set_cons_succ]
    refine wpAnyH_take (i := 16) (oi := ⟨some 57, _, _, _, _, _⟩) (v := ?_) rfl (by kernel_rfl) (by kernel_rfl) (by kernel_rfl) (fun _ _ _ h => h) (Or.inl ⟨by rfl, ?_⟩) (by assumption) ?_
    rotate_left
    · (intro w hSw; (try dsimp only at hSw); obtain ⟨kS, kr, k5⟩ := hSw; obtain ⟨k0, k1, k2, k3⟩ := kS.cells; have kl := kS.2; have kc0 := blk_cell kr 0; have kc1 := blk_cell kr 1; have klr := blk_lt kr; (go_simp <;> with_reducible rfl))
    try simp only [Act.put, List.setIfInBounds_toArray, List.set_cons_zero, List.set_cons_succ]
    refine wpAnyH_take (i := 17) (oi := ⟨some 58, _, _, _, _, _⟩) (v := ?_) rfl (by kernel_rfl) (by kernel_rfl) (by kernel_rfl) (fun _ _ _ h => h) (Or.inl ⟨by rfl, ?_⟩) (by assumption) ?_
    rotate_left
    · (intro w hSw; (try dsimp only at hSw); obtain ⟨kS, kr, k5⟩ := hSw; obtain ⟨k0, k1, k2, k3⟩ := kS.cells; have kl := kS.2; have kc0 := blk_cell kr 0; have kc1 := blk_cell kr 1; have klr := blk_lt kr; (go_simp <;> with_reducible rfl))
    try simp only [Act.put, List.setIfInBounds_toArray, List.set_cons_zero, List.set_cons_succ]
    refine wpAnyH_take (i := 18) (oi := ⟨some 59, _, _, _, _, _⟩) (v := ?_) rfl (by kernel_rfl) (by kernel_rfl) (by kernel_rfl) (fun _ _ _ h => h) (Or.inl ⟨by rfl, ?_⟩) (by assumption) ?_
    rotate_left
    · (intro w hSw; (try dsimp only at hSw); obtain ⟨kS, kr, k5⟩ := hSw; obtain ⟨k0, k1, k2, k3⟩ := kS.cells; have kl := kS.2; have kc0 := blk_cell kr 0; have kc1 := blk_cell kr 1; have klr := blk_lt kr; (go_simp <;> with_reducible rfl))
    try simp only [Act.put, List.setIfInBounds_toArray, List.set_cons_zero, List.set_cons_succ]
    refine wpAnyH_ready (rs := [19]) (by kernel_rfl) (by simp) ?_
    refine AllReadyH.cons rfl (fun K hK => ?_) AllReadyH.nil
    go_simp
    go_at_call 162
    refine HC.out.mono ?_
    rintro e w9 ⟨rfl, hd9⟩
    have T9 := HT.out _ _ hd9
    have D9 := Lib.hid hd9
    clear hd9
    refine hK.out _ _ (by assumption) (fun _ => ?_)
    clear hK K
    try simp only [Act.put, List.setIfInBounds_toArray, List.set_cons_zero, List.set_cons_succ]
    refine wpAnyH_take (i := 20) (oi := ⟨some 61, _, _, _, _, _⟩) (v := ?_) rfl (by kernel_rfl) (by kernel_rfl) (by kernel_rfl) (fun _ _ _ h => h) (Or.inl ⟨by rfl, ?_⟩) (by assumption) ?_
    rotate_left
    · (intro w hSw; (try dsimp only at hSw); obtain ⟨kS, kr, k5⟩ := hSw; obtain ⟨k0, k1, k2, k3⟩ := kS.cells; have kl := kS.2; have kc0 := blk_cell kr 0; have kc1 := blk_cell kr 1; have klr := blk_lt kr; (go_simp <;> with_reducible rfl))
    try simp only [Act.put, List.setIfInBounds_toArray, List.set_cons_zero, List.set_cons_succ]
    refine wpAnyH_take (i := 21) (oi := ⟨some 62, _, _, _, _, _⟩) (v := ?_) rfl (by kernel_rfl) (by kernel_rfl) (by kernel_rfl) (fun _ _ _ h => h) (Or.inl ⟨by rfl, ?_⟩) (by assumption) ?_
    rotate_left
    · (intro w hSw; (try dsimp only at hSw); obtain ⟨kS, kr, k5⟩ := hSw; obtain ⟨k0, k1, k2, k3⟩ := kS.cells; have kl := kS.2; have kc0 := blk_cell kr 0; have kc1 := blk_cell kr 1; have klr := blk_lt kr; (go_simp <;> with_reducible rfl))
    try simp only [Act.put, List.setIfInBounds_toArray, List.set_cons_zero, List.set_cons_succ]
    refine wpAnyH_done (by kernel_rfl) ?_ _
    refine NoPanic.normal ?_
    have B9 : Hid (Below w.heap.size w w9) := B7.out.trans (D9.out.choose_spec.2.1.below B7.out.size hFFw.out)
    go_wp2
    go_ret3
    exact .inr ⟨50, hO.out, by decide, rfl, B9.out⟩
  have hO3 : Hid (openR D = (if (readT D st sz).2 ≠ 0 then (none, (readT D st sz).2) else (some ({ P0 with fr := (P0.fr.claim ⟨st, pgs⟩).2 }, (readT D st sz).1), 0))) := by
    show _ = _
    have hno : ¬ (131072 < sz ∨ pgs ≠ needP sz ∨ (P0.fr.claim ⟨st, pgs⟩).1 = false) := by
      rintro (q | q | q)
      · exact absurd hbig2.out (by omega)
      · exact q heq.out
      · rw [hcl] at q; cases q
    rw [hO2.out, if_neg hno]
  have hstb : st ≤ 16384 := by
    have hh : P0.fr.has ⟨st, pgs⟩ = true := by
      by_cases q : P0.fr.has ⟨st, pgs⟩ = true
      · exact q
      · rw [Fr.claim_no q] at hcl; cases hcl
    have h2 := ((Fr.has_iff HF7.out.okD).1 hh).1
    have h3 := hP0f.out.1
    simp only [Fr.there, decide_eq_true_eq] at h2
    omega
  rw [hcl] at HC
  go_wp2
  refine wp_region_noPanic ?_
  refine wp_region_held_drew (S := OpT b0 r p f ⟨ep, st, pgs, sz⟩) (by kernel_rfl) (hT0) (fun hHeld => ?_)
  refine wpAnyH_take (i := 0) (oi := ⟨some 41, _, _, _, _, _⟩) (v := ?_) rfl (by kernel_rfl) (by kernel_rfl) (by kernel_rfl) (fun _ _ _ h => h) (Or.inl ⟨by rfl, ?_⟩) (by assumption) ?_
  rotate_left
  · (intro w hSw; (try dsimp only at hSw); obtain ⟨kS, kr, k5⟩ := hSw; obtain ⟨k0, k1, k2, k3⟩ := kS.cells; have kl := kS.2; have kc0 := blk_cell kr 0; have kc1 := blk_cell kr 1; have klr := blk_lt kr; (go_simp <;> with_reducible rfl))
  try simp only [Act.put, List.setIfInBounds_toArray, List.set_cons_zero, List.set_cons_succ]
  refine wpAnyH_take (i := 1) (oi := ⟨some 42, _, _, _, _, _⟩) (v := ?_) rfl (by kernel_rfl) (by kernel_rfl) (by kernel_rfl) (fun _ _ _ h => h) (Or.inl ⟨by rfl, ?_⟩) (by assumption) ?_
  rotate_left
  · (intro w hSw; (try dsimp only at hSw); obtain ⟨kS, kr, k5⟩ := hSw; obtain ⟨k0, k1, k2, k3⟩ := kS.cells; have kl := kS.2; have kc0 := blk_cell kr 0; have kc1 := blk_cell kr 1; have klr := blk_lt kr; (go_simp <;> with_reducible rfl))
  try simp only [Act.put, List.setIfInBounds_toArray, List.set_cons_zero, List.set_cons_succ]
  refine wpAnyH_take (i := 2) (oi := ⟨some 43, _, _, _, _, _⟩) (v := ?_) rfl (by kernel_rfl) (by kernel_rfl) (by kernel_rfl) (fun _ _ _ h => h) (Or.inl ⟨by rfl, ?_⟩) (by assumption) ?_
  rotate_left
  · (intro w hSw; (try dsimp only at hSw); obtain ⟨kS, kr, k5⟩ := hSw; obtain ⟨k0, k1, k2, k3⟩ := kS.cells; have kl := kS.2; have kc0 := blk_cell kr 0; have kc1 := blk_cell kr 1; have klr := blk_lt kr; (go_simp <;> with_reducible rfl))
  try simp only [Act.put, List.setIfInBounds_toArray, List.set_cons_zero, List.set_cons_succ]
  refine wpAnyH_take (i := 3) (oi := ⟨some 44, _, _, _, _, _⟩) (v := ?_) rfl (by kernel_rfl) (by kernel_rfl) (by kernel_rfl) (fun _ _ _ h => h) (Or.inl ⟨by rfl, ?_⟩) (by assumption) ?_
  rotate_left
  · (intro w hSw; (try dsimp only at hSw); obtain ⟨kS, kr, k5⟩ := hSw; obtain ⟨k0, k1, k2, k3⟩ := kS.cells; have kl := kS.2; have kc0 := blk_cell kr 0; have kc1 := blk_cell kr 1; have klr := blk_lt kr; (go_simp <;> with_reducible rfl))
  try simp only [Act.put, List.setIfInBounds_toArray, List.set_cons_zero, List.set_cons_succ]
  refine wpAnyH_take (i := 4) (oi := ⟨some 45, _, _, _, _, _⟩) (v := ?_) rfl (by kernel_rfl) (by kernel_rfl) (by kernel_rfl) (fun _ _ _ h => h) (Or.inl ⟨by rfl, ?_⟩) (by assumption) ?_
  rotate_left
  · (intro w hSw; (try dsimp only at hSw); obtain ⟨kS, kr, k5⟩ := hSw; obtain ⟨k0, k1, k2, k3⟩ := kS.cells; have kl := kS.2; have kc0 := blk_cell kr 0; have kc1 := blk_cell kr 1; have klr := blk_lt kr; (go_simp <;> with_reducible rfl))
  try simp only [Act.put, List.setIfInBounds_toArray, List.set_cons_zero, List.set_cons_succ]
  refine wpAnyH_take (i := 5) (oi := ⟨some 46, _, _, _, _, _⟩) (v := ?_) rfl (by kernel_rfl) (by kernel_rfl) (by kernel_rfl) (fun _ _ _ h => h) (Or.inl ⟨by rfl, ?_⟩) (by assumption) ?_
  rotate_left
  · (intro w hSw; (try dsimp only at hSw); obtain ⟨kS, kr, k5⟩ := hSw; obtain ⟨k0, k1, k2, k3⟩ := kS.cells; have kl := kS.2; have kc0 := blk_cell kr 0; have kc1 := blk_cell kr 1; have klr := blk_lt kr; (go_simp <;> with_reducible rfl))
  try simp only [Act.put, List.setIfInBounds_toArray, List.set_cons_zero, List.set_cons_succ]
  refine wpAnyH_take (i := 6) (oi := ⟨some 47, _, _, _, _, _⟩) (v := ?_) rfl (by kernel_rfl) (by kernel_rfl) (by kernel_rfl) (fun _ _ _ h => h) (Or.inl ⟨by rfl, ?_⟩) (by assumption) ?_
  rotate_left
  · (intro w hSw; (try dsimp only at hSw); obtain ⟨kS, kr, k5⟩ := hSw; obtain ⟨k0, k1, k2, k3⟩ := kS.cells; have kl := kS.2; have kc0 := blk_cell kr 0; have kc1 := blk_cell kr 1; have klr := blk_lt kr; (go_simp <;> with_reducible rfl))
  try simp only [Act.put, List.setIfInBounds_toArray, List.set_cons_zero, List.set_cons_succ]
  refine wpAnyH_take (i := 7) (oi := ⟨some 48, _, _, _, _, _⟩) (v := ?_) rfl (by kernel_rfl) (by kernel_rfl) (by kernel_rfl) (fun _ _ _ h => h) (Or.inl ⟨by rfl, ?_⟩) (by assumption) ?_
  rotate_left
  · (intro w hSw; (try dsimp only at hSw); obtain ⟨kS, kr, k5⟩ := hSw; obtain ⟨k0, k1, k2, k3⟩ := kS.cells; have kl := kS.2; have kc0 := blk_cell kr 0; have kc1 := blk_cell kr 1; have klr := blk_lt kr; (go_simp <;> with_reducible rfl))
  try simp only [Act.put, List.setIfInBounds_toArray, List.set_cons_zero, List.set_cons_succ]
  refine wpAnyH_take (i := 8) (oi := ⟨some 49, _, _, _, _, _⟩) (v := ?_) rfl (by kernel_rfl) (by kernel_rfl) (by kernel_rfl) (fun _ _ _ h => h) (Or.inl ⟨by rfl, ?_⟩) (by assumption) ?_
  rotate_left
  · (intro w hSw; (try dsimp only at hSw); obtain ⟨kS, kr, k5⟩ := hSw; obtain ⟨k0, k1, k2, k3⟩ := kS.cells; have kl := kS.2; have kc0 := blk_cell kr 0; have kc1 := blk_cell kr 1; have klr := blk_lt kr; (go_simp <;> with_reducible rfl))
  try simp only [Act.put, List.setIfInBounds_toArray, List.set_cons_zero, List.set_cons_succ]
  refine wpAnyH_take (i := 9) (oi := ⟨some 50, _, _, _, _, _⟩) (v := ?_) rfl (by kernel_rfl) (by kernel_rfl) (by kernel_rfl) (fun _ _ _ h => h) (Or.inl ⟨by rfl, ?_⟩) (by assumption) ?_
  rotate_left
  · (intro w hSw; (try dsimp only at hSw); obtain ⟨kS, kr, k5⟩ := hSw; obtain ⟨k0, k1, k2, k3⟩ := kS.cells; have kl := kS.2; have kc0 := blk_cell kr 0; have kc1 := blk_cell kr 1; have klr := blk_lt kr; (go_simp <;> with_reducible rfl))
  try simp only [Act.put, List.setIfInBounds_toArray, List.set_cons_zero, List.set_cons_succ]
  refine wpAnyH_ready (rs := [10]) (by kernel_rfl) (by simp) ?_
  refine AllReadyH.cons rfl (fun K hK => ?_) AllReadyH.nil
  go_simp
  go_at_call 125
  refine (need_calls _ sz (by omega) (by omega)).mono ?_
  rintro e w9 ⟨rfl, rfl⟩
  refine hK.out _ _ (by assumption) (fun _ => ?_)
  clear hK K
  try simp only [Act.put, List.setIfInBounds_toArray, List.set_cons_zero, List.set_cons_succ]
  refine wpAnyH_take (i := 11) (oi := ⟨some 52, _, _, _, _, _⟩) (v := ?_) rfl (by kernel_rfl) (by kernel_rfl) (by kernel_rfl) (fun _ _ _ h => h) (Or.inl ⟨by rfl, ?_⟩) (by assumption) ?_
  rotate_left
  · (intro w hSw; (try dsimp only at hSw); obtain ⟨kS, kr, k5⟩ := hSw; obtain ⟨k0, k1, k2, k3⟩ := kS.cells; have kl := kS.2; have kc0 := blk_cell kr 0; have kc1 := blk_cell kr 1; have klr := blk_lt kr; (go_simp <;> with_reducible rfl))
  try simp only [Act.put, List.setIfInBounds_toArray, List.set_cons_zero, List.set_cons_succ]
  refine wpAnyH_take (i := 12) (oi := ⟨some 53, _, _, _, _, _⟩) (v := ?_) rfl (by kernel_rfl) (by kernel_rfl) (by kernel_rfl) (fun _ _ _ h => h) (Or.inl ⟨by rfl, ?_⟩) (by assumption) ?_
  rotate_left
  · (intro w hSw; (try dsimp only at hSw); obtain ⟨kS, kr, k5⟩ := hSw; obtain ⟨k0, k1, k2, k3⟩ := kS.cells; have kl := kS.2; have kc0 := blk_cell kr 0; have kc1 := blk_cell kr 1; have klr := blk_lt kr; (go_simp <;> with_reducible rfl))
  try simp only [Act.put, List.setIfInBounds_toArray, List.set_cons_zero, List.set_cons_succ]
  refine wpAnyH_take (i := 13) (oi := ⟨some 54, _, _, _, _, _⟩) (v := ?_) rfl (by kernel_rfl) (by kernel_rfl) (by kernel_rfl) (fun _ _ _ h => h) (Or.inl ⟨by rfl, ?_⟩) (by assumption) ?_
  rotate_left
  · (intro w hSw; (try dsimp only at hSw); obtain ⟨kS, kr, k5⟩ := hSw; obtain ⟨k0, k1, k2, k3⟩ := kS.cells; have kl := kS.2; have kc0 := blk_cell kr 0; have kc1 := blk_cell kr 1; have klr := blk_lt kr; (go_simp <;> with_reducible rfl))
  try simp only [Act.put, List.setIfInBounds_toArray, List.set_cons_zero, List.set_cons_succ]
  refine wpAnyH_take (i := 14) (oi := ⟨some 55, _, _, _, _, _⟩) (v := ?_) rfl (by kernel_rfl) (by kernel_rfl) (by kernel_rfl) (fun _ _ _ h => h) (Or.inl ⟨by rfl, ?_⟩) (by assumption) ?_
  rotate_left
  · (intro w hSw; (try dsimp only at hSw); obtain ⟨kS, kr, k5⟩ := hSw; obtain ⟨k0, k1, k2, k3⟩ := kS.cells; have kl := kS.2; have kc0 := blk_cell kr 0; have kc1 := blk_cell kr 1; have klr := blk_lt kr; (go_simp <;> with_reducible rfl))
  try simp only [Act.put, List.setIfInBounds_toArray, List.set_cons_zero, List.set_cons_succ]
  refine wpAnyH_take (i := 15) (oi := ⟨some 56, _, _, _, _, _⟩) (v := ?_) rfl (by kernel_rfl) (by kernel_rfl) (by kernel_rfl) (fun _ _ _ h => h) (Or.inl ⟨by rfl, ?_⟩) (by assumption) ?_
  rotate_left
  · (intro w hSw; (try dsimp only at hSw); obtain ⟨kS, kr, k5⟩ := hSw; obtain ⟨k0, k1, k2, k3⟩ := kS.cells; have kl := kS.2; have kc0 := blk_cell kr 0; have kc1 := blk_cell kr 1; have klr := blk_lt kr; (go_simp <;> with_reducible rfl))
  try simp only [Act.put, List.setIfInBounds_toArray, List.set_cons_zero, List.set_cons_succ]
  refine wpAnyH_take (i := 16) (oi := ⟨some 57, _, _, _, _, _⟩) (v := ?_) rfl (by kernel_rfl) (by kernel_rfl) (by kernel_rfl) (fun _ _ _ h => h) (Or.inl ⟨by rfl, ?_⟩) (by assumption) ?_
  rotate_left
  · (intro w hSw; (try dsimp only at hSw); obtain ⟨kS, kr, k5⟩ := hSw; obtain ⟨k0, k1, k2, k3⟩ := kS.cells; have kl := kS.2; have kc0 := blk_cell kr 0; have kc1 := blk_cell kr 1; have klr := blk_lt kr; (go_simp <;> with_reducible rfl))
  try simp only [Act.put, List.setIfInBounds_toArray, List.set_cons_zero, List.set_cons_succ]
  refine wpAnyH_take (i := 17) (oi := ⟨some 58, _, _, _, _, _⟩) (v := ?_) rfl (by kernel_rfl) (by kernel_rfl) (by kernel_rfl) (fun _ _ _ h => h) (Or.inl ⟨by rfl, ?_⟩) (by assumption) ?_
  rotate_left
  · (intro w hSw; (try dsimp only at hSw); obtain ⟨kS, kr, k5⟩ := hSw; obtain ⟨k0, k1, k2, k3⟩ := kS.cells; have kl := kS.2; have kc0 := blk_cell kr 0; have kc1 := blk_cell kr 1; have klr := blk_lt kr; (go_simp <;> with_reducible rfl))
  try simp only [Act.put, List.setIfInBounds_toArray, List.set_cons_zero, List.set_cons_succ]
  refine wpAnyH_take (i := 18) (oi := ⟨some 59, _, _, _, _, _⟩) (v := ?_) rfl (by kernel_rfl) (by kernel_rfl) (by kernel_rfl) (fun _ _ _ h => h) (Or.inl ⟨by rfl, ?_⟩) (by assumption) ?_
  rotate_left
  · (intro w hSw; (try dsimp only at hSw); obtain ⟨kS, kr, k5⟩ := hSw; obtain ⟨k0, k1, k2, k3⟩ := kS.cells; have kl := kS.2; have kc0 := blk_cell kr 0; have kc1 := blk_cell kr 1; have klr := blk_lt kr; (go_simp <;> with_reducible rfl))
  try simp only [Act.put, List.setIfInBounds_toArray, List.set_cons_zero, List.set_cons_succ]
  refine wpAnyH_ready (rs := [19]) (by kernel_rfl) (by simp) ?_
  refine AllReadyH.cons rfl (fun K hK => ?_) AllReadyH.nil
  go_simp
  go_at_call 162
  refine HC.out.mono ?_
  rintro e w9 ⟨rfl, hd9⟩
  have T9 := HT.out _ _ hd9
  have D9 := Lib.hid hd9
  clear hd9
  refine hK.out _ _ (by assumption) (fun _ => ?_)
  clear hK K
  try simp only [Act.put, List.setIfInBounds_toArray, List.set_cons_zero, List.set_cons_succ]
  refine wpAnyH_take (i := 20) (oi := ⟨some 61, _, _, _, _, _⟩) (v := ?_) rfl (by kernel_rfl) (by kernel_rfl) (by kernel_rfl) (fun _ _ _ h => h) (Or.inl ⟨by rfl, ?_⟩) (by assumption) ?_
  rotate_left
  · (intro w hSw; (try dsimp only at hSw); obtain ⟨kS, kr, k5⟩ := hSw; obtain ⟨k0, k1, k2, k3⟩ := kS.cells; have kl := kS.2; have kc0 := blk_cell kr 0; have kc1 := blk_cell kr 1; have klr := blk_lt kr; (go_simp <;> with_reducible rfl))
  try simp only [Act.put, List.setIfInBounds_toArray, List.set_cons_zero, List.set_cons_succ]
  refine wpAnyH_take (i := 21) (oi := ⟨some 62, _, _, _, _, _⟩) (v := ?_) rfl (by kernel_rfl) (by kernel_rfl) (by kernel_rfl) (fun _ _ _ h => h) (Or.inl ⟨by rfl, ?_⟩) (by assumption) ?_
  rotate_left
  · (intro w hSw; (try dsimp only at hSw); obtain ⟨kS, kr, k5⟩ := hSw; obtain ⟨k0, k1, k2, k3⟩ := kS.cells; have kl := kS.2; have kc0 := blk_cell kr 0; have kc1 := blk_cell kr 1; have klr := blk_lt kr; (go_simp <;> with_reducible rfl))
  try simp only [Act.put, List.setIfInBounds_toArray, List.set_cons_zero, List.set_cons_succ]
  refine wpAnyH_done (by kernel_rfl) ?_ _
  refine NoPanic.normal ?_
  obtain ⟨FF9, d9, ch9, s9⟩ := D9.out
  have B9 : Hid (Below w.heap.size w w9) := B7.out.trans (ch9.below B7.out.size hFFw.out)
  have hl7 := B7.out.size
  have PA9 : Hid (PgAt w9 p g (fun i => F i ∨ FF9 i ∨ i = p) D { P0 with fr := (P0.fr.claim ⟨st, pgs⟩).2 }) :=
    pg_new (ch9.blk HWp7.out hpF.out) (HD.out.below B9.out) d9 hPe.1 hPe.2 (by show P0.s.ok; rw [hPs]; exact HK.out) HD.out.lt (fun i hi => (s9 i hi).elim (hFFw.out i) (fun q => by omega)) hpw (fun q => (s9 p q).elim hpF.out (fun q => by have := blk_lt HWp7.out; omega))
  have hF9 : Hid (∀ i, (F i ∨ FF9 i ∨ i = p) → F i ∨ w.heap.size ≤ i) := by
    rintro i (hi | hi | hi)
    · exact .inl hi
    · exact .inr ((s9 i hi).elim (hFFw.out i) (fun q => by omega))
    · exact .inr (by omega)
  have HR := Lib.hid (pgRead_calls (HD.out.below B9.out) st sz (by omega) (by omega) (by omega) (by omega))
  obtain ⟨kS, kr, k5⟩ := T9
  obtain ⟨k0, k1, k2, k3⟩ := kS.cells
  have kl := kS.2
  have kc0 := blk_cell kr 0
  have kc1 := blk_cell kr 1
  have klr := blk_lt kr
  clear d9 ch9 s9 kS kr
  go_wp2_with fail
  refine HR.out.mono ?_
  rintro e w10 ⟨A, c, rfl, hc, hrd, hA, hb10⟩
  have B10 := Lib.hid (bl_then B9.out B9.out.size hb10)
  have PA10 := Lib.hid (PA9.out.below hb10)
  have HRd := Lib.hid hrd
  have HAl : Hid (∀ a, A = some a → w.heap.size ≤ a.block ∧ ¬ (F a.block ∨ FF9 a.block ∨ a.block = p)) := fun a ha => by
    have h1 := hA a ha
    have h2 := B9.out.size
    refine ⟨by omega, fun q => ?_⟩
    have := PA9.out.lt a.block q
    omega
  clear hrd hA hb10 HR
  generalize readT D st sz = R at *
  obtain ⟨bs, er⟩ := R
  simp only at hO3 hc HRd ⊢
  by_cases her : er = 0
  · subst her
    have hO : Hid (openR D = (some ({ P0 with fr := (P0.fr.claim ⟨st, pgs⟩).2 }, bs), 0)) := by show _ = _; rw [hO3.out]; simp
    go_wp2
    go_ret3
    exact .inl ⟨_, bs, p, _, A, c, hO.out, rfl, hc, HRd.out, HAl.out, PA10.out, hF9.out, B10.out⟩
  · have hO : Hid (openR D = (none, er)) := by show _ = _; rw [hO3.out]; simp [her]
    have heb2 : (er != 0) = true := by simpa using her
    clear HRd hc
    go_wp2
    go_ret3
    exact .inr ⟨er, hO.out, her, rfl, B10.out⟩
end
end Go.Proofs.YtikgplhcadomcaaGreat
