/- law04.DevArms -/
import Derived.Test.YtglpckdmiohciaaLaw04
namespace Go.Proofs.Ytglpckdmiohciaa
open Go.RowKit
set_option linter.unusedVariables false
set_option linter.unusedSimpArgs false

/-- The device is armed as the law reckons. -/
def ArmOk (arm : Int) (D : Dv) (left : Int) : Prop := D.dead = false ∧ (0 ≤ arm → D.armed = true ∧ D.left = left ∧ 0 ≤ left) ∧ (arm < 0 → D.armed = false ∧ left = arm)
def less (left : Int) : Int := if 0 < left then left - 1 else left
/-- What one more thing makes of it. -/
def StepR (arm : Int) (D : Dv) (left : Int) (r : Int × Dv) : Prop :=
  (r.1 = 1 ∧ r.2 = D) ∨ (r.1 = 40 ∧ r.2.dead = true ∧ 0 ≤ arm ∧ left ≤ 0) ∨ (r.1 = 0 ∧ ¬ (0 ≤ arm ∧ left ≤ 0) ∧ ArmOk arm r.2 (less left) ∧ r.2.cache.length ≤ D.cache.length + 1)
theorem act_step {arm left : Int} {D : Dv} (h : ArmOk arm D left) : (D.act.1 = false ∧ D.act.2.dead = true ∧ 0 ≤ arm ∧ left ≤ 0) ∨ (D.act.1 = true ∧ ¬ (0 ≤ arm ∧ left ≤ 0) ∧ ArmOk arm D.act.2 (less left)) := by
  obtain ⟨h0, h1, h2⟩ := h
  by_cases ha : 0 ≤ arm
  · obtain ⟨a1, a2, a3⟩ := h1 ha
    by_cases hl : D.left = 0
    · left
      simp only [Dv.act, h0, a1, hl]
      exact ⟨rfl, rfl, ha, by omega⟩
    · right
      simp only [Dv.act, h0, a1, if_neg hl]
      refine ⟨rfl, by omega, rfl, fun _ => ⟨rfl, ?_, ?_⟩, fun h => by omega⟩
      · show D.left - 1 = less left
        unfold less
        rw [if_pos (by omega)]
        omega
      · unfold less
        rw [if_pos (by omega)]
        omega
  · obtain ⟨a1, a2⟩ := h2 (by omega)
    right
    simp only [Dv.act, h0, a1]
    refine ⟨rfl, by omega, h0, fun h => absurd h ha, fun _ => ⟨a1, ?_⟩⟩
    unfold less
    rw [if_neg (by omega)]
    exact a2
theorem write_step {arm left : Int} {D : Dv} (h : ArmOk arm D left) (p : Int) (b : List Int) : StepR arm D left (D.write p b) := by
  unfold Dv.write
  rw [if_neg (by simp [h.1])]
  by_cases hb : D.has p = true ∧ (b.length = 32 ∧ ∀ x ∈ b, 0 ≤ x ∧ x ≤ 255)
  · rw [dif_pos hb]
    rcases act_step h with ⟨h1, h2, h3, h4⟩ | ⟨h1, h2, h3⟩
    · rw [if_neg (by simp [h1])]
      exact .inr (.inl ⟨rfl, h2, h3, h4⟩)
    · rw [if_pos h1]
      refine .inr (.inr ⟨rfl, h2, h3, ?_⟩)
      rw [(act_n D).2.1]
      simp
  · rw [dif_neg hb]
    exact .inl ⟨rfl, rfl⟩
theorem flush_step {arm left : Int} {D : Dv} (h : ArmOk arm D left) : StepR arm D left D.flush := by
  unfold Dv.flush
  rcases act_step h with ⟨h1, h2, h3, h4⟩ | ⟨h1, h2, h3⟩
  · rw [if_neg (by simp [h1])]
    exact .inr (.inl ⟨rfl, h2, h3, h4⟩)
  · rw [if_pos h1]
    exact .inr (.inr ⟨rfl, h2, h3, by simp⟩)
theorem arm_new (n arm : Int) : ArmOk arm ((Dv.new n).arm arm) arm := by
  refine ⟨rfl, fun h => ⟨by simp [Dv.arm, h], by simp only [Dv.arm]; omega, h⟩, fun h => ⟨?_, rfl⟩⟩
  simp only [Dv.arm, decide_eq_false_iff_not]
  omega
theorem crash_end (D : Dv) (f : Fate) : (D.crash f).dead = false ∧ (D.crash f).flush.1 = 0 := ⟨rfl, rfl⟩

set_option maxRecDepth 100000 in
set_option maxHeartbeats 8000000 in
theorem devArms_calls (w : World) (n arm : Int) (A : Option Addr) (c : Nat) (l : List Deed) (fk : List Bool) (ft fb : Int) (K : Option Addr) (ck : Nat) (hA : Rd Deed.enc 7 w A l) (hc : l.length ≤ c) (hbig : c ≤ 9223372036854775807) (hg : ∀ x ∈ l, x.good w) (hK : Rd boolEnc 1 w K fk) (harm : arm ≤ 9223372036854775807) :
    Calls Try.prog 7 #[.int .i64 n, .slice A l.length c, .int .i64 arm, .agg #[.slice K fk.length ck, .int .i64 ft, .int .i64 fb]] w fun e w' => e = .returned (.bool true) ∧ Below w.heap.size w w' := by
  obtain ⟨W1, hW1⟩ : ∃ W, W = w.alloc (.cells #[.slice K fk.length ck, .int .i64 ft, .int .i64 fb] 47) := ⟨_, rfl⟩
  have hb1 : Hid (Below w.heap.size w W1) := hW1 ▸ bl_alloc (Below.refl _ w) _
  have hs1 : W1.heap.size = w.heap.size + 1 := by rw [hW1]; simp
  have hx1 : W1.heap[w.heap.size]? = some (.cells #[.slice K fk.length ck, .int .i64 ft, .int .i64 fb] 47 (0, 0)) := hW1 ▸ blk_new w _
  have HR := Lib.hid (hA.below hb1.out (Nat.le_refl _))
  have HK := Lib.hid (hK.below hb1.out (Nat.le_refl _))
  have HX := Lib.hid hx1
  have HG : Hid (∀ x ∈ l, (x.b.length ≤ x.cb ∧ byteL x.b ∧ Rd by1 1 W1 x.A x.b)) := fun x hx => by
    obtain ⟨⟨a1, a2, a3⟩, _⟩ := hg x hx
    exact ⟨a1, a2, a3.below hb1.out (Nat.le_refl _)⟩
  clear hA hK hg hx1
  go_enter Try.func7, Try.ntmps7
  go_upto_region 1 with fail
  rw [← hW1]
  clear hW1
  go_wp2_with fail
  refine (awake04_calls W1).mono ?_
  rintro e w2 ⟨rfl, hb2⟩
  have HB2 := Lib.hid hb2
  clear hb2
  go_wp2_with fail
  refine (few04_calls w2 A c l (HR.out.below HB2.out (Nat.le_refl _)) hc hbig).mono ?_
  rintro e w3 ⟨r, rfl, hb3, hr⟩
  have HB3 : Hid (Below W1.heap.size W1 w3) := bl_then HB2.out HB2.out.size hb3
  clear hb3 HB2
  have hX3 := blk_below HB3.out HX.out (by omega)
  have x0 := blk_cell hX3 0
  simp at x0
  rcases r with _ | _
  case' false =>
    go_wp2
    go_ret
    exact ⟨rfl, hb1.out.trans (HB3.out.mono (by omega))⟩
  have hl40 := hr rfl
  clear hr hX3
  rcases (Decidable.em ((50 : Int) < n)) with hn | hn
  case' inl =>
    go_wp2
    go_ret
    exact ⟨rfl, hb1.out.trans (HB3.out.mono (by omega))⟩
  rcases (Decidable.em ((100 : Int) < (fk.length : Int))) with hn2 | hn2
  case' inl =>
    go_wp2
    go_ret
    exact ⟨rfl, hb1.out.trans (HB3.out.mono (by omega))⟩
  go_wp2_with fail
  refine (devB_new HB3.out n).mono ?_
  rintro e w4 ⟨g, rfl, hd⟩
  have HD := Lib.hid hd
  clear hd
  go_wp2_with fail
  refine (devB_arm HD.out arm harm).mono ?_
  rintro e w5 ⟨rfl, hd⟩
  have HD5 := Lib.hid hd
  clear hd HD
  go_wp2
  go_loopg [37, 10] l.length (fun m i lf wr => ∃ (k : Nat) (left : Int) (D : Dv), i = .int .i64 k ∧ lf = .int .i64 left ∧ k + m = l.length ∧ Hid (DevB W1 wr g D) ∧ Hid (ArmOk arm D left) ∧ Hid (D.cache.length ≤ k))
  case atStart => exact ⟨0, arm, _, rfl, rfl, by omega, HD5.out, arm_new n arm, by show _ ≤ _; simp [Dv.arm, Dv.new]⟩
  case round =>
    obtain ⟨k, left, D, rfl, rfl, hk, hD, ha, hcl⟩ := hrel
    rcases Nat.lt_or_ge k l.length with hlt | hge
    · rcases HR.out with h0 | ⟨b, off, rfl, hbl, hcell⟩
      · simp [h0] at hlt
      have hx : l[k]? = some l[k] := List.getElem?_eq_getElem hlt
      have hgx := Lib.hid (HG.out _ (List.getElem_mem hlt))
      obtain ⟨c0, c1, c2, c3, c4, c5, c6⟩ := Deed.cells (HR.out.below hD.out.bl (Nat.le_refl _)) hx
      generalize l[k] = x at *
      have i0 : (0 : Int) ≤ (k : Int) := by omega
      have i1 : (k : Int) < (l.length : Int) := by omega
      have hD2 : Hid (∀ o, DevB W1 (wr.alloc o) g D) := fun o => hD.out.alloc o
      clear hcell hx
      have hleft : 0 < left → left ≤ 9223372036854775807 := fun hp => by
        obtain ⟨F, h1, _, _⟩ := hD.out
        have h2 := h1.left0
        have h3 : 0 ≤ arm := by
          by_cases hh : 0 ≤ arm
          · exact hh
          · have := (ha.out.2.2 (by omega)).2
            omega
        have h4 := (ha.out.2.1 h3).2.1
        omega
      have hcl2 : D.cache.length ≤ 1000000000000 := by have := hcl.out; omega
      rcases (Decidable.em (x.kind = 0)) with hk0 | hk0
      · have hkb : (x.kind == 0) = true := by simpa using hk0
        go_wp2_with fail
        refine (devB_write (hD2.out _) x.pos x.A _ x.cb x.b rfl hgx.out.2.2 hgx.out.2.1 hgx.out.1 hcl2).mono ?_
        rintro e w6 ⟨rfl, hd6⟩
        have hst := write_step ha.out x.pos x.b
        generalize hrr : D.write x.pos x.b = rr at *
        obtain ⟨e0, D'⟩ := rr
        clear hrr
        rcases hst with ⟨h1, h2⟩ | ⟨h1, h2, h3, h4⟩ | ⟨h1, h2, h3, h4⟩
        · dsimp only at h1 h2 hd6
          subst h1 h2
          have HD6 := Lib.hid hd6
          clear hd6
          go_wp2
          go_roundg (gk - 1)
          case measure => omega
          case rel => exact ⟨k + 1, left, _, by go_num, rfl, by omega, HD6, ha, by have := hcl.out; show _ ≤ _; omega⟩
        · dsimp only at h1 h2 hd6
          subst h1
          have HD6 := Lib.hid hd6
          clear hd6
          go_wp2_with fail
          refine (devB_dead HD6.out).mono ?_
          rintro e wy ⟨rfl, rfl⟩
          rw [h2]
          have hXt := blk_below (HD6).out.bl HX.out (by omega)
          have t0 := blk_cell hXt 0
          have t1 := blk_cell hXt 1
          have t2 := blk_cell hXt 2
          simp at t0 t1 t2
          clear hXt
          go_wp2_with fail
          refine (devB_crash (HD6).out fk ft fb K _ ck rfl HK.out).mono ?_
          rintro e wz ⟨rfl, hdz⟩
          have HDz := Lib.hid hdz
          clear hdz t0 t1 t2
          go_wp2_with fail
          refine (devB_dead HDz.out).mono ?_
          rintro e wq ⟨rfl, rfl⟩
          rw [(crash_end _ _).1]
          go_wp2_with fail
          refine (devB_flush HDz.out).mono ?_
          rintro e wq ⟨rfl, hdq⟩
          rw [(crash_end _ _).2]
          have hBq := Lib.hid (hb1.out.trans (hdq.bl.mono (by omega)))
          clear hdq
          go_wp2
          go_ret
          exact ⟨rfl, hBq.out⟩
        · dsimp only at h1 h2 h3 h4 hd6
          subst h1
          have HD6 := Lib.hid hd6
          have H3 := Lib.hid h3
          have H4 : Hid (D'.cache.length ≤ k + 1) := by have := hcl.out; show _ ≤ _; omega
          have hdd : D'.dead = false := h3.1
          clear hd6 h3 h4
          by_cases harm0 : 0 ≤ arm
          · have hl0 : ¬ left ≤ 0 := fun h => h2 ⟨harm0, h⟩
            have hlp : 0 < left := by omega
            have hw : wrap64 (left - 1) = left - 1 := by unfold wrap64; omega
            have hls : Hid (less left = left - 1) := by show _ = _; unfold less; rw [if_pos hlp]
            clear h2
            go_wp2_with fail
            refine (devB_dead HD6.out).mono ?_
            rintro e wy ⟨rfl, rfl⟩
            rw [hdd]
            go_wp2
            go_roundg (gk - 1)
            case measure => omega
            case rel => exact ⟨k + 1, less left, _, by go_num, by rw [hls.out], by omega, HD6, H3, H4⟩
          · have hl0 : left = arm := (ha.out.2.2 (by omega)).2
            have hlp : ¬ 0 < left := by omega
            have hls : Hid (less left = left) := by show _ = _; unfold less; rw [if_neg hlp]
            clear h2 hl0
            go_wp2_with fail
            refine (devB_dead HD6.out).mono ?_
            rintro e wy ⟨rfl, rfl⟩
            rw [hdd]
            go_wp2
            go_roundg (gk - 1)
            case measure => omega
            case rel => exact ⟨k + 1, less left, _, by go_num, by rw [hls.out], by omega, HD6, H3, H4⟩
      · rcases (Decidable.em (x.kind = 2)) with hk2 | hk2
        · have hkb : (x.kind == 0) = false := by simpa using hk0
          have hkb2 : (x.kind == 2) = true := by simpa using hk2
          go_wp2_with fail
          refine (devB_flush (hD2.out _)).mono ?_
          rintro e w6 ⟨rfl, hd6⟩
          have hst := flush_step ha.out
          generalize hrr : D.flush = rr at *
          obtain ⟨e0, D'⟩ := rr
          clear hrr
          rcases hst with ⟨h1, h2⟩ | ⟨h1, h2, h3, h4⟩ | ⟨h1, h2, h3, h4⟩
          · dsimp only at h1 h2 hd6
            subst h1 h2
            have HD6 := Lib.hid hd6
            clear hd6
            go_wp2
            go_roundg (gk - 1)
            case measure => omega
            case rel => exact ⟨k + 1, left, _, by go_num, rfl, by omega, HD6, ha, by have := hcl.out; show _ ≤ _; omega⟩
          · dsimp only at h1 h2 hd6
            subst h1
            have HD6 := Lib.hid hd6
            clear hd6
            go_wp2_with fail
            refine (devB_dead HD6.out).mono ?_
            rintro e wy ⟨rfl, rfl⟩
            rw [h2]
            have hXt := blk_below (HD6).out.bl HX.out (by omega)
            have t0 := blk_cell hXt 0
            have t1 := blk_cell hXt 1
            have t2 := blk_cell hXt 2
            simp at t0 t1 t2
            clear hXt
            go_wp2_with fail
            refine (devB_crash (HD6).out fk ft fb K _ ck rfl HK.out).mono ?_
            rintro e wz ⟨rfl, hdz⟩
            have HDz := Lib.hid hdz
            clear hdz t0 t1 t2
            go_wp2_with fail
            refine (devB_dead HDz.out).mono ?_
            rintro e wq ⟨rfl, rfl⟩
            rw [(crash_end _ _).1]
            go_wp2_with fail
            refine (devB_flush HDz.out).mono ?_
            rintro e wq ⟨rfl, hdq⟩
            rw [(crash_end _ _).2]
            have hBq := Lib.hid (hb1.out.trans (hdq.bl.mono (by omega)))
            clear hdq
            go_wp2
            go_ret
            exact ⟨rfl, hBq.out⟩
          · dsimp only at h1 h2 h3 h4 hd6
            subst h1
            have HD6 := Lib.hid hd6
            have H3 := Lib.hid h3
            have H4 : Hid (D'.cache.length ≤ k + 1) := by have := hcl.out; show _ ≤ _; omega
            have hdd : D'.dead = false := h3.1
            clear hd6 h3 h4
            by_cases harm0 : 0 ≤ arm
            · have hl0 : ¬ left ≤ 0 := fun h => h2 ⟨harm0, h⟩
              have hlp : 0 < left := by omega
              have hw : wrap64 (left - 1) = left - 1 := by unfold wrap64; omega
              have hls : Hid (less left = left - 1) := by show _ = _; unfold less; rw [if_pos hlp]
              clear h2
              go_wp2_with fail
              refine (devB_dead HD6.out).mono ?_
              rintro e wy ⟨rfl, rfl⟩
              rw [hdd]
              go_wp2
              go_roundg (gk - 1)
              case measure => omega
              case rel => exact ⟨k + 1, less left, _, by go_num, by rw [hls.out], by omega, HD6, H3, H4⟩
            · have hl0 : left = arm := (ha.out.2.2 (by omega)).2
              have hlp : ¬ 0 < left := by omega
              have hls : Hid (less left = left) := by show _ = _; unfold less; rw [if_neg hlp]
              clear h2 hl0
              go_wp2_with fail
              refine (devB_dead HD6.out).mono ?_
              rintro e wy ⟨rfl, rfl⟩
              rw [hdd]
              go_wp2
              go_roundg (gk - 1)
              case measure => omega
              case rel => exact ⟨k + 1, less left, _, by go_num, by rw [hls.out], by omega, HD6, H3, H4⟩
        · have hkb : (x.kind == 0) = false := by simpa using hk0
          have hkb2 : (x.kind == 2) = false := by simpa using hk2
          go_wp2
          go_roundg (gk - 1)
          case measure => omega
          case rel => exact ⟨k + 1, left, _, by go_num, rfl, by omega, hD2.out _, ha, by have := hcl.out; show _ ≤ _; omega⟩
    · 
      have hXt := blk_below (hD).out.bl HX.out (by omega)
      have t0 := blk_cell hXt 0
      have t1 := blk_cell hXt 1
      have t2 := blk_cell hXt 2
      simp at t0 t1 t2
      clear hXt
      go_wp2_with fail
      refine (devB_crash (hD).out fk ft fb K _ ck rfl HK.out).mono ?_
      rintro e wz ⟨rfl, hdz⟩
      have HDz := Lib.hid hdz
      clear hdz t0 t1 t2
      go_wp2_with fail
      refine (devB_dead HDz.out).mono ?_
      rintro e wq ⟨rfl, rfl⟩
      rw [(crash_end _ _).1]
      go_wp2_with fail
      refine (devB_flush HDz.out).mono ?_
      rintro e wq ⟨rfl, hdq⟩
      rw [(crash_end _ _).2]
      have hBq := Lib.hid (hb1.out.trans (hdq.bl.mono (by omega)))
      clear hdq
      go_wp2
      go_ret
      exact ⟨rfl, hBq.out⟩
theorem devArms_row (w : World) (v0 v1 v2 v3 : Value) (n arm : Int) (l : List Deed) (f : Fate) (h0 : IntV v0 n) (h1 : Deeds w v1 l) (h2 : IntV v2 arm) (h3 : FateV w v3 f) :
    Calls Try.prog 7 #[v0, v1, v2, v3] w fun e w' => e = .returned (.bool true) ∧ Below w.heap.size w w' := by
  obtain ⟨rfl, _⟩ := h0
  obtain ⟨A, c, rfl, hc, hbig, hA, hg⟩ := h1
  obtain ⟨rfl, _, harm⟩ := h2
  obtain ⟨K, ck, rfl, hk, hK⟩ := h3
  exact devArms_calls w n arm A c l f.keep f.torn f.bytes K ck hA hc hbig hg hK harm
end Go.Proofs.Ytglpckdmiohciaa
