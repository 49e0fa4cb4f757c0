/- law04.DevDoes -/
import Derived.Test.YtglpckdmiohciaaSimDev
import Derived.Test.YtglpckdmiohciaaLawDevOwn
import Derived.Deep.CutBlock
import Derived.Deep.RegionHeld3
namespace Go.Proofs.Ytglpckdmiohciaa
open Go.RowKit
set_option linter.unusedVariables false
set_option linter.unusedSimpArgs false

theorem fault_len (D : Dv) (p : Int) (on : Bool) : (D.fault p on).cache.length = D.cache.length := by
  unfold Dv.fault
  repeat' split
  all_goals rfl
set_option maxRecDepth 100000 in
set_option maxHeartbeats 16000000 in
theorem devDoes_calls (w : World) (n : Int) (A : Option Addr) (c : Nat) (l : List Deed) (hA : Rd Deed.enc 7 w A l) (hc : l.length ≤ c) (hbig : c ≤ 9223372036854775807) (hg : ∀ x ∈ l, x.good w) :
    Calls Try.prog 9 #[.int .i64 n, .slice A l.length c] w fun e w' => e = .returned (.bool true) ∧ Below w.heap.size w w' := by
  have HR := Lib.hid hA
  have HG := Lib.hid hg
  clear hA hg
  go_enter Try.func9, Try.ntmps9
  go_wp2_with fail
  refine (awake04_calls w).mono ?_
  rintro e w2 ⟨rfl, hb2⟩
  have HB2 := Lib.hid hb2
  clear hb2
  go_wp2_with fail
  refine (few04_calls w2 A c l (HR.out.below HB2.out (Nat.le_refl _)) hc hbig).mono ?_
  rintro e w3 ⟨r, rfl, hb3, hr⟩
  have HB3 : Hid (Below w.heap.size w w3) := bl_then HB2.out HB2.out.size hb3
  clear hb3 HB2
  rcases r with _ | _
  case' false =>
    go_wp2
    go_ret
    exact ⟨rfl, HB3.out⟩
  have hl40 := hr rfl
  clear hr
  rcases (Decidable.em ((50 : Int) < n)) with hn | hn
  case' inl =>
    go_wp2
    go_ret
    exact ⟨rfl, HB3.out⟩
  go_wp2_with fail
  refine (new_calls w3 n).mono ?_
  rintro e w4 ⟨g, F, rfl, hd, hF, hb4⟩
  have HD := Lib.hid hd
  have HF := Lib.hid hF
  have HB4 := Lib.hid hb4
  clear hd hF hb4
  go_wp2_with fail
  refine (refNew_calls w4 n (by omega)).mono ?_
  rintro e w5 ⟨g2, F2, G2, rfl, hx, hG, hb5⟩
  have hB4 := bl_then HB3.out HB3.out.size HB4.out
  have H0 : Hid (Both w w5 g (Dv.new n) g2 (Rv.new n.toNat) 0) := ⟨⟨F, F2, G2, HD.out.below hb5, hx, fun i hi => Nat.le_trans HB3.out.size (HF.out i hi), fun i hi => Nat.le_trans hB4.size (hG i hi), fun i hi hf => by have := HD.out.lt i hi; have := hG i hf; omega, bl_then hB4 hB4.size hb5⟩, sim_new (by omega), Nat.le_refl _⟩
  clear HD HF HB4 HB3 hx hG hb5 hB4
  generalize Dv.new n = D0 at *
  generalize Rv.new n.toNat = X0 at *
  go_wp2
  go_loopg [5, 6, 35] l.length (fun m vd vx i wr => ∃ (k g g2 : Nat) (D : Dv) (X : Rv), vd = .pointer (some ⟨g, 0, none⟩) ∧ vx = .pointer (some ⟨g2, 0, none⟩) ∧ i = .int .i64 k ∧ k + m = l.length ∧ Hid (Both w wr g D g2 X k))
  case atStart => exact ⟨0, g, g2, _, _, rfl, rfl, rfl, by omega, H0.out⟩
  case round =>
    obtain ⟨k, g, g2, D, X, rfl, rfl, rfl, hk, hbo⟩ := hrel
    rcases Nat.lt_or_ge k l.length with hlt | hge
    · rcases HR.out with h0 | ⟨b, off, rfl, hbl, hcell⟩
      · simp [h0] at hlt
      have hx : l[k]? = some l[k] := List.getElem?_eq_getElem hlt
      have hgx := Lib.hid (HG.out _ (List.getElem_mem hlt))
      obtain ⟨c0, c1, c2, c3, c4, c5, c6⟩ := Deed.cells (HR.out.below hbo.out.1.bl (Nat.le_refl _)) hx
      generalize l[k] = x at *
      have i0 : (0 : Int) ≤ (k : Int) := by omega
      have i1 : (k : Int) < (l.length : Int) := by omega
      clear hcell hx
      have hput : Hid (DevY w (wr.alloc (.cells #[.int .i64 x.kind, .int .i64 x.pos, .slice x.A x.b.length x.cb, .int .i64 x.n, .slice x.K x.keep.length x.ck, .int .i64 x.torn, .int .i64 x.bytes] 53)) g D g2 X wr.heap.size (.cells (deedCells x) 53 (0, 0))) := hbo.out.1.put (deedCells x) 53
      generalize hWW : wr.alloc (.cells #[.int .i64 x.kind, .int .i64 x.pos, .slice x.A x.b.length x.cb, .int .i64 x.n, .slice x.K x.keep.length x.ck, .int .i64 x.torn, .int .i64 x.bytes] 53) = WW at hput
      have hcl : Hid (D.cache.length ≤ k) := hbo.out.2.2
      have hsim : Hid (Sim D X) := hbo.out.2.1
      have hcl1 : Hid (D.cache.length ≤ 1000000000000) := by have := hcl.out; show _ ≤ _; omega
      have hcl2 : Hid (X.cache.length ≤ 1000000000000) := by have := hcl.out; show _ ≤ _; rw [hsim.out.cache]; omega
      have hcl3 : Hid (X.S.length ≤ 1000000 ∧ X.bad.length ≤ 1000000 ∧ X.cache.length ≤ 1000000) := by
        have := hbo.out.1.n_le
        have h2 := hcl.out
        show _ ∧ _
        rw [hsim.out.n1, hsim.out.n2, hsim.out.cache]
        omega
      have hbad : Hid (X.bad.length = X.S.length) := by show _ = _; rw [hsim.out.n1, hsim.out.n2]
      have hval : Hid (∀ x ∈ X.cache, 0 ≤ x.pos ∧ x.pos < X.S.length) := by
        show ∀ x ∈ X.cache, _
        rw [hsim.out.cache, hsim.out.n1]
        exact hsim.out.inn
      clear hbo
      obtain ⟨d0, d1, d2, d3, d4, d5, d6⟩ := hput.out.deed
      go_upto_block 2 with fail
      clear hWW c0 c1 c2 c3 c4 c5 c6
      go_cut [5, 6, 9, 10] (fun s5 s6 s9 s10 wx => MeetR w wx (k + 1) s5 s6 s9 s10)
      case first =>
        rcases (Decidable.em (x.kind = 0)) with hk0 | hk0
        case' inl =>
          have hkt : (x.kind == 0) = true := by simpa using hk0
          clear hk0
          have hputd : Hid (DevY w WW.drew g D g2 X wr.heap.size (.cells (deedCells x) 53 (0, 0))) := hput.out.below (Below.refl _ WW).drew
          go_wp2_with fail
          go_region_held3 (fun W => W.cell? ⟨wr.heap.size, 1, none⟩ = some (.int .i64 x.pos) ∧ W.cell? ⟨wr.heap.size, 2, none⟩ = some (.slice x.A x.b.length x.cb))
            (first | exact ⟨d1, d2⟩ | exact ⟨k6.2.1, k6.2.2.1⟩ | exact ⟨k7.2.1, k7.2.2.1⟩)
            (first
              | (go_simp; go_at_call 32; refine (yD_write hputd.out x.pos x.A _ x.cb x.b rfl hgx.out.1.2.2 hgx.out.1.2.1 hgx.out.1.1 hcl1.out).mono ?_; rintro e w6 ⟨rfl, hd6⟩; have HD6 := Lib.hid hd6; have k6 := hd6.deed; clear hd6)
              | (go_simp; go_at_call 41; refine (yX_write HD6.out x.pos x.A _ x.cb x.b rfl hgx.out.1.2.2 hgx.out.1.2.1 hgx.out.1.1 hcl2.out).mono ?_; rintro e w7 ⟨rfl, hd7⟩; have HD7 := Lib.hid hd7; have k7 := hd7.deed; clear hd7))
          all_goals
            go_wp2_with fail
            go_meet
            exact ⟨g, g2, _, _, _, rfl, rfl, rfl, by rw [(sim_write hsim.out _ _).1], HD7.out.x, (sim_write hsim.out _ _).2, by have := write_len D x.pos x.b; have := hcl.out; omega⟩
        have hkb0 : (x.kind == 0) = false := by simpa using hk0
        rcases (Decidable.em (x.kind = 1)) with hk1 | hk1
        case' inl =>
          have hkt : (x.kind == 1) = true := by simpa using hk1
          clear hk1
          go_wp2_with fail
          refine (xD_read hput.out.x x.pos).mono ?_
          rintro e w6 ⟨A6, c6, rfl, hc6, hr6, -, hb6⟩
          have hput6 := Lib.hid (hput.out.below hb6)
          have k6 := hput6.out.deed
          have R6 := Lib.hid hr6
          clear hr6 hb6
          go_wp2_with fail
          refine (xX_read hput6.out.x x.pos hbad.out).mono ?_
          rintro e w7 ⟨A7, c7, rfl, hc7, hr7, -, hb7⟩
          have hput7 := Lib.hid (hput6.out.below hb7)
          rw [(sim_read hsim.out x.pos).1, (sim_read hsim.out x.pos).2]
          rw [(sim_read hsim.out x.pos).2] at hc7 hr7
          have v6 := run_strB (W := w7) (D.readB x.pos).length c6 rfl (R6.out.below hb7 (Nat.le_refl _))
          have v7 := run_strB (W := w7) (D.readB x.pos).length c7 rfl hr7
          have heq : ((strB (D.readB x.pos)).toList == (strB (D.readB x.pos)).toList) = true := by simp
          clear hr7 hb7 R6 k6 hput6
          go_wp2_with fail
          go_meet
          exact ⟨g, g2, _, _, _, rfl, rfl, rfl, rfl, hput7.out.x, hsim.out, by have := hcl.out; omega⟩
        have hkb1 : (x.kind == 1) = false := by simpa using hk1
        rcases (Decidable.em (x.kind = 2)) with hk2 | hk2
        case' inl =>
          have hkt : (x.kind == 2) = true := by simpa using hk2
          clear hk2
          go_wp2_with fail
          refine (yD_flush hput.out).mono ?_
          rintro e w6 ⟨rfl, hd6⟩
          have HD6 := Lib.hid hd6
          clear hd6
          go_wp2_with fail
          refine (yX_flush HD6.out hval.out).mono ?_
          rintro e w7 ⟨rfl, hd7⟩
          have HD7 := Lib.hid hd7
          clear hd7
          go_wp2_with fail
          go_meet
          exact ⟨g, g2, _, _, _, rfl, rfl, rfl, by rw [(sim_flush hsim.out).1], HD7.out.x, (sim_flush hsim.out).2, by have := flush_len D; have := hcl.out; omega⟩
        have hkb2 : (x.kind == 2) = false := by simpa using hk2
        rcases (Decidable.em (x.kind = 3)) with hk3 | hk3
        case' inl =>
          have hkt : (x.kind == 3) = true := by simpa using hk3
          clear hk3
          go_wp2_with fail
          refine (yD_arm hput.out x.n hgx.out.2.2).mono ?_
          rintro e w6 ⟨rfl, hd6⟩
          have HD6 := Lib.hid hd6
          obtain ⟨-, k1, k2, k3, k4, k5, k6⟩ := hd6.deed
          clear hd6
          go_wp2_with fail
          refine (yX_arm HD6.out x.n hgx.out.2.2).mono ?_
          rintro e w7 ⟨rfl, hd7⟩
          have HD7 := Lib.hid hd7
          clear hd7
          go_wp2_with fail
          go_meet
          exact ⟨g, g2, _, _, _, rfl, rfl, rfl, rfl, HD7.out.x, sim_arm hsim.out x.n, by have := hcl.out; show D.cache.length ≤ _; omega⟩
        have hkb3 : (x.kind == 3) = false := by simpa using hk3
        rcases (Decidable.em (x.kind = 4)) with hk4 | hk4
        case' inl =>
          have hkt : (x.kind == 4) = true := by simpa using hk4
          clear hk4
          go_wp2_with fail
          refine (yD_crash hput.out x.keep x.torn x.bytes x.K _ x.ck rfl hgx.out.2.1).mono ?_
          rintro e w6 ⟨rfl, hd6⟩
          have HD6 := Lib.hid hd6
          obtain ⟨-, k1, k2, k3, k4, k5, k6⟩ := hd6.deed
          clear hd6
          go_wp2_with fail
          refine (yX_crash HD6.out hval.out x.keep x.torn x.bytes x.K _ x.ck rfl hgx.out.2.1).mono ?_
          rintro e w7 ⟨rfl, hd7⟩
          have HD7 := Lib.hid hd7
          clear hd7
          go_wp2_with fail
          go_meet
          exact ⟨g, g2, _, _, _, rfl, rfl, rfl, rfl, HD7.out.x, sim_crash hsim.out _, Nat.zero_le _⟩
        have hkb4 : (x.kind == 4) = false := by simpa using hk4
        rcases (Decidable.em (x.kind = 5)) with hk5 | hk5
        case' inl =>
          have hkt : (x.kind == 5) = true := by simpa using hk5
          clear hk5
          go_wp2_with fail
          refine (yD_fault hput.out x.pos (x.n != 0)).mono ?_
          rintro e w6 ⟨rfl, hd6⟩
          have HD6 := Lib.hid hd6
          obtain ⟨-, k1, k2, k3, k4, k5, k6⟩ := hd6.deed
          clear hd6
          go_wp2_with fail
          refine (yX_fault HD6.out x.pos (x.n != 0) hbad.out).mono ?_
          rintro e w7 ⟨rfl, hd7⟩
          have HD7 := Lib.hid hd7
          clear hd7
          go_wp2_with fail
          go_meet
          exact ⟨g, g2, _, _, _, rfl, rfl, rfl, rfl, HD7.out.x, sim_fault hsim.out _ _, by rw [fault_len]; have := hcl.out; omega⟩
        have hkb5 : (x.kind == 5) = false := by simpa using hk5
        rcases (Decidable.em (x.kind = 6)) with hk6 | hk6
        case' inl =>
          have hkt : (x.kind == 6) = true := by simpa using hk6
          clear hk6
          go_wp2_with fail
          refine (yD_copy hput.out hcl1.out).mono ?_
          rintro e w6 ⟨g', rfl, hd6⟩
          have HD6 := Lib.hid hd6
          clear hd6
          go_wp2_with fail
          refine (yX_copy HD6.out hcl3.out).mono ?_
          rintro e w7 ⟨g2', rfl, hd7⟩
          have HD7 := Lib.hid hd7
          clear hd7
          go_wp2_with fail
          go_meet
          exact ⟨g', g2', _, _, _, rfl, rfl, rfl, rfl, HD7.out.x, hsim.out, by have := hcl.out; omega⟩
        have hkb6 : (x.kind == 6) = false := by simpa using hk6
        go_wp2_with fail
        go_meet
        exact ⟨g, g2, _, _, _, rfl, rfl, rfl, rfl, hput.out.x, hsim.out, by have := hcl.out; omega⟩
      case rest =>
        obtain ⟨g', g2', D', X', e, rfl, rfl, rfl, rfl, hbo⟩ := hcut
        obtain ⟨q1, q2, q3⟩ := hbo
        obtain ⟨SA, sa, CB, cb, c0, c1, c4⟩ := q1.cells
        rw [q2.n1] at c0
        rw [q2.cache] at c1
        rw [q2.dead] at c4
        have hd := fun nq => Lib.hid (quietL (xD_dead (q1.below (bl_drewN (Below.refl _ wc) nq))))
        have hcd := fun nq => Lib.hid (quietL (xD_cached (q1.below (bl_drewN (Below.refl _ wc) nq))))
        have hsz := fun nq => Lib.hid (quietL (xD_size (q1.below (bl_drewN (Below.refl _ wc) nq))))
        have hBoth : Hid (∀ nq, Both w (wc.drewN nq) g' D' g2' X' (k + 1)) := fun nq => ⟨q1.below (bl_drewN (Below.refl _ wc) nq), q2, q3⟩
        have hnn : Hid (D'.n ≤ 65536) := q1.n_le
        clear q1 q2 q3
        go_wp2_with fail
        go_quiet ((first | (go_at_call 34; exact (hd _).out) | (go_at_call 39; exact (hcd _).out) | (go_at_call 37; exact (hsz _).out)))
        go_wp2_with fail
        go_roundg (gk - 1)
        case measure => omega
        case rel => exact ⟨k + 1, g', g2', D', X', rfl, rfl, by go_num, by omega, hBoth.out _⟩
    · obtain rfl : k = l.length := by omega
      obtain ⟨q1, q2, q3⟩ := hbo.out
      obtain ⟨SA, sa, CB, cb, c0, c1, c4⟩ := q1.cells
      rw [q2.n1] at c0
      have HS := Lib.hid q2
      have HX := Lib.hid q1
      have hnn : Hid (D.n ≤ 65536) := q1.n_le
      have hbad : Hid (X.bad.length = X.S.length) := by show _ = _; rw [q2.n1, q2.n2]
      clear hbo q1 q2 q3
      go_wp2_with fail
      obtain ⟨gk0, hgk0⟩ : ∃ G, G = gk := ⟨_, rfl⟩
      go_loopg [164] D.n (fun m i wr2 => ∃ j : Nat, i = .int .i64 j ∧ j + m = D.n ∧ Hid (Below wr.heap.size wr wr2))
      case atStart => exact ⟨0, rfl, by omega, Below.refl _ _⟩
      case round =>
        obtain ⟨j, rfl, hj, hb2⟩ := hrel
        rcases Nat.lt_or_ge j D.n with hlt | hge2
        · have i0 : (0 : Int) ≤ (j : Int) := by omega
          have i1 : (j : Int) < (D.n : Int) := by omega
          have HX2 := Lib.hid (HX.out.below hb2.out)
          have hn2 : D.n ≤ 65536 := hnn.out
          go_wp2_with fail
          refine (xD_read HX2.out j).mono ?_
          rintro e w6 ⟨A6, c6, rfl, hc6, hr6, -, hb6⟩
          have HX6 := Lib.hid (HX2.out.below hb6)
          have B6 := Lib.hid (bl_then hb2.out hb2.out.size hb6)
          have R6 := Lib.hid hr6
          clear hr6 hb6
          go_wp2_with fail
          refine (xX_read HX6.out j hbad.out).mono ?_
          rintro e w7 ⟨A7, c7, rfl, hc7, hr7, -, hb7⟩
          have B7 := Lib.hid (bl_then B6.out B6.out.size hb7)
          rw [(sim_read HS.out j).1, (sim_read HS.out j).2]
          rw [(sim_read HS.out j).2] at hc7 hr7
          have v6 := run_strB (W := w7) (D.readB j).length c6 rfl (R6.out.below hb7 (Nat.le_refl _))
          have v7 := run_strB (W := w7) (D.readB j).length c7 rfl hr7
          have heq : ((strB (D.readB j)).toList == (strB (D.readB j)).toList) = true := by simp
          clear hr7 hb7 R6
          go_wp2_with fail
          go_roundg (D.n - (j + 1))
          case measure => omega
          case rel => exact ⟨j + 1, by go_num, by omega, B7.out⟩
        · have i1 : ¬ (j : Int) < (D.n : Int) := by omega
          go_wp2_with fail
          go_ret
          exact ⟨rfl, bl_then HX.out.bl HX.out.bl.size hb2.out⟩
theorem devDoes_row (w : World) (v0 v1 : Value) (n : Int) (l : List Deed) (h0 : IntV v0 n) (h1 : Deeds w v1 l) :
    Calls Try.prog 9 #[v0, v1] w fun e w' => e = .returned (.bool true) ∧ Below w.heap.size w w' := by
  obtain ⟨rfl, _⟩ := h0
  obtain ⟨A, c, rfl, hc, hbig, hA, hg⟩ := h1
  exact devDoes_calls w n A c l hA hc hbig hg
end Go.Proofs.Ytglpckdmiohciaa
