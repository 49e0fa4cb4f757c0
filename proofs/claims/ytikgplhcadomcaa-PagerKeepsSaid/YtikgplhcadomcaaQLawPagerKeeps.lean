/- law07.PagerKeeps -/
import Derived.Test.YtikgplhcadomcaaKL
import Derived.Test.YtikgplhcadomcaaKG
namespace Go.Proofs.Ytikgplhcadomcaa
open Go.RowKit
set_option linter.unusedVariables false
set_option linter.unusedSimpArgs false
theorem one_new : Fr.new 1 (((400 : Nat) : Int) / 4) = one 1 := by kernel_rfl
theorem map_take {l : List Tx} {k : Nat} (h : k < l.length) : (l.map Tx.b).take (k + 1) = (l.map Tx.b).take k ++ [(l[k]).b] := by
  rw [List.take_add_one, List.getElem?_map, List.getElem?_eq_getElem h]
  rfl
set_option maxRecDepth 100000 in
set_option maxHeartbeats 8000000 in
theorem pagerKeeps_calls (w : World) (A : Option Addr) (c : Nat) (l : List Tx) (hc : l.length ≤ c) (hr : Rd Tx.enc 1 w A l) (hg : ∀ x ∈ l, x.good w) (Aa : Option Addr) (ca : Nat) (a : List Int) (hca : a.length ≤ ca) (hab : byteL a) (har : Rd by1 1 w Aa a)
    (Ab : Option Addr) (cb : Nat) (b : List Int) (hcb : b.length ≤ cb) (hbb : byteL b) (hbr : Rd by1 1 w Ab b) (arm : Int) (harm : arm ≤ 9223372036854775807) (f : Fate) (K : Option Addr) (ck : Nat) (hK : Rd boolEnc 1 w K f.keep) :
    Calls Try.prog 4 #[.slice A l.length c, .slice Aa a.length ca, .slice Ab b.length cb, .int .i64 arm, .agg #[.slice K f.keep.length ck, .int .i64 f.torn, .int .i64 f.bytes]] w fun e w' => e = .returned (.bool true) ∧ Below w.heap.size w w' := by
  obtain ⟨W0, hW0⟩ : ∃ W, w.alloc (.cells #[.slice K f.keep.length ck, .int .i64 f.torn, .int .i64 f.bytes] 44) = W := ⟨_, rfl⟩
  have hb0 : Below w.heap.size w W0 := by rw [← hW0]; exact bl_alloc (Below.refl _ w) _
  obtain ⟨z, hz⟩ : ∃ z, w.heap.size = z := ⟨_, rfl⟩
  have HB0 := Lib.hid hb0
  have HZ0 : Hid (W0.heap[z]? = some (.cells #[.slice K f.keep.length ck, .int .i64 f.torn, .int .i64 f.bytes] 44 (0, 0))) := by show _ = _; rw [← hW0, ← hz]; exact blk_new w _
  have HR := Lib.hid (hr.below hb0 (Nat.le_refl _))
  have HG : Hid (∀ x ∈ l, x.good W0) := fun x hx => ⟨(hg x hx).1, (hg x hx).2.1, (hg x hx).2.2.below hb0 (Nat.le_refl _)⟩
  have HAB := Lib.hid hab
  have HAR := Lib.hid (har.below hb0 (Nat.le_refl _))
  have HBB := Lib.hid hbb
  have HBR := Lib.hid (hbr.below hb0 (Nat.le_refl _))
  have HK := Lib.hid (hK.below hb0 (Nat.le_refl _))
  have fin : Hid (∀ W', Below W0.heap.size W0 W' → Below w.heap.size w W') := fun W' h => bl_then HB0.out HB0.out.size h
  have zc : Hid (∀ W', Below W0.heap.size W0 W' → W'.cell? ⟨z, 0, none⟩ = some (.slice K f.keep.length ck) ∧ W'.cell? ⟨z, 1, none⟩ = some (.int .i64 f.torn) ∧ W'.cell? ⟨z, 2, none⟩ = some (.int .i64 f.bytes) ∧ z < W'.heap.size) := fun W' h => by
    have h1 := blk_below h HZ0.out (blk_lt HZ0.out)
    exact ⟨by rw [blk_cell h1]; rfl, by rw [blk_cell h1]; rfl, by rw [blk_cell h1]; rfl, blk_lt h1⟩
  clear hr hg hab har hbb hbr hK hb0
  go_enter Try.func4, Try.ntmps4
  go_wp2_with fail
  refine (awake07_calls _).mono ?_
  rintro e w1 ⟨rfl, hb1⟩
  have B1 := Lib.hid hb1
  obtain ⟨x0, x1, x2, xl⟩ := zc.out w1 hb1
  clear hb1
  by_cases h1 : (4 : Int) < (l.length : Int)
  case' pos =>
    go_wp2
    go_ret
    exact ⟨rfl, fin.out _ B1.out⟩
  by_cases h2 : (500 : Int) < (a.length : Int)
  case' pos =>
    go_wp2
    go_ret
    exact ⟨rfl, fin.out _ B1.out⟩
  by_cases h3 : (500 : Int) < (b.length : Int)
  case' pos =>
    go_wp2
    go_ret
    exact ⟨rfl, fin.out _ B1.out⟩
  by_cases h4 : (80 : Int) < (f.keep.length : Int)
  case' pos =>
    go_wp2
    go_ret
    exact ⟨rfl, fin.out _ B1.out⟩
  go_wp2_with fail
  refine (devB_new B1.out 400).mono ?_
  rintro e w2 ⟨g, rfl, hd2⟩
  have D2 := Lib.hid hd2
  clear hd2 x0 x1 x2 xl h4
  go_wp2_with fail
  refine (devB_format D2.out (by show ([] : List Wr).length ≤ _; decide)).mono ?_
  rintro e w3 ⟨rfl, hd3⟩
  have D3 := Lib.hid hd3
  clear hd3 D2
  obtain ⟨c1, c2, c3, c4⟩ := new_calm 400
  obtain ⟨f1, f2, f3⟩ := format_ok c1 c2 c3 (by rw [c4]; decide)
  rw [f1]
  have hopen := formed_open f2 (by rw [f3, c4]; decide)
  rw [f3, c4, show (min (max (400 : Int) 0) 65536).toNat = 400 from rfl, one_new] at hopen
  obtain ⟨S, m1, m2, m3, m4⟩ := base_commit f2 (by rw [f3, c4]; rfl) HAB.out (by omega : a.length ≤ 500)
  have F0 := Lib.hid f2.cache
  generalize (formatR (Dv.new 400)).2 = D at *
  clear c1 c2 c3 c4 f1 f2 f3
  go_wp2_with fail
  refine (devB_open D3.out hopen).mono ?_
  rintro e w4 ⟨p, A4, c4, rfl, -, -, hp4, -⟩
  have P4 := Lib.hid hp4
  clear hp4 hopen D3
  have M2 := Lib.hid m2
  have M3 := Lib.hid m3
  clear m2 m3
  go_wp2_with fail
  refine (pgB_commit P4.out Aa ca a.length a rfl hca (by omega) HAB.out HAR.out (by rw [F0.out]; decide) (by decide)).mono ?_
  rintro e w5 ⟨rfl, hp5⟩
  rw [m4] at hp5
  rw [m1]
  have P5 := Lib.hid hp5.nil
  generalize (commitR D ⟨sup1, one 1, [], [], false⟩ a).2.1 = D5 at *
  obtain ⟨K5, hK5⟩ : ∃ K5, D5.kept = K5 := ⟨_, rfl⟩
  rw [hK5] at M2
  have hrun := base_start (S := S) (k := 1 + needP a.length) M3.out arm
  rw [hK5] at hrun
  have RN := Lib.hid hrun
  have hC5 : Hid ((D5.arm arm).cache.length ≤ 0) := by show (D5.cache).length ≤ 0; rw [M3.out.cache]; exact Nat.le_refl _
  obtain ⟨k0, hk0⟩ : ∃ k0, 1 + needP a.length = k0 := ⟨_, rfl⟩
  have hn5 := need500 (b := a) (by omega)
  have hk0b : 2 ≤ k0 ∧ k0 ≤ 6 := by omega
  have HKE := Lib.hid hk0
  rw [hk0] at RN P5
  clear hp5 m1 m4 hrun hn5 P4 F0 D hk0 hK5 M3
  go_wp2_with fail
  refine (pgL_dev P5.out (Q := fun e => e = .returned (.tuple #[])) (D' := D5.arm arm) (fun F hd => arm_calls hd arm harm)).mono ?_
  rintro e w6 ⟨rfl, hp6⟩
  have P6 := Lib.hid hp6
  clear hp6 P5
  generalize D5.arm arm = D6 at *
  obtain ⟨xs, hxs⟩ : ∃ xs, l.map Tx.b = xs := ⟨_, rfl⟩
  have HXS := Lib.hid hxs
  have hxl : xs.length = l.length := by rw [← hxs]; exact List.length_map ..
  clear hxs
  have t1 : Hid ((Value.agg #[.int .i64 0, .int .i64 0]).cells.size = 2) := rfl
  go_wp2
  go_loopg [15, 72] l.length (fun m s15 i wr => ∃ (k : Nat) (D : Dv) (P : Pg) (v : Value) (sp : List Span), v = s15 ∧ i = .int .i64 k ∧ k + m = l.length ∧ Hid (PgL W0 wr p g D P v sp) ∧ Hid (Run k0 K5 S D P (xs.take k)) ∧ Hid (Shorts (xs.take k)) ∧ Hid (sp.length = k) ∧ Hid (P.ended = false → sp = spansOf k0 (xs.take k)) ∧ Hid (D.cache.length ≤ 20 * k) ∧ Hid (P.put.length ≤ k))
  case atStart => exact ⟨0, D6, _, _, [], rfl, rfl, by omega, P6.out, RN.out, (fun x hx => by cases hx), rfl, fun _ => rfl, hC5.out, Nat.le_refl _⟩
  case round =>
    clear P6 RN hC5 D6
    obtain ⟨k, D, P, v, sp, rfl, rfl, hk, hP, hC, hS, hsl, hsp, hcl, hpl⟩ := hrel
    have hcl' := hcl.out
    have hpl' := hpl.out
    have hsl' := hsl.out
    have hend := (endOf_bound _ k0 hS.out).2
    rw [List.length_take] at hend
    by_cases hkn : k < l.length
    · obtain ⟨m', hm'⟩ : ∃ m', gk = m' + 1 := ⟨gk - 1, by omega⟩
      subst hm'
      have hki : (k : Int) < (l.length : Int) := by omega
      have hkz : (0 : Int) ≤ (k : Int) := by omega
      rcases HR.out with h0 | ⟨bb, off, rfl, hlt, hcell⟩
      · rw [h0] at hkn; simp at hkn
      have hxk : l[k]? = some l[k] := List.getElem?_eq_getElem hkn
      have z0 := ((HR.out.below hP.out.bl (Nat.le_refl _)).range hxk) 0 _ rfl
      have hgx := HG.out l[k] (List.getElem_mem hkn)
      have htk : Hid (xs.take (k + 1) = xs.take k ++ [(l[k]).b]) := by show _ = _; rw [← HXS.out]; exact map_take hkn
      have hbl : bb < wr.heap.size := Nat.lt_of_lt_of_le hlt hP.out.bl.size
      generalize l[k] = x at *
      have e1 : off + k * 1 + 0 = off + k := by omega
      rw [e1] at z0
      obtain ⟨xA, xb, xc⟩ := x
      have hg1 : xb.length ≤ xc := hgx.1
      have hg2 := Lib.hid (show byteL xb from hgx.2.1)
      have hg3 := Lib.hid (show Rd by1 1 W0 xA xb from hgx.2.2)
      dsimp only at z0 htk
      clear hgx hxk hcell hlt
      by_cases h5 : (500 : Int) < (xb.length : Int)
      · have BL := Lib.hid hP.out.bl
        go_wp2
        go_ret
        exact ⟨rfl, fin.out _ BL.out⟩
      obtain ⟨r1, r2, -⟩ := put_run hC.out (by omega) hS.out (by omega) hg2.out (by omega : xb.length ≤ 500)
      obtain ⟨q1, q2, -⟩ := put_small (D := D) (P := P) (b := xb) (by omega)
      have R1 := Lib.hid r1
      have R2 := Lib.hid r2
      have S1 : Hid (Shorts (xs.take (k + 1))) := by
        show Shorts _
        rw [htk.out]
        intro y hy
        rcases List.mem_append.1 hy with hy | hy
        · exact hS.out y hy
        · simp only [List.mem_singleton] at hy; subst hy; exact ⟨by omega, hg2.out⟩
      rw [← htk.out] at R1
      clear r1 r2
      go_wp2_with fail
      refine (pgL_put hP.out xA xc xb.length xb rfl hg1 (by omega) hg2.out hg3.out (by omega) (by omega)).mono ?_
      rintro e w6 ⟨rfl, hp6⟩
      have P6 := Lib.hid hp6
      clear hp6 hP hC hcl hpl hsl
      generalize putR D P xb = R at *
      obtain ⟨⟨⟨st, pgs⟩, er⟩, D6, P6'⟩ := R
      simp only at R1 R2 P6 q1 q2 ⊢
      have Q1 : Hid (D6.cache.length ≤ 20 * (k + 1)) := by show _ ≤ _; omega
      have Q2 : Hid (P6'.put.length ≤ k + 1) := by show _ ≤ _; omega
      have hp7 := P6.out.alloc (.cells #[.int .i64 st, .int .i64 pgs] 33)
      obtain ⟨W7, hW7⟩ : ∃ W, w6.alloc (.cells #[.int .i64 st, .int .i64 pgs] 33) = W := ⟨_, rfl⟩
      have ht7 : W7.heap[w6.heap.size]? = some (.cells #[.int .i64 st, .int .i64 pgs] 33 (0, 0)) := by rw [← hW7]; exact blk_new w6 _
      rw [hW7] at hp7
      have y0 := blk_cell ht7 0
      have y1 := blk_cell ht7 1
      have yl := blk_lt ht7
      have P8 := Lib.hid (hp7.alloc (.cells #[.int .i64 st, .int .i64 pgs] 33))
      have HO8 := Lib.hid P8.out.own
      have hz8 := Lib.hid P8.out.bl.size
      have l1 : Hid ((sp.length + 1) * 16 ≤ 140737488355328) := by show _ ≤ _; omega
      have l2 : Hid (sp.length + 1 ≤ 140737488355328) := by show _ ≤ _; omega
      have nn : Hid ([(⟨st, pgs⟩ : Span)] ≠ []) := by show _ ≠ _; simp
      have HS8 : Hid (P6'.ended = false → sp ++ [⟨st, pgs⟩] = spansOf k0 (xs.take (k + 1))) := fun he => by
        obtain ⟨e1, e2⟩ := R2.out he
        rw [htk.out, spansOf_app, ← hsp.out e2, e1]
      have HL8 : Hid ((sp ++ [(⟨st, pgs⟩ : Span)]).length = k + 1) := by show _ = _; rw [List.length_append, hsl']; rfl
      clear hp7 ht7 P6 q1 q2 hsp htk hcl' hpl' hsl' z0
      go_wp2_with (at_builtin; refine at_list rfl (fun K hK => op_ownN Span.ok _ _ _ _ _ _ rfl Try.underlying46 infoSpan t1.out W0.heap.size _ sp (some ⟨W7.heap.size, 0, none⟩) 1 [⟨st, pgs⟩] 1 rfl nn.out rfl rfl HO8.out (Rd.lit (blk_new W7 _) rfl) hz8.out l1.out l2.out (fun g7 cap w7 ho7 hg7 hat7 hlt7 => hK _ _ ?_)); have P9 := Lib.hid (P8.out.push hg7 ho7 (fun k e => by cases e; exact hat7)); clear ho7 hg7 hat7 hlt7)
      go_roundg m'
      case measure => omega
      case rel => exact ⟨k + 1, D6, P6', _, sp ++ [(⟨st, pgs⟩ : Span)], rfl, by go_num, by omega, P9.out, R1.out, S1.out, HL8.out, HS8.out, Q1.out, Q2.out⟩
    · have hkk : ¬ (k : Int) < (l.length : Int) := by omega
      have htk : xs.take k = xs := List.take_of_length_le (by omega)
      rw [htk] at hC hS hsp
      obtain ⟨A7, c7, rfl, hc7, hm7, -, -⟩ := hP.out.own.rd Span.ok
      have hc7' : l.length ≤ c7 := by omega
      rw [hsl'] at hP ⊢
      have hk' : k = l.length := by omega
      subst hk'
      have hep2 : P.s.epoch = 2 := by rw [hC.out.s, M2.out.s]
      have hcr := crash_law (f := f) M2.out (by rw [HKE.out]; exact hC.out) hS.out (by omega) HBB.out (by omega : b.length ≤ 500)
      rw [HKE.out] at hcr
      have HCR := Lib.hid hcr.2
      clear hcr
      go_wp2_with fail
      refine (pgL_commit hP.out Ab cb b.length b rfl hcb (by omega) HBB.out HBR.out (by omega) (by rw [hep2]; decide)).mono ?_
      rintro e w7 ⟨rfl, hp7⟩
      have P7 := Lib.hid hp7
      clear hp7 hP hC hcl hpl
      generalize commitR D P b = R at *
      obtain ⟨done, D7, P7'⟩ := R
      simp only at HCR P7 ⊢
      obtain ⟨x0, x1, x2, xl⟩ := zc.out w7 P7.out.bl
      go_wp2_with fail
      refine (pgL_dev P7.out (Q := fun e => e = .returned (.tuple #[])) (D' := D7.crash f) (fun F hd => crash_calls hd f K ck (HK.out.below P7.out.bl (Nat.le_refl _)))).mono ?_
      rintro e w8 ⟨rfl, hp8⟩
      have P8 := Lib.hid hp8
      clear hp8 P7 x0 x1 x2 xl
      generalize D7.crash f = D8 at *
      rcases HCR.out with ⟨g1, g2⟩ | ⟨g0, g1, g2⟩
      · go_wp2_with fail
        refine (pgL_open P8.out g2).mono ?_
        rintro e w9 ⟨p9, A9, c9, rfl, hc9, hr9, hp9⟩
        have P9 := Lib.hid hp9
        have hse : S.epoch = 2 := by rw [M2.out.s]
        clear hp9 P8
        go_wp2_with fail
        refine (pgB_epoch P9.out.pgB).mono ?_
        rintro e w10 ⟨rfl, rfl⟩
        rw [show (⟨S, ((Fr.new 1 100).claim S.span).2, [], [], false⟩ : Pg).s.epoch = 2 from hse]
        have cv1 := run_strB a.length c9 rfl hr9
        have cv2 := run_strB a.length ca rfl (HAR.out.below P9.out.bl (Nat.le_refl _))
        have hdb : (done != 0) = true := by simpa using g1
        have BL := Lib.hid P9.out.bl
        clear hr9 g2 hse
        go_wp2
        go_ret
        exact ⟨rfl, fin.out _ BL.out⟩
      · have hsp2 := Lib.hid (hsp.out g0)
        have G2 := Lib.hid g2
        clear g2 hsp g0
        go_wp2_with fail
        refine (pgL_open P8.out g1).mono ?_
        rintro e w9 ⟨p9, A9, c9, rfl, hc9, hr9, hp9⟩
        have P9 := Lib.hid hp9
        clear hp9 P8
        have cv1 := run_strB b.length c9 rfl hr9
        have cv2 := run_strB b.length cb rfl (HBR.out.below P9.out.bl (Nat.le_refl _))
        clear hr9 g1
        obtain ⟨hq, hqe⟩ : ∃ Q : Pg, (⟨⟨3, endOf k0 xs, needP b.length, b.length⟩, ((Fr.new 1 100).claim ⟨endOf k0 xs, needP b.length⟩).2, [], [], false⟩ : Pg) = Q := ⟨_, rfl⟩
        have q1 : hq.s.epoch = 3 := by rw [← hqe]
        have q2 : hq.ended = false := by rw [← hqe]
        have hnb := need500 (b := b) (by omega)
        have heb := endOf_bound xs k0 hS.out
        have q3 : Hid (Left hq.fr k0 (endOf k0 xs)) := by
          show Left _ _ _
          rw [← hqe]
          exact left_new (by omega) (by omega) (by omega) (by omega)
        rw [hqe] at P9
        go_wp2_with fail
        refine (pgB_epoch P9.out.pgB).mono ?_
        rintro e w10 ⟨rfl, rfl⟩
        rw [q1]
        go_wp2_with fail
        refine (pgB_epoch P9.out.pgB).mono ?_
        rintro e w10 ⟨rfl, rfl⟩
        rw [q1]
        have q2' := Lib.hid q2
        clear hqe q1 q2
        go_wp2
        go_loopg [128] l.length (fun m i wr => ∃ (k : Nat) (Q : Pg), i = .int .i64 k ∧ k + m = l.length ∧ Hid (PgL W0 wr p9 g D8 Q (.slice A7 l.length c7) sp) ∧ Hid (Q.ended = false) ∧ Hid (Left Q.fr (endOf k0 (xs.take k)) (endOf k0 xs)))
        case atStart => exact ⟨0, hq, rfl, by omega, P9.out, q2'.out, q3.out⟩
        case round =>
          clear cv1 cv2 P9 q3 q2' hq
          obtain ⟨k, Q, rfl, hk, hP, hQe, hQl⟩ := hrel
          by_cases hkn : k < l.length
          · obtain ⟨m', hm'⟩ : ∃ m', gk = m' + 1 := ⟨gk - 1, by omega⟩
            subst hm'
            have hki : (k : Int) < (l.length : Int) := by omega
            have hkz : (0 : Int) ≤ (k : Int) := by omega
            rcases HR.out with h0 | ⟨bb, off, rfl, hlt, hcell⟩
            · rw [h0] at hkn; simp at hkn
            have hxk : l[k]? = some l[k] := List.getElem?_eq_getElem hkn
            have z0 := ((HR.out.below hP.out.bl (Nat.le_refl _)).range hxk) 0 _ rfl
            have hgx := HG.out l[k] (List.getElem_mem hkn)
            have hxx : xs[k]? = some (l[k]).b := by rw [← HXS.out, List.getElem?_map, hxk]; rfl
            have hbl : bb < wr.heap.size := Nat.lt_of_lt_of_le hlt hP.out.bl.size
            generalize l[k] = x at *
            have e1 : off + k * 1 + 0 = off + k := by omega
            rw [e1] at z0
            obtain ⟨xA, xb, xc⟩ := x
            have hg1 : xb.length ≤ xc := hgx.1
            have hg3 := Lib.hid (show Rd by1 1 W0 xA xb from hgx.2.2)
            dsimp only at z0 hxx
            obtain ⟨u1, u2⟩ := endOf_take (k0 := k0) xs k xb hxx
            have hx5 := hS.out xb (List.mem_of_getElem? hxx)
            have hnx := need500 hx5.1
            have hle := endOf_le (k0 := k0) hS.out (k + 1)
            have hlb := (endOf_bound (xs.take k) k0 (shorts_take hS.out k)).1
            have htx := Lib.hid (G2.out k xb _ hxx u2)
            obtain ⟨v1, v2⟩ := left_claim hQl.out (n := needP xb.length) (by omega) hnx.2.1 (by omega) (by omega)
            rw [← u1] at v2
            have V2 := Lib.hid v2
            have hst5 : endOf k0 (xs.take k) ≤ 1000 := by omega
            -- the span
            have hsk : sp[k]? = some ⟨endOf k0 (xs.take k), needP xb.length⟩ := by rw [hsp2.out]; exact u2
            obtain ⟨-, -, -, hrs, -⟩ := hP.out.own.rd' Span.ok
            rcases hrs with h0 | ⟨b7, o7, rfl, hlt7, hcell7⟩
            · rw [h0] at hsk; simp at hsk
            have s0 := hcell7 k _ hsk 0 _ rfl
            have s1 := hcell7 k _ hsk 1 _ rfl
            have e2 : o7 + k * 2 + 0 = o7 + k * 2 := rfl
            rw [e2] at s0
            have hgt : getR D8 Q ⟨endOf k0 (xs.take k), needP xb.length⟩ xb.length = (xb, 0) := by
              unfold getR
              rw [if_neg (by rw [hQe.out]; simp), if_neg (by rintro (q | q); exact hnx.1 q; exact q rfl)]
              exact readT_has hnx.1 htx.out
            have HGT := Lib.hid hgt
            generalize endOf k0 (xs.take k) = st at *
            generalize needP xb.length = pn at *
            dsimp only at s0 s1
            clear hgx hxk hcell hlt v2 hcell7 hgt u1 u2 hxx hsk
            go_wp2_with fail
            refine (pgB_get hP.out.pgB ⟨st, pn⟩ xb.length (by dsimp only; omega) (by dsimp only; omega) (by omega) (by omega)).mono ?_
            rintro e w11 ⟨A11, c11, rfl, hc11, hr11, -, hb11⟩
            rw [HGT.out] at hc11 hr11 ⊢
            have P11 := Lib.hid (hP.out.below hb11)
            have hlt11 := hb11.size
            have s0' := (hb11.cell hlt7).trans s0
            have s1' := (hb11.cell hlt7).trans s1
            have hlt8 : b7 < w11.heap.size := by omega
            have cv1 := run_strB xb.length c11 rfl hr11
            have cv2 := run_strB xb.length xc rfl (hg3.out.below P11.out.bl (Nat.le_refl _))
            dsimp only
            clear hb11 hP s0 s1 hlt7 z0 hlt11
            go_wp2_with fail
            refine (pgL_claim P11.out ⟨st, pn⟩ hQe.out).mono ?_
            rintro e w12 ⟨rfl, hp12⟩
            rw [v1]
            have P12 := Lib.hid hp12
            clear hp12 v1 cv1 cv2 s0' s1' hlt8
            go_wp2
            go_roundg m'
            case measure => omega
            case rel => exact ⟨k + 1, _, by go_num, by omega, P12.out, hQe.out, V2.out⟩
          · have hkk2 : ¬ (k : Int) < (l.length : Int) := by omega
            have BL := Lib.hid hP.out.bl
            clear hkn
            go_wp2
            go_ret
            exact ⟨rfl, by first | exact fin.out _ BL.out | (rw [← hz]; exact fin.out _ BL.out)⟩
theorem pagerKeeps_row (w : World) (v0 v1 v2 v3 v4 : Value) (l : List Tx) (a b : List Int) (n : Int) (f : Fate) (h0 : Texts w v0 l) (h1 : Bytes w v1 a) (h2 : Bytes w v2 b) (h3 : IntV v3 n) (h4 : FateV w v4 f) :
    Calls Try.prog 4 #[v0, v1, v2, v3, v4] w fun e w' => e = .returned (.bool true) ∧ Below w.heap.size w w' := by
  obtain ⟨A, c, rfl, hc, hcb, hr, hg⟩ := h0
  obtain ⟨Aa, ca, rfl, hca, hab, har⟩ := h1
  obtain ⟨Ab, cb, rfl, hcb2, hbb, hbr⟩ := h2
  obtain ⟨rfl, hn⟩ := h3
  obtain ⟨K, ck, rfl, hk, hK⟩ := h4
  exact pagerKeeps_calls w A c l hc hr hg Aa ca a hca hab har Ab cb b hcb2 hbb hbr n hn.2 f K ck hK
end Go.Proofs.Ytikgplhcadomcaa
