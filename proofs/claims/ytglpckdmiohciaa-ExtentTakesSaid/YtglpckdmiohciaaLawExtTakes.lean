/- law06.ExtentTakes -/
import Derived.Test.YtglpckdmiohciaaExtE
import Derived.Test.YtglpckdmiohciaaOpenExt
namespace Go.Proofs.Ytglpckdmiohciaa
open Go.RowKit
set_option linter.unusedVariables false
set_option linter.unusedSimpArgs false

set_option maxRecDepth 100000 in
set_option maxHeartbeats 16000000 in
theorem extentTakes_calls (w : World) (from_ n : Int) (A : Option Addr) (c : Nat) (l : List Int) (hf : -9223372036854775808 ≤ from_ ∧ from_ ≤ 9223372036854775807) (hn : -9223372036854775808 ≤ n ∧ n ≤ 9223372036854775807) (hr : Rd intEnc 1 w A l) (hlc : l.length ≤ c) (hbig : c ≤ 9223372036854775807) :
    Calls Try.prog 12 #[.int .i64 from_, .int .i64 n, .slice A l.length c] w fun e w' => e = .returned (.bool true) ∧ Below w.heap.size w w' := by
  have HR := Lib.hid hr
  clear hr
  go_enter Try.func12, Try.ntmps12
  go_wp2_with fail
  refine (awake06_calls w).mono ?_
  rintro e w2 ⟨rfl, hb2⟩
  have HB2 := Lib.hid hb2
  clear hb2
  rcases (Decidable.em ((100 : Int) < n)) with hn1 | hn1
  case' inl =>
    go_wp2
    go_ret
    exact ⟨rfl, HB2.out⟩
  rcases (Decidable.em ((20 : Int) < (l.length : Int))) with hl1 | hl1
  case' inl =>
    go_wp2
    go_ret
    exact ⟨rfl, HB2.out⟩
  go_wp2_with fail
  refine (frB_new HB2.out from_ n hf hn).mono ?_
  rintro e w3 ⟨g, rfl, h3⟩
  have H3 := Lib.hid h3
  clear h3
  go_wp2_with fail
  refine (frB_rows H3.out).mono ?_
  rintro e w4 ⟨v4, rfl, o4, b4⟩
  obtain ⟨A4, c4, rfl, hc4, hm4, hT⟩ := TakS.begin H3.out b4 o4
  have HT4 := Lib.hid hT
  have hk0 := Lib.hid H3.out.okD
  have HP4 := Lib.hid (takP_begin (Fr.new from_ n))
  generalize Fr.new from_ n = D0 at *
  clear hT o4 b4 H3
  go_wp2
  go_loopg [9, 35] l.length (fun m s9 i wr => ∃ (k : Nat) (v : Value) (W : World) (D : Fr) (tk : List Span), i = .int .i64 k ∧ v = s9 ∧ W = wr ∧ k + m = l.length ∧ Hid (TakS w W g D A4 D0.l v tk) ∧ Hid (TakP D0 D tk) ∧ Hid (tk.length ≤ k))
  case atStart => exact ⟨0, _, _, _, _, rfl, rfl, rfl, by omega, HT4.out, HP4.out, Nat.le_refl _⟩
  case round =>
    obtain ⟨k, v9, wo, D, tk, rfl, rfl, rfl, hk, hT, hP, hlen⟩ := hrel
    have hkD := Lib.hid hT.out.okD
    rcases Nat.lt_or_ge k l.length with hlt | hge
    · have hx : l[k]? = some l[k] := List.getElem?_eq_getElem hlt
      have hrw := HR.out.below hT.out.bl (Nat.le_refl _)
      obtain ⟨b, off, rfl⟩ : ∃ b off, A = some ⟨b, off, none⟩ := by
        rcases hrw with h0 | ⟨b, off, e, _⟩
        · simp [h0] at hlt
        · exact ⟨b, off, e⟩
      have c0 : wo.cell? ⟨b, off + k * 1, none⟩ = some (.int .i64 l[k]) := hrw.range hx 0 _ rfl
      rw [Nat.mul_one] at c0
      have i0 : (0 : Int) ≤ (k : Int) := by omega
      have i1 : (k : Int) < (l.length : Int) := by omega
      generalize l[k] = x at *
      clear hx hrw
      go_wp2_with fail
      refine (takS_take hT.out x).mono ?_
      rintro e w5 ⟨rfl, h5⟩
      have H5 := Lib.hid h5
      clear h5
      rcases hy : (D.take x).1.2 with _ | _
      · have hno := Lib.hid (Fr.take_no hkD.out (by rw [hy]; simp))
        have hz := hno.out.1
        have H5' : Hid (TakS w w5 g D A4 D0.l v9 tk) := by have := H5.out; rw [hz] at this; exact this
        rcases (Decidable.em (x < 1)) with hx1 | hx1
        · have d1 : decide (1 ≤ x) = false := by simp; omega
          clear hz
          go_wp2
          go_roundg (gk - 1)
          case measure => omega
          case rel => exact ⟨k + 1, _, _, D, tk, by go_num, rfl, rfl, by omega, H5'.out, hP.out, Nat.le_succ_of_le hlen.out⟩
        · have hmx := take_no_max hkD.out (n := x) (by rw [hy]; simp) (by omega)
          have hx2 : (1 : Int) ≤ x := by omega
          clear hz
          go_wp2_with fail
          refine (frB_largest H5'.out.frB).mono ?_
          rintro e w6 ⟨rfl, b6⟩
          have H6 := Lib.hid (H5'.out.below b6)
          have d2 : decide (x ≤ maxL D.l) = false := by simp; omega
          clear b6
          go_wp2
          go_roundg (gk - 1)
          case measure => omega
          case rel => exact ⟨k + 1, _, _, D, tk, by go_num, rfl, rfl, by omega, H6.out, hP.out, Nat.le_succ_of_le hlen.out⟩
      · obtain ⟨q1, q2, q3⟩ := hP.out.take hkD.out hy
        have Q1 := Lib.hid q1
        have Q2 := Lib.hid q2
        have q4 := there_num hk0.out q3
        dsimp only at q4
        clear q1 q2 q3
        generalize (D.take x).1.1 = a at *
        generalize (D.take x).2 = D1 at *
        obtain ⟨a1, a2, a3⟩ := q4
        obtain ⟨A9, c9, rfl, hc9, hm9, hr9, _⟩ := H5.out.own.rd Span.ok
        have hsz : Hid (tk.length ≤ 1000) := by have := hlen.out; show _ ≤ _; omega
        clear hr9
        have HS5 : Hid (TakS w (w5.alloc (.cells #[.int .i64 a, .int .i64 x] 90)) g D1 A4 D0.l (.slice A9 tk.length c9) tk) := H5.out.below (bl_alloc (Below.refl _ w5) _)
        have HX5 : Hid ((w5.alloc (.cells #[.int .i64 a, .int .i64 x] 90)).heap[w5.heap.size]? = some (.cells (⟨a, x⟩ : Span).cells 90 (0, 0))) := blk_new w5 _
        obtain ⟨G, hG⟩ : ∃ G, G = gk := ⟨_, rfl⟩
        go_wp2
        go_loopg [60] tk.length (fun mm i wr => ∃ (j : Nat) (W : World), i = .int .i64 j ∧ W = wr ∧ j + mm = tk.length ∧ Hid (TakS w W g D1 A4 D0.l (.slice A9 tk.length c9) tk) ∧ Hid (W.heap[w5.heap.size]? = some (.cells (⟨a, x⟩ : Span).cells 90 (0, 0))))
        case atStart => exact ⟨0, _, rfl, rfl, by omega, HS5.out, HX5.out⟩
        case round =>
          obtain ⟨j, wi, rfl, rfl, hj, hTi, hXi⟩ := hrel
          obtain ⟨e0, e1⟩ := span_at hXi.out
          dsimp only at e0 e1
          rcases Nat.lt_or_ge j tk.length with hjl | hjg
          · have hx : tk[j]? = some tk[j] := List.getElem?_eq_getElem hjl
            have htm : tk[j] ∈ tk := List.getElem_mem hjl
            have hrt := (hTi.out.own.rd' Span.ok).2.2.2.1
            obtain ⟨b9, off9, rfl⟩ : ∃ b off, A9 = some ⟨b, off, none⟩ := by
              rcases hrt with h0 | ⟨b, off, e, _⟩
              · simp [h0] at hjl
              · exact ⟨b, off, e⟩
            obtain ⟨f0, f1⟩ := Rd.span hrt hx
            have hq := Q2.out _ htm
            obtain ⟨t1, t2, t3⟩ := there_num hk0.out (hP.out.all _ htm).1
            generalize tk[j] = t at *
            have hap : ¬ (a < t.start + t.pages ∧ t.start < a + x) := fun ⟨p1, p2⟩ => hq (max a t.start) ⟨by omega, by omega⟩ ⟨by show a ≤ _; omega, by show _ < a + x; omega⟩
            have i2 : (0 : Int) ≤ (j : Int) := by omega
            have i3 : (j : Int) < (tk.length : Int) := by omega
            have HTi2 : Hid (TakS w (wi.alloc (.cells #[.int .i64 t.start, .int .i64 t.pages] 90)) g D1 A4 D0.l (.slice (some ⟨b9, off9, none⟩) tk.length c9) tk) := hTi.out.below (bl_alloc (Below.refl _ wi) _)
            have HXi2 : Hid ((wi.alloc (.cells #[.int .i64 t.start, .int .i64 t.pages] 90)).heap[w5.heap.size]? = some (.cells (⟨a, x⟩ : Span).cells 90 (0, 0))) := blk_alloc hXi.out _
            have z5 : w5.heap.size < wi.heap.size := blk_lt hXi.out
            have HP1 := Lib.hid hap
            clear hx htm hrt hq hap
            rcases (Decidable.em (a < t.start + t.pages)) with g1 | g1
            · have g2 : decide (t.start < a + x) = false := by
                have := HP1.out
                simp only [decide_eq_false_iff_not]
                exact fun q => this ⟨g1, q⟩
              go_wp2
              go_roundg (gk - 1)
              case measure => omega
              case rel => exact ⟨j + 1, _, by go_num, rfl, by omega, HTi2.out, HXi2.out⟩
            · have g2 : decide (a < t.start + t.pages) = false := by simp only [decide_eq_false_iff_not]; exact g1
              go_wp2
              go_roundg (gk - 1)
              case measure => omega
              case rel => exact ⟨j + 1, _, by go_num, rfl, by omega, HTi2.out, HXi2.out⟩
          · have nn : Hid ([(⟨a, x⟩ : Span)] ≠ []) := by show _ ≠ _; simp
            have t1 : Hid ((Value.agg #[.int .i64 0, .int .i64 0]).cells.size = 2) := rfl
            have q1 : Hid (tk.length + 1 ≤ 140737488355328) := by have := hsz.out; show _ ≤ _; omega
            have q2 : Hid ((tk.length + 1) * 16 ≤ 140737488355328) := by have := hsz.out; show _ ≤ _; omega
            have HTi2 : Hid (TakS w (wi.alloc (.cells #[.int .i64 a, .int .i64 x] 90)) g D1 A4 D0.l (.slice A9 tk.length c9) tk) := hTi.out.below (bl_alloc (Below.refl _ wi) _)
            go_wp2_with (at_builtin; refine at_list rfl (fun K hK => op_ownN Span.ok _ _ _ _ _ _ rfl Try.underlying85 infoSpan t1.out w.heap.size (.slice A9 tk.length c9) tk (some ⟨wi.heap.size, 0, none⟩) 1 [⟨a, x⟩] 1 rfl nn.out rfl rfl HTi2.out.own (Rd.lit (blk_new wi _) rfl) HTi2.out.bl.size q2.out q1.out (fun g7 cap w7 ho7 hg7 hat7 hlt7 => hK _ _ ?_)))
            have HT7 := Lib.hid (HTi2.out.snoc ho7 hg7 (fun k e => by cases e; exact hat7))
            clear ho7 hg7 hat7
            go_wp2
            go_roundg (G - 1)
            case measure => omega
            case rel => exact ⟨k + 1, _, _, D1, tk ++ [(⟨a, x⟩ : Span)], by go_num, rfl, rfl, by omega, HT7.out, Q1.out, by have := hlen.out; show _ ≤ _; simp; omega⟩
    · obtain ⟨A9, c9, rfl, hc9, hm9, hr9, _⟩ := hT.out.own.rd Span.ok
      have hsz : Hid (tk.length ≤ 1000) := by have := hlen.out; show _ ≤ _; omega
      have hdk : decide (k < l.length) = false := by simp; omega
      clear hr9
      go_wp2
      go_loopg [90] tk.length (fun mm i wr => ∃ (j : Nat) (W : World) (E : Fr), i = .int .i64 j ∧ W = wr ∧ j + mm = tk.length ∧ Hid (TakS w W g E A4 D0.l (.slice A9 tk.length c9) tk) ∧ Hid (TakP D0 E (tk.drop j)))
      case atStart => exact ⟨0, _, D, rfl, rfl, by omega, hT.out, hP.out⟩
      case round =>
        obtain ⟨j, wi, E, rfl, rfl, hj, hTi, hPi⟩ := hrel
        have hkE := Lib.hid hTi.out.okD
        rcases Nat.lt_or_ge j tk.length with hjl | hjg
        · have hx : tk[j]? = some tk[j] := List.getElem?_eq_getElem hjl
          have hrt := (hTi.out.own.rd' Span.ok).2.2.2.1
          obtain ⟨b9, off9, rfl⟩ : ∃ b off, A9 = some ⟨b, off, none⟩ := by
            rcases hrt with h0 | ⟨b, off, e, _⟩
            · simp [h0] at hjl
            · exact ⟨b, off, e⟩
          obtain ⟨f0, f1⟩ := Rd.span hrt hx
          have hdr : tk.drop j = tk[j] :: tk.drop (j + 1) := List.drop_eq_getElem_cons hjl
          have hP2 := hPi.out
          rw [hdr] at hP2
          have hP2 := Lib.hid hP2
          generalize tk[j] = t at *
          obtain ⟨p1, p2, p3, p4⟩ := hP2.out.give hkE.out
          have P3 := Lib.hid p3
          have P4 := Lib.hid p4
          have i2 : (0 : Int) ≤ (j : Int) := by omega
          have i3 : (j : Int) < (tk.length : Int) := by omega
          have HTi2 : Hid (TakS w (wi.alloc (.cells #[.int .i64 t.start, .int .i64 t.pages] 90)) g E A4 D0.l (.slice (some ⟨b9, off9, none⟩) tk.length c9) tk) := hTi.out.below (bl_alloc (Below.refl _ wi) _)
          have HX : Hid ((wi.alloc (.cells #[.int .i64 t.start, .int .i64 t.pages] 90)).heap[wi.heap.size]? = some (.cells t.cells 90 (0, 0))) := blk_new wi _
          clear hx hrt hdr hP2 p3 p4
          go_wp2_with fail
          refine (frB_has HTi2.out.frB t).mono ?_
          rintro e w6 ⟨rfl, b6⟩
          have hgv := Lib.hid (takS_give2 hTi.out t b6)
          have HX6 := Lib.hid (blk_below b6 HX.out (blk_lt HX.out))
          obtain ⟨e0, e1⟩ := span_at HX6.out
          rw [p1]
          clear b6 HX
          go_wp2_with fail
          refine hgv.out.mono ?_
          rintro e w7 ⟨rfl, h7, hx7⟩
          have H7 := Lib.hid h7
          have HX7 : Hid (w7.heap[wi.heap.size]? = some (.cells t.cells 90 (0, 0))) := hx7.trans HX6.out
          obtain ⟨g0, g1⟩ := span_at HX7.out
          have e8 := P4.out _ rfl H7.out.okD
          rw [p2]
          generalize (E.give t).2 = E2 at *
          clear h7 hx7 e0 e1
          have e9 : (E2.give t).1 = false := by rw [e8]
          have e10 : (E2.give t).2 = E2 := by rw [e8]
          have E10 := Lib.hid e10
          clear e8 e10
          go_wp2_with fail
          refine (takS_give H7.out t).mono ?_
          rintro e w8 ⟨rfl, h8⟩
          rw [e9]
          rw [E10.out] at h8
          have H8 := Lib.hid h8
          clear h8
          go_wp2
          go_roundg (gk - 1)
          case measure => omega
          case rel => exact ⟨j + 1, _, E2, by go_num, rfl, by omega, H8.out, P3.out⟩
        · have hke : tk.drop j = [] := List.drop_eq_nil_of_le hjg
          have hPe := hPi.out
          rw [hke] at hPe
          have heq := Lib.hid (hPe.done hk0.out hkE.out)
          clear hke hPe
          go_wp2_with fail
          refine (frB_rows hTi.out.frB).mono ?_
          rintro e w6 ⟨v6, rfl, o6, b6⟩
          have H6 := Lib.hid (hTi.out.below b6)
          obtain ⟨A6, c6, rfl, hc6, hm6, hr6, _⟩ := o6.rd Span.ok
          have HR6 := Lib.hid hr6
          clear o6 b6 hr6
          go_wp2_with fail
          refine (sameSpans_calls _ A6 A4 c6 c4 E.l D0.l (by omega) (by omega) HR6.out H6.out.rd).mono ?_
          rintro e w7 ⟨rfl, b7⟩
          have hd : decide (E.l = D0.l) = true := by rw [heq.out]; simp
          rw [hd]
          have HB := Lib.hid (bl_then H6.out.bl H6.out.bl.size b7)
          clear b7
          go_wp2
          go_ret
          exact ⟨rfl, HB.out⟩
theorem extentTakes_row (w : World) (v0 v1 v2 : Value) (f n : Int) (l : List Int) (h0 : IntV v0 f) (h1 : IntV v1 n) (h2 : Ints w v2 l) :
    Calls Try.prog 12 #[v0, v1, v2] w fun e w' => e = .returned (.bool true) ∧ Below w.heap.size w w' := by
  obtain ⟨rfl, hf⟩ := h0
  obtain ⟨rfl, hn⟩ := h1
  obtain ⟨A, c, rfl, hc, hb, hr⟩ := h2
  exact extentTakes_calls w f n A c l hf hn hr hc hb
end Go.Proofs.Ytglpckdmiohciaa
