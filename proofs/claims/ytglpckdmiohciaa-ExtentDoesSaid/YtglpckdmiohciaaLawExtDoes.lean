/- law06.ExtentDoes -/
import Derived.Test.YtglpckdmiohciaaExtX
import Derived.Deep.CutBlock
import Derived.Deep.RegionHeld3
namespace Go.Proofs.Ytglpckdmiohciaa
open Go.RowKit
set_option linter.unusedVariables false
set_option linter.unusedSimpArgs false

def edCells (x : EDeed) : Array Value := #[.int .i64 x.kind, .int .i64 x.s.start, .int .i64 x.s.pages]
theorem EDeed.cells {W : World} {b off k : Nat} {l : List EDeed} {x : EDeed} (h : Rd EDeed.enc 3 W (some ⟨b, off, none⟩) l) (hx : l[k]? = some x) : W.cell? ⟨b, off + k * 3, none⟩ = some (.int .i64 x.kind) ∧ W.cell? ⟨b, off + k * 3 + 1, none⟩ = some (.int .i64 x.s.start) ∧ W.cell? ⟨b, off + k * 3 + 2, none⟩ = some (.int .i64 x.s.pages) := by
  have hr := h.range hx
  exact ⟨hr 0 _ rfl, hr 1 _ rfl, hr 2 _ rfl⟩
theorem DoY.deed {w wr : World} {g g2 bx : Nat} {D : Fr} {X : Rf} {x : EDeed} (h : DoY w wr g D g2 X bx (.cells (edCells x) 98 (0, 0))) : wr.cell? ⟨bx, 0, none⟩ = some (.int .i64 x.kind) ∧ wr.cell? ⟨bx, 1, none⟩ = some (.int .i64 x.s.start) ∧ wr.cell? ⟨bx, 2, none⟩ = some (.int .i64 x.s.pages) := by
  have hb := h.blk
  exact ⟨by rw [blk_cell hb]; rfl, by rw [blk_cell hb]; rfl, by rw [blk_cell hb]; rfl⟩
/-- Behind the switch: what was answered is the same. -/
def DoR (w wx : World) (s7 s8 s11 : Value) : Prop := ∃ (g g2 : Nat) (D : Fr) (X : Rf), s7 = .pointer (some ⟨g, 0, none⟩) ∧ s8 = .pointer (some ⟨g2, 0, none⟩) ∧ s11 = .bool true ∧ DoB w wx g D g2 X ∧ Same D X
set_option maxRecDepth 100000 in
set_option maxHeartbeats 16000000 in
theorem extentDoes_calls (w : World) (f n : Int) (A : Option Addr) (c : Nat) (l : List EDeed) (hf : -9223372036854775808 ≤ f ∧ f ≤ 9223372036854775807) (hn : -9223372036854775808 ≤ n ∧ n ≤ 9223372036854775807) (hr : Rd EDeed.enc 3 w A l) (hlc : l.length ≤ c) (hbig : c ≤ 9223372036854775807) :
    Calls Try.prog 13 #[.int .i64 f, .int .i64 n, .slice A l.length c] w fun e w' => e = .returned (.bool true) ∧ Below w.heap.size w w' := by
  have HR := Lib.hid hr
  clear hr
  go_enter Try.func13, Try.ntmps13
  go_wp2_with fail
  refine (awake06_calls w).mono ?_
  rintro e w2 ⟨rfl, hb2⟩
  have HB2 := Lib.hid hb2
  clear hb2
  rcases (Decidable.em ((100 : Int) < n)) with hn1 | hn1
  case' inl =>
    go_wp2
    go_ret
    exact ⟨rfl, HB2.out⟩
  rcases (Decidable.em ((40 : Int) < (l.length : Int))) with hl1 | hl1
  case' inl =>
    go_wp2
    go_ret
    exact ⟨rfl, HB2.out⟩
  go_wp2_with fail
  refine (newFr_calls w2 f n hf hn).mono ?_
  rintro e w3 ⟨g, F, rfl, h3, hF, hb3⟩
  have H3 := Lib.hid h3
  have HF := Lib.hid hF
  have HB3 := Lib.hid hb3
  clear h3 hF hb3
  go_wp2_with fail
  refine (newFree_calls w3 f n hf hn).mono ?_
  rintro e w4 ⟨g2, G, rfl, h4, hG, hb4⟩
  have H0 : Hid (DoB w w4 g (Fr.new f n) g2 (Rf.new f n)) := ⟨F, G, H3.out.below hb4, h4, fun i hi => Nat.le_trans HB2.out.size (HF.out i hi), fun i hi => Nat.le_trans (Nat.le_trans HB2.out.size HB3.out.size) (hG i hi), fun i hi hg => by have := H3.out.lt i hi; have := hG i hg; omega, bl_then (bl_then HB2.out HB2.out.size HB3.out) (bl_then HB2.out HB2.out.size HB3.out).size hb4⟩
  have hS0 := Lib.hid (same_new f n hf)
  clear H3 HF HB3 h4 hG hb4
  generalize Fr.new f n = D0 at *
  generalize Rf.new f n = X0 at *
  go_wp2
  go_loopg [7, 8, 37] l.length (fun m s7 s8 i wr => ∃ (k g g2 : Nat) (W : World) (D : Fr) (X : Rf), s7 = .pointer (some ⟨g, 0, none⟩) ∧ s8 = .pointer (some ⟨g2, 0, none⟩) ∧ i = .int .i64 k ∧ W = wr ∧ k + m = l.length ∧ Hid (DoB w W g D g2 X) ∧ Hid (Same D X))
  case atStart => exact ⟨0, g, g2, _, D0, X0, rfl, rfl, rfl, rfl, by omega, H0.out, hS0.out⟩
  case round =>
    obtain ⟨k, g, g2, wo, D, X, rfl, rfl, rfl, rfl, hk, hB, hS⟩ := hrel
    have hkD := Lib.hid hB.out.okD
    rcases Nat.lt_or_ge k l.length with hlt | hge
    · have hx : l[k]? = some l[k] := List.getElem?_eq_getElem hlt
      have hrw := HR.out.below hB.out.bl (Nat.le_refl _)
      obtain ⟨b, off, rfl⟩ : ∃ b off, A = some ⟨b, off, none⟩ := by
        rcases hrw with h0 | ⟨b, off, e, _⟩
        · simp [h0] at hlt
        · exact ⟨b, off, e⟩
      obtain ⟨c0, c1, c2⟩ := EDeed.cells hrw hx
      generalize l[k] = x at *
      have i0 : (0 : Int) ≤ (k : Int) := by omega
      have i1 : (k : Int) < (l.length : Int) := by omega
      have hput : Hid (DoY w (wo.alloc (.cells #[.int .i64 x.kind, .int .i64 x.s.start, .int .i64 x.s.pages] 98)) g D g2 X wo.heap.size (.cells (edCells x) 98 (0, 0))) := hB.out.box _
      obtain ⟨d0, d1, d2⟩ := hput.out.deed
      clear hx hrw
      generalize hWW : wo.alloc (.cells #[.int .i64 x.kind, .int .i64 x.s.start, .int .i64 x.s.pages] 98) = WW at hput d0 d1 d2
      go_upto_block 2 with fail
      clear hWW c0 c1 c2
      go_cut [7, 8, 11] (fun s7 s8 s11 wx => DoR w wx s7 s8 s11)
      case first =>
        rcases (Decidable.em (x.kind = 0)) with hk0 | hk0
        case' inl =>
          have hkt : (x.kind == 0) = true := by simpa using hk0
          clear hk0
          go_wp2_with fail
          refine (y_take hput.out x.s.pages).mono ?_
          rintro e w6 ⟨rfl, hd6⟩
          have HD6 := Lib.hid hd6
          obtain ⟨k0, k1, k2⟩ := hd6.deed
          clear hd6
          go_wp2_with fail
          refine (y_rtake HD6.out x.s.pages).mono ?_
          rintro e w7 ⟨X7, ⟨r, hr, rfl, rfl⟩, hd7⟩
          obtain ⟨r1, r2⟩ := hS.out.take hkD.out hr
          have HD7 := Lib.hid hd7
          have R2 := Lib.hid r2
          rw [r1]
          clear hd7 hr r1 r2
          generalize (D.take x.s.pages).1 = tb at *
          obtain ⟨ta, tc⟩ := tb
          rcases tc with _ | _
          all_goals
            go_wp2_with fail
            go_meet
            exact ⟨g, g2, _, _, rfl, rfl, by simp, HD7.out.two, R2.out⟩
        have hkb0 : (x.kind == 0) = false := by simpa using hk0
        rcases (Decidable.em (x.kind = 1)) with hk1 | hk1
        case' inl =>
          have hkt : (x.kind == 1) = true := by simpa using hk1
          clear hk1
          have hputd : Hid (DoY w WW.drew g D g2 X wo.heap.size (.cells (edCells x) 98 (0, 0))) := hput.out.below (Below.refl _ WW).drew
          go_wp2_with fail
          go_region_held3 (fun W => W.cell? ⟨wo.heap.size, 1, none⟩ = some (.int .i64 x.s.start) ∧ W.cell? ⟨wo.heap.size, 2, none⟩ = some (.int .i64 x.s.pages))
            (first | exact ⟨d1, d2⟩ | exact ⟨k6.2.1, k6.2.2⟩ | exact ⟨k7.2.1, k7.2.2⟩)
            (first
              | (go_simp; go_at_call 61; refine (y_claim hputd.out x.s).mono ?_; rintro e w6 ⟨rfl, hd6⟩; have HD6 := Lib.hid hd6; have k6 := hd6.deed; clear hd6)
              | (go_simp; go_at_call 62; refine (y_rclaim HD6.out x.s).mono ?_; rintro e w7 ⟨X7, ⟨rfl, rfl⟩, hd7⟩; have HD7 := Lib.hid hd7; have k7 := hd7.deed; clear hd7))
          all_goals
            go_wp2_with fail
            go_meet
            exact ⟨g, g2, _, _, rfl, rfl, by rw [(hS.out.claim hkD.out).1]; simp, HD7.out.two, (hS.out.claim hkD.out).2⟩
        have hkb1 : (x.kind == 1) = false := by simpa using hk1
        rcases (Decidable.em (x.kind = 2)) with hk2 | hk2
        case' inl =>
          have hkt : (x.kind == 2) = true := by simpa using hk2
          clear hk2
          have hputd : Hid (DoY w WW.drew g D g2 X wo.heap.size (.cells (edCells x) 98 (0, 0))) := hput.out.below (Below.refl _ WW).drew
          go_wp2_with fail
          go_region_held3 (fun W => W.cell? ⟨wo.heap.size, 1, none⟩ = some (.int .i64 x.s.start) ∧ W.cell? ⟨wo.heap.size, 2, none⟩ = some (.int .i64 x.s.pages))
            (first | exact ⟨d1, d2⟩ | exact ⟨k6.2.1, k6.2.2⟩ | exact ⟨k7.2.1, k7.2.2⟩)
            (first
              | (go_simp; go_at_call 57; refine (y_give hputd.out x.s).mono ?_; rintro e w6 ⟨rfl, hd6⟩; have HD6 := Lib.hid hd6; have k6 := hd6.deed; clear hd6)
              | (go_simp; go_at_call 63; refine (y_rgive HD6.out x.s).mono ?_; rintro e w7 ⟨X7, ⟨rfl, rfl⟩, hd7⟩; have HD7 := Lib.hid hd7; have k7 := hd7.deed; clear hd7))
          all_goals
            go_wp2_with fail
            go_meet
            exact ⟨g, g2, _, _, rfl, rfl, by rw [(hS.out.give hkD.out).1]; simp, HD7.out.two, (hS.out.give hkD.out).2⟩
        have hkb2 : (x.kind == 2) = false := by simpa using hk2
        rcases (Decidable.em (x.kind = 3)) with hk3 | hk3
        case' inl =>
          have hkt : (x.kind == 3) = true := by simpa using hk3
          clear hk3
          have hputd : Hid (DoY w WW.drew g D g2 X wo.heap.size (.cells (edCells x) 98 (0, 0))) := hput.out.below (Below.refl _ WW).drew
          go_wp2_with fail
          go_region_held3 (fun W => W.cell? ⟨wo.heap.size, 1, none⟩ = some (.int .i64 x.s.start) ∧ W.cell? ⟨wo.heap.size, 2, none⟩ = some (.int .i64 x.s.pages))
            (first | exact ⟨d1, d2⟩ | exact ⟨k6.2.1, k6.2.2⟩ | exact ⟨k7.2.1, k7.2.2⟩)
            (first
              | (go_simp; go_at_call 56; refine (y_has hputd.out x.s).mono ?_; rintro e w6 ⟨rfl, hd6⟩; have HD6 := Lib.hid hd6; have k6 := hd6.deed; clear hd6)
              | (go_simp; go_at_call 64; refine (y_rhas HD6.out x.s).mono ?_; rintro e w7 ⟨rfl, hd7⟩; have HD7 := Lib.hid hd7; have k7 := hd7.deed; clear hd7))
          all_goals
            go_wp2_with fail
            go_meet
            exact ⟨g, g2, _, _, rfl, rfl, by rw [hS.out.has hkD.out]; simp, HD7.out.two, hS.out⟩
        have hkb3 : (x.kind == 3) = false := by simpa using hk3
        go_wp2_with fail
        refine (y_copy hput.out).mono ?_
        rintro e w6 ⟨g', rfl, hd6⟩
        have HD6 := Lib.hid hd6
        clear hd6
        go_wp2_with fail
        refine (y_rcopy HD6.out).mono ?_
        rintro e w7 ⟨g2', rfl, hd7⟩
        have HD7 := Lib.hid hd7
        clear hd7
        go_wp2_with fail
        go_meet
        exact ⟨g', g2', _, _, rfl, rfl, rfl, HD7.out.two, hS.out⟩
      case rest =>
        obtain ⟨g', g2', D', X', rfl, rfl, rfl, hBo, hSo⟩ := hcut
        have HBo := Lib.hid hBo
        have HSo := Lib.hid hSo
        have hkD' := Lib.hid hBo.okD
        have hll' := hBo.okD.len
        obtain ⟨wa, hwa⟩ : ∃ wa : World, wa = wc := ⟨_, rfl⟩
        subst hwa
        obtain ⟨GK, hGK⟩ : ∃ G, G = gk := ⟨_, rfl⟩
        clear hBo hSo hput d0 d1 d2 hB hS hkD
        go_wp2_with fail
        refine (b_rspans HBo.out).mono ?_
        rintro e w6 ⟨xs, v6, rfl, o6, b6, hsp⟩
        obtain rfl := HSo.out.spans hkD'.out hsp
        obtain ⟨A6, c6, rfl, hc6, hm6, hr6, -⟩ := o6.rd Span.ok
        have HR6 := Lib.hid hr6
        have B6 := Lib.hid b6
        clear o6 b6 hsp hr6
        go_wp2
        go_loopg [16, 17, 109] D'.l.length (fun m s16 s17 i wr => ∃ (j : Nat) (W : World), i = .int .i64 j ∧ s16 = .int .i64 (cntW (D'.l.take j)) ∧ s17 = .int .i64 (maxL (D'.l.take j)) ∧ W = wr ∧ j + m = D'.l.length ∧ Hid (Below wa.heap.size wa W) ∧ Hid (Below w6.heap.size w6 W))
        case atStart => exact ⟨0, _, rfl, rfl, rfl, rfl, by omega, B6.out, Below.refl _ _⟩
        case round =>
          obtain ⟨j, wi, rfl, rfl, rfl, rfl, hj, hb, hb6⟩ := hrel
          rcases Nat.lt_or_ge j D'.l.length with hjl | hjg
          · have hx : D'.l[j]? = some D'.l[j] := List.getElem?_eq_getElem hjl
            have hrt := HR6.out.below hb6.out (Nat.le_refl _)
            obtain ⟨b9, off9, rfl⟩ : ∃ b off, A6 = some ⟨b, off, none⟩ := by
              rcases hrt with h0 | ⟨b, off, e, _⟩
              · simp [h0] at hjl
              · exact ⟨b, off, e⟩
            obtain ⟨f0, f1⟩ := Rd.span hrt hx
            have htk : D'.l.take (j + 1) = D'.l.take j ++ [D'.l[j]] := by rw [List.take_add_one, hx]; rfl
            have e1 : Hid (cntW (D'.l.take (j + 1)) = wrap64 (cntW (D'.l.take j) + (D'.l[j]).pages)) := by show _ = _; unfold cntW; rw [htk, List.foldl_append]; rfl
            have e2 : Hid (maxL (D'.l.take (j + 1)) = max (maxL (D'.l.take j)) (D'.l[j]).pages) := by show _ = _; unfold maxL; rw [htk, List.foldl_append]; rfl
            generalize D'.l[j] = t at *
            have mx := run_max_n t.pages (maxL (D'.l.take j))
            generalize cntW (D'.l.take j) = cc at *
            generalize maxL (D'.l.take j) = mm at *
            have i2 : (0 : Int) ≤ (j : Int) := by omega
            have i3 : (j : Int) < (D'.l.length : Int) := by omega
            have hb2 : Hid (Below wa.heap.size wa (wi.alloc (.cells #[.int .i64 t.start, .int .i64 t.pages] 90))) := hb.out.alloc hb.out.size _
            have hb62 : Hid (Below w6.heap.size w6 (wi.alloc (.cells #[.int .i64 t.start, .int .i64 t.pages] 90))) := hb6.out.alloc hb6.out.size _
            clear hx hrt htk
            go_wp2
            go_roundg (gk - 1)
            case measure => omega
            case rel => exact ⟨j + 1, _, by go_num, by rw [e1.out], by rw [e2.out], rfl, by omega, hb2.out, hb62.out⟩
          · have hke : Hid (D'.l.take j = D'.l) := List.take_of_length_le hjg
            rw [hke.out]
            have HBi := Lib.hid (HBo.out.below hb.out)
            have hdj : decide (j < D'.l.length) = false := by simp; omega
            go_wp2_with fail
            refine (frB_rows HBi.out.frB).mono ?_
            rintro e w8 ⟨v8, rfl, o8, b8⟩
            obtain ⟨A8, c8, rfl, hc8, hm8, hr8, -⟩ := o8.rd Span.ok
            have HR8 := Lib.hid hr8
            have HB8 := Lib.hid (HBi.out.below b8)
            clear o8 b8 hr8
            go_wp2_with fail
            refine (b_rspans HB8.out).mono ?_
            rintro e w9 ⟨ys, v9, rfl, o9, b9, hsp⟩
            have hys := HSo.out.spans hkD'.out hsp
            subst hys
            obtain ⟨A9, c9, rfl, hc9, hm9, hr9, -⟩ := o9.rd Span.ok
            have HR9 := Lib.hid hr9
            have HR89 := Lib.hid (HR8.out.below b9 (Nat.le_refl _))
            have HB9 := Lib.hid (HB8.out.below b9)
            clear o9 b9 hr9 hsp
            go_wp2_with fail
            refine (sameSpans_calls _ A8 A9 c8 c9 D'.l D'.l (by omega) (by omega) HR89.out HR9.out).mono ?_
            rintro e w10 ⟨rfl, b10⟩
            have hd : decide (D'.l = D'.l) = true := by simp
            rw [hd]
            have HB10 := Lib.hid (HB9.out.below b10)
            clear b10
            go_wp2_with fail
            refine (frB_count HB10.out.frB).mono ?_
            rintro e w11 ⟨rfl, b11⟩
            have HB11 := Lib.hid (HB10.out.below b11)
            have ce : (cntW D'.l != cntW D'.l) = false := by simp
            clear b11
            go_wp2_with fail
            refine (frB_largest HB11.out.frB).mono ?_
            rintro e w12 ⟨rfl, b12⟩
            have HB12 := Lib.hid (HB11.out.below b12)
            have me : (maxL D'.l != maxL D'.l) = false := by simp
            clear b12
            go_wp2_with fail
            go_roundg (GK - 1)
            case measure => omega
            case rel => exact ⟨k + 1, g', g2', _, D', X', rfl, rfl, by go_num, rfl, by omega, HB12.out, HSo.out⟩
    · have hBl := Lib.hid hB.out.bl
      have i1 : ¬ (k : Int) < (l.length : Int) := by omega
      go_wp2
      go_ret
      exact ⟨rfl, hBl.out⟩
theorem extentDoes_row (w : World) (v0 v1 v2 : Value) (f n : Int) (l : List EDeed) (h0 : IntV v0 f) (h1 : IntV v1 n) (h2 : EDeeds w v2 l) :
    Calls Try.prog 13 #[v0, v1, v2] w fun e w' => e = .returned (.bool true) ∧ Below w.heap.size w w' := by
  obtain ⟨rfl, hf⟩ := h0
  obtain ⟨rfl, hn⟩ := h1
  obtain ⟨A, c, rfl, hc, hb, hr⟩ := h2
  exact extentDoes_calls w f n A c l hf hn hr hc hb
end Go.Proofs.Ytglpckdmiohciaa
