/- node: Right -/
import Derived.Test.YtikgplhcadomcaaGreatKP
namespace Go.Proofs.YtikgplhcadomcaaGreat
open Go.RowKit
set_option linter.unusedVariables false
set_option linter.unusedSimpArgs false
def RightE (lv : Int) (E : List Entry) (K : List Kid) (r : Int) : Prop := NodeP.right ⟨lv, E, K⟩ = r
theorem right_texts {lv : Int} {E : List Entry} {K : List Kid} {t : Int} (h : NodeP.texts ⟨lv, E, K⟩ = t) (ht : t ≠ 0) : RightE lv E K t := by
  unfold RightE NodeP.right; rw [h]; simp [ht]
theorem right_rest {lv : Int} {E : List Entry} {K : List Kid} (h : NodeP.texts ⟨lv, E, K⟩ = 0) : NodeP.right ⟨lv, E, K⟩ = if lv < 0 ∨ 20 < lv ∨ (if 0 < lv then K.length else E.length) = 0 ∨ 0 < (if 0 < lv then E.length else K.length) then 90
  else if badKeys lv (E.map Entry.key ++ K.map Kid.last) then 90
  else if K.any (fun k : Kid => decide (k.id = 0)) then 90 else 0 := by
  unfold NodeP.right; rw [h]; simp [NodeP.keys]
theorem right_hi {lv : Int} {E : List Entry} {K : List Kid} (h : NodeP.texts ⟨lv, E, K⟩ = 0) (hl : 0 < lv) : NodeP.right ⟨lv, E, K⟩ = if lv < 0 ∨ 20 < lv ∨ (K.length : Int) = 0 ∨ 0 < (E.length : Int) then 90
  else if badKeys lv (E.map Entry.key ++ K.map Kid.last) then 90
  else if K.any (fun k : Kid => decide (k.id = 0)) then 90 else 0 := by
  rw [right_rest h]; simp only [if_pos hl]
  congr 1
  exact propext ⟨fun h => by omega, fun h => by omega⟩
theorem right_lo {lv : Int} {E : List Entry} {K : List Kid} (h : NodeP.texts ⟨lv, E, K⟩ = 0) (hl : ¬ 0 < lv) : NodeP.right ⟨lv, E, K⟩ = if lv < 0 ∨ 20 < lv ∨ (E.length : Int) = 0 ∨ 0 < (K.length : Int) then 90
  else if badKeys lv (E.map Entry.key ++ K.map Kid.last) then 90
  else if K.any (fun k : Kid => decide (k.id = 0)) then 90 else 0 := by
  rw [right_rest h]; simp only [if_neg hl]
  congr 1
  exact propext ⟨fun h => by omega, fun h => by omega⟩
theorem any_zero (K : List Kid) (h : ∀ (i : Nat) (k : Kid), K[i]? = some k → k.id ≠ 0) : K.any (fun k : Kid => decide (k.id = 0)) = false := by
  rw [List.any_eq_false]
  intro k hk e
  obtain ⟨i, hi, he⟩ := List.getElem_of_mem hk
  exact h i k (by rw [List.getElem?_eq_getElem hi, he]) (by simpa using e)
theorem any_is (K : List Kid) (i : Nat) (k : Kid) (h : K[i]? = some k) (hz : k.id = 0) : K.any (fun k : Kid => decide (k.id = 0)) = true := by
  rw [List.any_eq_true]; exact ⟨k, List.mem_of_getElem? h, by simp [hz]⟩
set_option maxRecDepth 100000 in
set_option maxHeartbeats 4000000 in
theorem nodeRight_calls (w : World) (A : Option Addr) (ca : Nat) (B : Option Addr) (cb : Nat) (lv : Int) (E : List Entry) (K : List Kid) (h : NdAt w ⟨A, ca, B, cb⟩ ⟨lv, E, K⟩) :
    Calls Tryz.prog 154 #[.agg #[.int .i64 lv, .slice A E.length ca, .slice B K.length cb]] w fun e w' => e = .returned (.int .i64 (NodeP.right ⟨lv, E, K⟩)) ∧ Below w.heap.size w w' := by
  obtain ⟨W1, hW1⟩ : ∃ W, w.alloc (.cells #[.int .i64 lv, .slice A E.length ca, .slice B K.length cb] 98) = W := ⟨_, rfl⟩
  have hb1 : Below w.heap.size w W1 := by rw [← hW1]; exact bl_alloc (Below.refl _ w) _
  obtain ⟨q, hq⟩ : ∃ q, w.heap.size = q := ⟨_, rfl⟩
  have HZ : Hid (W1.heap[q]? = some (.cells #[.int .i64 lv, .slice A E.length ca, .slice B K.length cb] 98 (0, 0))) := by show _ = _; rw [← hW1, ← hq]; exact blk_new w _
  have x0 := blk_cell HZ.out 0
  have x1 := blk_cell HZ.out 1
  have x2 := blk_cell HZ.out 2
  have xl := blk_lt HZ.out
  have h1 := h.below hb1
  have H1 := Lib.hid h1
  have HTc := Lib.hid (nodeTexts_calls W1 ⟨A, ca, B, cb⟩ ⟨lv, E, K⟩ h1)
  have HB1 := Lib.hid hb1
  have hqs : Hid (q = w.heap.size) := hq.symm
  have hlk := h.lk
  have hle := h.le
  obtain ⟨r, hr⟩ : ∃ t, NodeP.right ⟨lv, E, K⟩ = t := ⟨_, rfl⟩
  have HR := Lib.hid hr
  obtain ⟨t, ht⟩ : ∃ t, NodeP.texts ⟨lv, E, K⟩ = t := ⟨_, rfl⟩
  have HT := Lib.hid ht
  rw [ht] at HTc
  rw [hr]
  clear h1 hb1 h hr ht
  dsimp only at HTc hlk hle
  go_enter Tryz.func154, Tryz.ntmps154
  go_wp2_with fail
  refine HTc.out.mono ?_
  rintro e w2 ⟨rfl, hb2⟩
  have B2 := Lib.hid hb2
  have q2 := Lib.hid (blk_below hb2 HZ.out (blk_lt HZ.out))
  by_cases ht0 : t = 0
  · subst ht0
    have v0 := blk_cell q2.out 0
    have v1 := blk_cell q2.out 1
    have v2 := blk_cell q2.out 2
    have vl := blk_lt q2.out
    clear x0 x1 x2 xl hb2 HTc
    rcases Classical.em (0 < lv) with h0 | h0
    case' inl =>
      have HX := Lib.hid (right_hi HT.out h0)
      go_wp2
      go_quiet (fail)
      go_upto_region 7 with fail
      generalize (K.length : Int) = o at HX ⊢
      generalize (E.length : Int) = u at HX ⊢
    case' inr =>
      have HX := Lib.hid (right_lo HT.out h0)
      go_wp2
      go_quiet (fail)
      go_upto_region 7 with fail
      generalize (E.length : Int) = o at HX ⊢
      generalize (K.length : Int) = u at HX ⊢
    all_goals
      have B3 := Lib.hid (bl_drewN B2.out nq)
      have H3 := Lib.hid (H1.out.below B3.out)
      have q3 := Lib.hid (blk_below B3.out HZ.out (blk_lt HZ.out))
      obtain ⟨w3, hw3⟩ : ∃ t, w2.drewN nq = t := ⟨_, rfl⟩
      rw [hw3] at B3 H3 q3 ⊢
      clear h0 v0 v1 v2 vl hw3
      have v0 := blk_cell q3.out 0
      have v1 := blk_cell q3.out 1
      have v2 := blk_cell q3.out 2
      have vl := blk_lt q3.out
      by_cases hc : lv < 0 ∨ 20 < lv ∨ o = 0 ∨ 0 < u
      · have hv : Hid (r = 90) := by show _ = _; rw [← HR.out, HX.out, if_pos hc]
        by_cases c1 : lv < 0
        · have d1 : decide (lv < 0) = true := decide_eq_true c1
          clear hc c1 HR HT HX
          go_wp2
          go_ret
          exact ⟨by rw [hv.out]; rfl, bl_then HB1.out HB1.out.size B3.out⟩
        · have d1 : decide (lv < 0) = false := decide_eq_false c1
          by_cases c2 : 20 < lv
          · have d2 : decide (20 < lv) = true := decide_eq_true c2
            clear hc c1 c2 HR HT HX
            go_wp2
            go_ret
            exact ⟨by rw [hv.out]; rfl, bl_then HB1.out HB1.out.size B3.out⟩
          · have d2 : decide (20 < lv) = false := decide_eq_false c2
            by_cases c3 : o = 0
            · subst c3
              clear hc c1 c2 HR HT HX
              go_wp2
              go_ret
              exact ⟨by rw [hv.out]; rfl, bl_then HB1.out HB1.out.size B3.out⟩
            · have d3 : (o == 0) = false := by rw [beq_eq_false_iff_ne]; exact c3
              have c4 : 0 < u := by omega
              have d4 : decide (0 < u) = true := decide_eq_true c4
              clear hc c1 c2 c3 c4 HR HT HX
              go_wp2
              go_ret
              exact ⟨by rw [hv.out]; rfl, bl_then HB1.out HB1.out.size B3.out⟩
      · have hv : Hid (r = if badKeys lv (E.map Entry.key ++ K.map Kid.last) then 90 else if K.any (fun k : Kid => decide (k.id = 0)) then 90 else 0) := by show _ = _; rw [← HR.out, HX.out, if_neg hc]
        have d1 : decide (lv < 0) = false := decide_eq_false (by omega)
        have d2 : decide (20 < lv) = false := decide_eq_false (by omega)
        have d3 : (o == 0) = false := by rw [beq_eq_false_iff_ne]; omega
        have d4 : decide (0 < u) = false := decide_eq_false (by omega)
        clear hc HR HT HX
        go_wp2_with fail
        refine (nodeKeys_calls w3 A ca B cb lv E K H3.out.ca H3.out.cb H3.out.hE H3.out.hK H3.out.le H3.out.lk).mono ?_
        rintro e w4 ⟨v, rfl, ho4, hb4⟩
        obtain ⟨A2, c2, rfl, hc2, -, hr4, -⟩ := ho4.rd strOk
        have hkl : (E.map Entry.key ++ K.map Kid.last).length ≤ 2000000 := by rw [List.length_append, List.length_map, List.length_map]; omega
        have B4 := Lib.hid (bl_then B3.out B3.out.size hb4)
        have HKs : Hid (∀ k ∈ E.map Entry.key ++ K.map Kid.last, k.size ≤ 9223372036854775807) := by
          intro k hk
          rcases List.mem_append.1 hk with hk | hk
          · obtain ⟨x, hx, rfl⟩ := List.mem_map.1 hk
            have := (H1.out.sE x hx).1; omega
          · obtain ⟨x, hx, rfl⟩ := List.mem_map.1 hk
            have := H1.out.sK x hx; omega
        clear v0 v1 v2 vl d1 d2 d3 d4 hb4 ho4
        obtain ⟨ks, hks⟩ : ∃ ks, E.map Entry.key ++ K.map Kid.last = ks := ⟨_, rfl⟩
        rw [hks] at hkl hv hr4 hc2 HKs ⊢
        have HR4 := Lib.hid hr4
        clear hks hr4
        go_wp2
        have q4 := Lib.hid (blk_below B4.out HZ.out (blk_lt HZ.out))
        have K4 := Lib.hid (H1.out.hK.below B4.out (Nat.le_refl _))
        have B5 := Lib.hid (bl_then HB1.out HB1.out.size B4.out)
        go_loopg [47] ks.length (fun m i wr => ∃ k : Nat, i = .int .i64 k ∧ k + m = ks.length ∧ Hid (∀ i, i < k → keyBad lv ks i = false) ∧ Hid (Below w4.heap.size w4 wr))
        case atStart => exact ⟨0, rfl, by omega, fun i hi => absurd hi (Nat.not_lt_zero _), Below.refl _ _⟩
        case round =>
          obtain ⟨k, rfl, hk, hg, hb⟩ := hrel
          have qb := Lib.hid (blk_below hb.out q4.out (blk_lt q4.out))
          have B6 := Lib.hid (bl_then B5.out (Nat.le_trans HB1.out.size B4.out.size) hb.out)
          by_cases hkn : k < ks.length
          · obtain ⟨m', hm'⟩ : ∃ m', gk = m' + 1 := ⟨gk - 1, by omega⟩
            subst hm'
            have hki : (k : Int) < (ks.length : Int) := by omega
            have hkz : (0 : Int) ≤ (k : Int) := by omega
            have u0 := blk_cell qb.out 0
            have ul := blk_lt qb.out
            rcases HR4.out with h0 | ⟨bb, off, rfl, hlt, hcell⟩
            · rw [h0] at hkn; simp at hkn
            have hrw := Lib.hid (HR4.out.below hb.out (Nat.le_refl _))
            have hbl : bb < wr.heap.size := Nat.lt_of_lt_of_le hlt hb.out.size
            have hxk : ks[k]? = some ks[k] := List.getElem?_eq_getElem hkn
            have z0 := hrw.out.range hxk 0 _ rfl
            have hsy := HKs.out _ (List.getElem_mem hkn)
            clear hcell hlt
            generalize ks[k] = y at *
            have e1 : off + k * 1 + 0 = off + k := by omega
            rw [e1] at z0
            have hfail : keyBad lv ks k = true → Hid (r = 90) := fun e => by show _ = _; rw [hv.out, if_pos ((badKeys_iff lv ks).2 ⟨k, hkn, e⟩)]
            have hmore : keyBad lv ks k = false → Hid (∀ i, i < k + 1 → keyBad lv ks i = false) := fun e i hi => by
              rcases Nat.lt_succ_iff_lt_or_eq.1 hi with h | h
              · exact hg.out i h
              · rw [h]; exact e
            cases k with
            | zero =>
              rw [Nat.add_zero] at z0
              have hkb := Lib.hid (keyBad_zero lv ks y hxk)
              have d0 : decide ((0 : Int) < ((0 : Nat) : Int)) = false := by simp
              by_cases h1 : 1 < ks.length
              · have d1 : (1 : Int) < (ks.length : Int) := by omega
                obtain ⟨b, hbE⟩ : ∃ b, endsN lv y = b := ⟨_, rfl⟩
                have HEn : Hid (∀ w', Calls Tryz.prog 111 #[.int .i64 lv, .string y] w' fun e w'' => e = .returned (.bool b) ∧ Below w'.heap.size w' w'') := fun w' => by rw [← hbE]; exact ends_calls w' lv y hsy
                have hk2 : keyBad lv ks 0 = b := by rw [hkb.out, decide_eq_true h1, hbE]; rfl
                rw [hk2] at hfail hmore
                cases b with
                | true =>
                  have hx := hfail rfl
                  clear hfail hmore hkb hk2 hbE hg hxk h1 hv hsy
                  go_wp2_with fail
                  refine (HEn.out _).mono ?_
                  rintro e w5 ⟨rfl, hb5⟩
                  have B7 := Lib.hid (bl_then B6.out (Nat.le_trans (Nat.le_trans HB1.out.size B4.out.size) hb.out.size) hb5)
                  clear hb5
                  go_wp2
                  go_ret
                  exact ⟨by rw [hx.out]; rfl, by first | exact B7.out | (rw [← hq]; exact B7.out)⟩
                | false =>
                  have hx := hmore rfl
                  clear hfail hmore hkb hk2 hbE hg hxk h1 hsy
                  go_wp2_with fail
                  refine (HEn.out _).mono ?_
                  rintro e w5 ⟨rfl, hb5⟩
                  have B7 := Lib.hid (bl_then hb.out hb.out.size hb5)
                  clear hb5
                  go_wp2
                  go_roundg m'
                  case measure => omega
                  case rel => exact ⟨0 + 1, by go_num, by omega, hx.out, B7.out⟩
              · have d1 : ¬ (1 : Int) < (ks.length : Int) := by omega
                have d2 : (ks.length : Int) ≤ 1 := by omega
                have hk2 : keyBad lv ks 0 = false := by rw [hkb.out, decide_eq_false h1]; rfl
                have hx := hmore hk2
                clear hfail hmore hkb hk2 hg hxk h1 hsy
                go_wp2
                go_roundg m'
                case measure => omega
                case rel => exact ⟨0 + 1, by go_num, by omega, hx.out, hb.out⟩
            | succ j =>
              have hxj : ks[j]? = some ks[j] := List.getElem?_eq_getElem (by omega)
              have z1 := hrw.out.range hxj 0 _ rfl
              have e2 : off + j * 1 + 0 = off + j := by omega
              rw [e2] at z1
              generalize ks[j] = x at *
              have hkb := Lib.hid (keyBad_succ lv ks j x y hxj hxk)
              have d0 : decide ((0 : Int) < (j : Int) + 1) = true := decide_eq_true (by omega)
              have s1 : (j : Int) + 1 - 1 = (j : Int) := by omega
              by_cases hq : slt x y = true
              · have hq' : Op.bytesLess x.toList y.toList = true := hq
                by_cases h1 : j + 2 < ks.length
                · have d1 : decide ((j : Int) + 1 < (ks.length : Int) - 1) = true := decide_eq_true (by omega)
                  obtain ⟨b, hbE⟩ : ∃ b, endsN lv y = b := ⟨_, rfl⟩
                  have HEn : Hid (∀ w', Calls Tryz.prog 111 #[.int .i64 lv, .string y] w' fun e w'' => e = .returned (.bool b) ∧ Below w'.heap.size w' w'') := fun w' => by rw [← hbE]; exact ends_calls w' lv y hsy
                  have hk2 : keyBad lv ks (j + 1) = b := by rw [hkb.out, hq, decide_eq_true h1, hbE]; rfl
                  rw [hk2] at hfail hmore
                  cases b with
                  | true =>
                    have hx := hfail rfl
                    clear hfail hmore hkb hk2 hbE hg hxk h1 hv hsy hxj hq
                    go_wp2_with fail
                    refine (HEn.out _).mono ?_
                    rintro e w5 ⟨rfl, hb5⟩
                    have B7 := Lib.hid (bl_then B6.out (Nat.le_trans (Nat.le_trans HB1.out.size B4.out.size) hb.out.size) hb5)
                    clear hb5
                    go_wp2
                    go_ret
                    exact ⟨by rw [hx.out]; rfl, by first | exact B7.out | (rw [← hq]; exact B7.out)⟩
                  | false =>
                    have hx := hmore rfl
                    clear hfail hmore hkb hk2 hbE hg hxk h1 hsy hxj hq
                    go_wp2_with fail
                    refine (HEn.out _).mono ?_
                    rintro e w5 ⟨rfl, hb5⟩
                    have B7 := Lib.hid (bl_then hb.out hb.out.size hb5)
                    clear hb5
                    go_wp2
                    go_roundg m'
                    case measure => omega
                    case rel => exact ⟨j + 1 + 1, by go_num, by omega, hx.out, B7.out⟩
                · have d1 : decide ((j : Int) + 1 < (ks.length : Int) - 1) = false := decide_eq_false (by omega)
                  have hk2 : keyBad lv ks (j + 1) = false := by rw [hkb.out, hq, decide_eq_false h1]; rfl
                  have hx := hmore hk2
                  clear hfail hmore hkb hk2 hg hxk h1 hsy hxj hq
                  go_wp2
                  go_roundg m'
                  case measure => omega
                  case rel => exact ⟨j + 1 + 1, by go_num, by omega, hx.out, hb.out⟩
              · have hq' : Op.bytesLess x.toList y.toList = false := by unfold slt at hq; simpa using hq
                have hk2 : keyBad lv ks (j + 1) = true := by rw [hkb.out]; simp [hq]
                have hx := hfail hk2
                clear hfail hmore hkb hk2 hg hxk hv hsy hxj hq
                go_wp2
                go_ret
                exact ⟨by rw [hx.out]; rfl, by first | exact B6.out | (rw [← hq]; exact B6.out)⟩
          · have hkk : ¬ (k : Int) < (ks.length : Int) := by omega
            have hnb : badKeys lv ks = false := badKeys_no lv ks (fun i hi => hg.out i (by omega))
            have hv2 : Hid (r = if K.any (fun k : Kid => decide (k.id = 0)) then 90 else 0) := by show _ = _; rw [hv.out, hnb]; rfl
            have c2v := blk_cell qb.out 2
            have ul := blk_lt qb.out
            have K6 := Lib.hid (K4.out.below hb.out (Nat.le_refl _))
            clear hv hkn hnb hg
            go_wp2
            go_loopg [80] K.length (fun m i wq => ∃ k : Nat, i = .int .i64 k ∧ k + m = K.length ∧ Hid (∀ (i : Nat) (x : Kid), i < k → K[i]? = some x → x.id ≠ 0) ∧ Hid (Below w4.heap.size w4 wq))
            case atStart => exact ⟨0, rfl, by omega, fun i x hi => absurd hi (Nat.not_lt_zero _), hb.out⟩
            case round =>
              clear c2v ul hb B6 qb K6
              obtain ⟨j, rfl, hj, hg, hb⟩ := hrel
              have B6 := Lib.hid (bl_then B5.out (Nat.le_trans HB1.out.size B4.out.size) hb.out)
              by_cases hjn : j < K.length
              · obtain ⟨m', hm'⟩ : ∃ m', gk = m' + 1 := ⟨gk - 1, by omega⟩
                subst hm'
                have hji : (j : Int) < (K.length : Int) := by omega
                have hjz : (0 : Int) ≤ (j : Int) := by omega
                rcases K4.out with h0 | ⟨bb, off, rfl, hlt, hcell⟩
                · rw [h0] at hjn; simp at hjn
                have hxk : K[j]? = some K[j] := List.getElem?_eq_getElem hjn
                have hrg := (K4.out.below hb.out (Nat.le_refl _)).range hxk
                have z0 := hrg 0 _ rfl
                have z1 := hrg 1 _ rfl
                have hbl : bb < wr.heap.size := Nat.lt_of_lt_of_le hlt hb.out.size
                have hfail : (K[j]).id = 0 → Hid (r = 90) := fun e => by show _ = _; rw [hv2.out, if_pos (any_is K j _ hxk e)]
                have hmore : (K[j]).id ≠ 0 → Hid (∀ (i : Nat) (x : Kid), i < j + 1 → K[i]? = some x → x.id ≠ 0) := fun e i x hi hx => by
                  rcases Nat.lt_succ_iff_lt_or_eq.1 hi with h | h
                  · exact hg.out i x h hx
                  · rw [h, hxk] at hx; cases hx; exact e
                generalize K[j] = x at *
                obtain ⟨xk, xv⟩ := x
                have e1 : off + j * 2 + 0 = off + j * 2 := rfl
                rw [e1] at z0
                dsimp only at z0 z1 hfail hmore
                obtain ⟨W3, hW3⟩ : ∃ W, wr.alloc (.cells #[.string xk, .int .u64 xv] 109) = W := ⟨_, rfl⟩
                have hb3 : Below wr.heap.size wr W3 := by rw [← hW3]; exact bl_alloc (Below.refl _ wr) _
                have hz3 : W3.heap[wr.heap.size]? = some (.cells #[.string xk, .int .u64 xv] 109 (0, 0)) := by rw [← hW3]; exact blk_new wr _
                have y1 := blk_cell hz3 1
                have yl := blk_lt hz3
                have B7 := Lib.hid (bl_then hb.out hb.out.size hb3)
                have B8 := Lib.hid (bl_then B6.out (Nat.le_trans (Nat.le_trans HB1.out.size B4.out.size) hb.out.size) hb3)
                clear hrg hcell hlt hxk hb3 hz3 hg hb
                by_cases hx0 : xv = 0
                · have hx := hfail hx0
                  have hx1 : (xv == 0) = true := by rw [hx0]; rfl
                  clear hfail hmore hv2 hx0
                  go_wp2
                  go_ret
                  exact ⟨by rw [hx.out]; rfl, by first | exact B8.out | (rw [← hq]; exact B8.out)⟩
                · have hx := hmore hx0
                  have hx1 : (xv == 0) = false := by rw [beq_eq_false_iff_ne]; exact hx0
                  clear hfail hmore hx0
                  go_wp2
                  go_roundg m'
                  case measure => omega
                  case rel => exact ⟨j + 1, by go_num, by omega, hx.out, B7.out⟩
              · have hjj : ¬ (j : Int) < (K.length : Int) := by omega
                have hx : Hid (r = 0) := by show _ = _; rw [hv2.out, any_zero K (fun i k hk => hg.out i k (by have := (List.getElem?_eq_some_iff.1 hk).1; omega) hk)]; rfl
                clear hv2 hjn hg
                go_wp2
                go_ret
                exact ⟨by rw [hx.out]; rfl, by first | exact B6.out | (rw [← hq]; exact B6.out)⟩
  · have ht1 : (t == 0) = false := by rw [beq_eq_false_iff_ne]; exact ht0
    have hv : Hid (r = t) := HR.out.symm.trans (right_texts HT.out ht0)
    clear ht0 x0 x1 x2 xl hb2 HTc HR HT
    go_wp2
    go_ret
    exact ⟨by rw [hv.out]; rfl, bl_then HB1.out HB1.out.size B2.out⟩
end Go.Proofs.YtikgplhcadomcaaGreat
