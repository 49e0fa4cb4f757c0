/- node: Put -/
import Derived.Test.YtikgplhcadomcaaGreatQNode7
namespace Go.Proofs.YtikgplhcadomcaaGreat
open Go.RowKit
set_option linter.unusedVariables false
set_option linter.unusedSimpArgs false
theorem rd_nu2 {w : World} {g a b' : Nat} {b : Int} {t : TypeId} {fr : Nat × Nat} (hb : w.heap[g]? = some (.cells #[.int .u64 (a : Int), .int .u64 b] t fr)) (e : ((b' : Nat) : Int) = b) : Rd nuE 1 w (some ⟨g, 0, none⟩) [a, b'] := by
  subst e
  refine .inr ⟨g, 0, rfl, blk_lt hb, fun i x hx k v hv => ?_⟩
  match i, hx with
  | 0, hx => cases hx; match k, hv with
             | 0, hv => cases hv; exact blk_cell hb 0
  | 1, hx => cases hx; match k, hv with
             | 0, hv => cases hv; exact blk_cell hb 1
def PutN (w w' : World) (n : NodeP) (e : Ending) : Prop := ∃ v, e = .returned (.tuple #[v, .int .i64 n.put.2]) ∧ Own u8e 1 5 w.heap.size w' v n.put.1 ∧ Below w.heap.size w w'
set_option maxRecDepth 100000 in
set_option maxHeartbeats 4000000 in
theorem nodePut_calls (w : World) (A : Option Addr) (ca : Nat) (B : Option Addr) (cb : Nat) (lv : Int) (E : List Entry) (K : List Kid) (h : NdAt w ⟨A, ca, B, cb⟩ ⟨lv, E, K⟩) (hi : KidsOk K) (lE : E.length ≤ 1500) (lK : K.length ≤ 1500) :
    Calls Tryz.prog 155 #[.agg #[.int .i64 lv, .slice A E.length ca, .slice B K.length cb]] w fun e w' => PutN w w' ⟨lv, E, K⟩ e := by
  obtain ⟨W1, hW1⟩ : ∃ W, w.alloc (.cells #[.int .i64 lv, .slice A E.length ca, .slice B K.length cb] 98) = W := ⟨_, rfl⟩
  have hb1 : Below w.heap.size w W1 := by rw [← hW1]; exact bl_alloc (Below.refl _ w) _
  obtain ⟨q, hq⟩ : ∃ q, w.heap.size = q := ⟨_, rfl⟩
  have HZ : Hid (W1.heap[q]? = some (.cells #[.int .i64 lv, .slice A E.length ca, .slice B K.length cb] 98 (0, 0))) := by show _ = _; rw [← hW1, ← hq]; exact blk_new w _
  have x0 := blk_cell HZ.out 0
  have x1 := blk_cell HZ.out 1
  have x2 := blk_cell HZ.out 2
  have xl := blk_lt HZ.out
  have h1 := h.below hb1
  have HR := Lib.hid (nodeRight_calls W1 A ca B cb lv E K h1)
  have HB1 := Lib.hid hb1
  have H1 := Lib.hid h1
  have HI := Lib.hid hi
  by_cases hr : NodeP.right ⟨lv, E, K⟩ = 0
  rotate_left
  · have hv : Hid (NodeP.put ⟨lv, E, K⟩ = ([], NodeP.right ⟨lv, E, K⟩)) := if_pos hr
    have hnb : (NodeP.right ⟨lv, E, K⟩ == 0) = false := by rw [beq_eq_false_iff_ne]; exact hr
    generalize NodeP.right ⟨lv, E, K⟩ = r at *
    clear hr h1 hb1 h hi
    go_enter Tryz.func155, Tryz.ntmps155
    go_wp2_with fail
    refine HR.out.mono ?_
    rintro e w1 ⟨rfl, hb2⟩
    have B2 := Lib.hid (bl_then HB1.out HB1.out.size hb2)
    clear x0 x1 x2 xl hb2 HR
    go_wp2
    go_ret2
    exact ⟨.slice none 0 0, by rw [hv.out]; rfl, by rw [hv.out]; exact Own.nil, B2.out⟩
  obtain ⟨hr1, hr2, hr3, -, -, -, -⟩ := right_zero hr
  obtain ⟨ht1, ht2⟩ := right_texts0 hr
  dsimp only at hr2 hr3 ht1 ht2
  have sE := textErr_small E ht1
  have sK := kidsE_small K ht2
  have SE := Lib.hid sE
  have SK := Lib.hid sK
  have FE := Lib.hid (flat_ents sE)
  have FK := Lib.hid (flat_kids sK hi)
  obtain ⟨ln, hln⟩ : ∃ ln : Nat, lv = (ln : Int) := ⟨lv.toNat, by omega⟩
  subst hln
  have hv : Hid (NodeP.put ⟨(ln : Int), E, K⟩ = if 131072 < (lebI ln ++ lebI (E.length + K.length) ++ E.flatMap entI ++ K.flatMap kidI).length then ([], 2) else (lebI ln ++ lebI (E.length + K.length) ++ E.flatMap entI ++ K.flatMap kidI, 0)) := by
    show _ = _
    unfold NodeP.put
    rw [if_neg (by simp [hr])]
    have e : nodeI (ln : Int) E K = lebI ln ++ lebI (E.length + K.length) ++ E.flatMap entI ++ K.flatMap kidI := by unfold nodeI; rw [Int.toNat_natCast]
    show (if 131072 < (nodeI (ln : Int) E K).length then _ else _) = _
    rw [e]
  have l1 := Lib.hid (lebI_len10 ln (by omega))
  have l2 := Lib.hid (lebI_len10 (E.length + K.length) (by omega))
  have hw1 : IntKind.u64.wrap (ln : Int) = (ln : Int) := by rw [IntKind.wrap_u64]; omega
  have hw2 : IntKind.u64.wrap ((E.length : Int) + (K.length : Int)) = (E.length : Int) + (K.length : Int) := by rw [IntKind.wrap_u64]; omega
  rw [hr] at HR
  clear hr h1 hb1 h hi hr1 ht1 ht2 sE sK hr2
  go_enter Tryz.func155, Tryz.ntmps155
  go_wp2_with fail
  refine HR.out.mono ?_
  rintro e w1 ⟨rfl, hb2⟩
  have q1 := Lib.hid (blk_below hb2 HZ.out (blk_lt HZ.out))
  have v0 := blk_cell q1.out 0
  have v1 := blk_cell q1.out 1
  have v2 := blk_cell q1.out 2
  have vl := blk_lt q1.out
  have H2 := Lib.hid (H1.out.below hb2)
  have B1 := Lib.hid (bl_then HB1.out HB1.out.size hb2)
  have hqw : Hid (w.heap.size ≤ w1.heap.size) := by show _ ≤ _; exact Nat.le_trans HB1.out.size hb2.size
  have W0 : Hid (WrAt w1.heap.size ((w1.alloc (.cells #[.slice none 0 0] 216)).alloc (.cells #[.int .u64 (ln : Int), .int .u64 ((E.length : Int) + (K.length : Int))] 28)) w1.heap.size []) := ⟨Nat.le_refl _, _, blk_alloc (blk_new w1 _) _, Own.nil⟩
  have p0 : Hid (Rd nuE 1 ((w1.alloc (.cells #[.slice none 0 0] 216)).alloc (.cells #[.int .u64 (ln : Int), .int .u64 ((E.length : Int) + (K.length : Int))] 28)) (some ⟨w1.heap.size + 1, 0, none⟩) [ln, E.length + K.length]) := by
    show Rd _ _ _ _ _
    have h2 := blk_new (w1.alloc (.cells #[.slice none 0 0] 216)) (.cells #[.int .u64 (ln : Int), .int .u64 ((E.length : Int) + (K.length : Int))] 28)
    rw [World.size_alloc] at h2
    exact rd_nu2 h2 (by push_cast; rfl)
  have B0 : Hid (Below w1.heap.size w1 ((w1.alloc (.cells #[.slice none 0 0] 216)).alloc (.cells #[.int .u64 (ln : Int), .int .u64 ((E.length : Int) + (K.length : Int))] 28))) := bl_alloc (bl_alloc (Below.refl _ _) _) _
  clear hb2 x0 x1 x2 xl HR
  go_wp2_with fail
  refine (wNums_calls w1.heap.size _ w1.heap.size [] (some ⟨w1.heap.size + 1, 0, none⟩) 2 [ln, E.length + K.length] (by intro n hn; simp at hn; omega) (by simp) (by simp) W0.out p0.out).mono ?_
  rintro e w2 ⟨rfl, hW2, hb2, -⟩
  have W2 : Hid (WrAt w1.heap.size w2 w1.heap.size (lebI ln ++ lebI (E.length + K.length))) := by show WrAt _ _ _ _; simpa using hW2
  have B2 := Lib.hid (B0.out.trans hb2)
  clear hW2 hb2 W0 p0 B0 v0 v1 v2 vl
  have HE := Lib.hid H2.out.hE
  have HK := Lib.hid H2.out.hK
  have q2 := Lib.hid (blk_below B2.out q1.out (blk_lt q1.out))
  have u1 := blk_cell q2.out 1
  have ul := blk_lt q2.out
  obtain ⟨hd, hhd⟩ : ∃ x, x = lebI ln ++ lebI (E.length + K.length) := ⟨_, rfl⟩
  have hdl : Hid (hd.length ≤ 20) := by show _ ≤ _; rw [hhd, List.length_append]; have := l1.out; have := l2.out; omega
  rw [← hhd] at W2 hv
  clear hhd l1 l2
  go_wp2
  go_loopg [35] E.length (fun n i wr => ∃ k : Nat, i = .int .i64 k ∧ k + n = E.length ∧ Hid (WrAt w1.heap.size wr w1.heap.size (hd ++ (E.take k).flatMap entI)) ∧ Hid (Below w1.heap.size w1 wr))
  case atStart => exact ⟨0, rfl, by omega, by simpa [Hid] using W2.out, B2.out⟩
  case round =>
    clear u1 ul
    obtain ⟨k, rfl, hk, hW, hb⟩ := hrel
    by_cases hlt : k < E.length
    · obtain ⟨n', hn'⟩ : ∃ n', gk = n' + 1 := ⟨gk - 1, by omega⟩
      subst hn'
      have hki : (k : Int) < (E.length : Int) := by omega
      have hkz : (0 : Int) ≤ (k : Int) := by omega
      rcases HE.out with h0 | ⟨bb, off, rfl, hbl, hc⟩
      · rw [h0] at hlt; simp at hlt
      have hx := List.getElem?_eq_getElem hlt
      have hrg := Rd.range (HE.out.below hb.out (Nat.le_refl _)) hx
      have z0 := hrg 0 _ rfl
      have z1 := hrg 1 _ rfl
      have hbx : bb < wr.heap.size := Nat.lt_of_lt_of_le hbl hb.out.size
      have hd2 : Hid (hd ++ (E.take (k + 1)).flatMap entI = hd ++ (E.take k).flatMap entI ++ entI E[k]) := by show _ = _; rw [List.take_add_one, hx]; simp only [Option.toList_some, List.flatMap_append, List.flatMap_cons, List.flatMap_nil, List.append_nil, List.append_assoc]
      have hsx := SE.out _ (List.getElem_mem hlt)
      have hln : Hid ((hd ++ (E.take k).flatMap entI).length ≤ 640020) := by show _ ≤ _; rw [List.length_append]; have := hdl.out; have := FE.out k; omega
      generalize E[k] = x at *
      obtain ⟨xk, xv⟩ := x
      have e1 : off + k * 2 + 0 = off + k * 2 := rfl
      rw [e1] at z0
      dsimp only at z0 z1 hsx hd2
      obtain ⟨t0, t1⟩ := hsx
      have ql0 := Lib.hid (textI_len2 (s := xk) (by omega))
      obtain ⟨bs, hbs⟩ : ∃ x, x = hd ++ (E.take k).flatMap entI := ⟨_, rfl⟩
      rw [← hbs] at hW hd2 hln
      clear hbs hc hx hrg hbl
      have hN := Lib.hid (blk_new wr (.cells #[.string xk, .string xv] 113))
      have hWa := Lib.hid (hW.out.below (bl_alloc (Below.refl _ _) (.cells #[.string xk, .string xv] 113)))
      have hBa := Lib.hid (bl_alloc hb.out (.cells #[.string xk, .string xv] 113))
      have n35 : Hid (113 ≠ 5 ∧ 113 ≠ 216) := by show _ ∧ _; decide
      go_wp2_with fail
      refine (wText_calls w1.heap.size _ w1.heap.size bs xk (by omega) (by have := hln.out; omega) hWa.out).mono ?_
      rintro e y1 ⟨rfl, hW1, hb1, ht1⟩
      have W1' := Lib.hid hW1
      have D1 := Lib.hid (hBa.out.trans hb1)
      have N1 := Lib.hid (ht1 _ n35.out.1 n35.out.2 _ _ _ hN.out)
      have g1 : y1.cell? ⟨wr.heap.size, 1, none⟩ = some (.string xv) := by rw [blk_cell N1.out]; rfl
      have gl := blk_lt N1.out
      clear hW1 hb1 ht1 z0 z1
      go_wp2_with fail
      refine (wText_calls w1.heap.size _ w1.heap.size _ xv (by omega) (by have := hln.out; have := ql0.out; simp only [List.length_append]; omega) W1'.out).mono ?_
      rintro e y2 ⟨rfl, hW2, hb2, ht2⟩
      have W2' := Lib.hid hW2
      have D2 := Lib.hid (D1.out.trans hb2)
      clear hW2 hb2 ht2 g1 gl
      go_wp2
      go_roundg n'
      case measure => omega
      case rel =>
        refine ⟨k + 1, by go_num, by omega, ?_, D2.out⟩
        show WrAt _ _ _ _
        rw [hd2.out]
        have := W2'.out
        unfold entI
        simpa only [List.append_assoc] using this
    · have hkk : ¬ (k : Int) < (E.length : Int) := by omega
      rw [List.take_of_length_le (by omega)] at hW
      have hdl2 : Hid ((hd ++ E.flatMap entI).length ≤ 640020) := by show _ ≤ _; rw [List.length_append]; have := hdl.out; have := FE.out E.length; rw [List.take_length] at this; omega
      obtain ⟨he, hhe⟩ : ∃ x, x = hd ++ E.flatMap entI := ⟨_, rfl⟩
      rw [← hhe] at hW hv hdl2
      have q3 := Lib.hid (blk_below hb.out q1.out (blk_lt q1.out))
      have u2 := blk_cell q3.out 2
      have ul := blk_lt q3.out
      clear hhe hlt
      go_wp2
      have hH1 : Hid (he ++ ([] : List Int) = he) := List.append_nil he
      go_loopg [51] K.length (fun n i wr => ∃ k : Nat, i = .int .i64 k ∧ k + n = K.length ∧ Hid (WrAt w1.heap.size wr w1.heap.size (he ++ (K.take k).flatMap kidI)) ∧ Hid (Below w1.heap.size w1 wr))
      case atStart => exact ⟨0, rfl, by omega, by show WrAt _ _ _ _; simpa using hW.out, hb.out⟩
      case round =>
        clear u2 ul hW hb q3
        obtain ⟨j, rfl, hj, hW, hb⟩ := hrel
        by_cases hjt : j < K.length
        · obtain ⟨n', hn'⟩ : ∃ n', gk = n' + 1 := ⟨gk - 1, by omega⟩
          subst hn'
          have hji : (j : Int) < (K.length : Int) := by omega
          have hjz : (0 : Int) ≤ (j : Int) := by omega
          rcases HK.out with h0 | ⟨bb, off, rfl, hbl, hc⟩
          · rw [h0] at hjt; simp at hjt
          have hx := List.getElem?_eq_getElem hjt
          have hrg := Rd.range (HK.out.below hb.out (Nat.le_refl _)) hx
          have z0 := hrg 0 _ rfl
          have z1 := hrg 1 _ rfl
          have hbx : bb < wr.heap.size := Nat.lt_of_lt_of_le hbl hb.out.size
          have hd2 : Hid (he ++ (K.take (j + 1)).flatMap kidI = he ++ (K.take j).flatMap kidI ++ kidI K[j]) := by show _ = _; rw [List.take_add_one, hx]; simp only [Option.toList_some, List.flatMap_append, List.flatMap_cons, List.flatMap_nil, List.append_nil, List.append_assoc]
          have hsx := SK.out _ (List.getElem_mem hjt)
          have hix := HI.out _ (List.getElem_mem hjt)
          have hln : Hid ((he ++ (K.take j).flatMap kidI).length ≤ 980020) := by show _ ≤ _; rw [List.length_append]; have := hdl2.out; have := FK.out j; omega
          generalize K[j] = x at *
          obtain ⟨xk, xid⟩ := x
          have e1 : off + j * 2 + 0 = off + j * 2 := rfl
          rw [e1] at z0
          dsimp only at z0 z1 hsx hd2 hix
          obtain ⟨idn, hidn⟩ : ∃ m : Nat, xid = (m : Int) := ⟨xid.toNat, by omega⟩
          subst hidn
          have hid2 : idn < 18446744073709551616 := by omega
          have ql0 := Lib.hid (textI_len2 (s := xk) (by omega))
          obtain ⟨bs, hbs⟩ : ∃ x, x = he ++ (K.take j).flatMap kidI := ⟨_, rfl⟩
          rw [← hbs] at hW hd2 hln
          clear hbs hc hx hrg hbl hix
          have hN := Lib.hid (blk_new wr (.cells #[.string xk, .int .u64 (idn : Int)] 109))
          have hWa := Lib.hid (hW.out.below (bl_alloc (Below.refl _ _) (.cells #[.string xk, .int .u64 (idn : Int)] 109)))
          have hBa := Lib.hid (bl_alloc hb.out (.cells #[.string xk, .int .u64 (idn : Int)] 109))
          have n35 : Hid (109 ≠ 5 ∧ 109 ≠ 216) := by show _ ∧ _; decide
          go_wp2_with fail
          refine (wText_calls w1.heap.size _ w1.heap.size bs xk (by omega) (by have := hln.out; omega) hWa.out).mono ?_
          rintro e y1 ⟨rfl, hW1, hb1, ht1⟩
          have W1' := Lib.hid (hW1.below (bl_alloc (Below.refl _ _) (.cells #[.int .u64 (idn : Int)] 28)))
          have D1 := Lib.hid (bl_alloc (hBa.out.trans hb1) (.cells #[.int .u64 (idn : Int)] 28))
          have N1 := Lib.hid (ht1 _ n35.out.1 n35.out.2 _ _ _ hN.out)
          have g1 : y1.cell? ⟨wr.heap.size, 1, none⟩ = some (.int .u64 (idn : Int)) := by rw [blk_cell N1.out]; rfl
          have gl := blk_lt N1.out
          have p0 : Hid ((y1.alloc (.cells #[.int .u64 (idn : Int)] 28)).cell? ⟨y1.heap.size, 0, none⟩ = some (.int .u64 (idn : Int))) := wr_cell (blk_new y1 _)
          have z2 : Hid (y1.heap.size < (y1.alloc (.cells #[.int .u64 (idn : Int)] 28)).heap.size) := by show _ < _; simp
          clear hW1 hb1 ht1 z0 z1
          go_wp2_with fail
          refine (wNum_calls w1.heap.size _ w1.heap.size _ y1.heap.size idn hid2 (by have := hln.out; have := ql0.out; simp only [List.length_append]; omega) W1'.out p0.out z2.out).mono ?_
          rintro e y2 ⟨rfl, hW2, hb2, ht2⟩
          have W2' := Lib.hid hW2
          have D2 := Lib.hid (D1.out.trans hb2)
          clear hW2 hb2 ht2 g1 gl p0 z2
          go_wp2
          go_roundg n'
          case measure => omega
          case rel =>
            refine ⟨j + 1, by go_num, by omega, ?_, D2.out⟩
            show WrAt _ _ _ _
            rw [hd2.out]
            have := W2'.out
            unfold kidI
            rw [Int.toNat_natCast]
            simpa only [List.append_assoc] using this
        · have hjj : ¬ (j : Int) < (K.length : Int) := by omega
          rw [List.take_of_length_le (by omega)] at hW
          have hdl3 : Hid ((he ++ K.flatMap kidI).length ≤ 980020) := by show _ ≤ _; rw [List.length_append]; have := hdl2.out; have := FK.out K.length; rw [List.take_length] at this; omega
          obtain ⟨hf, hhf⟩ : ∃ x, x = he ++ K.flatMap kidI := ⟨_, rfl⟩
          rw [← hhf] at hW hv hdl3
          clear hhf hjt
          have B4 := Lib.hid (bl_then B1.out hqw.out hb.out)
          have hqb : Hid (w.heap.size ≤ wr.heap.size) := by show _ ≤ _; exact Nat.le_trans hqw.out hb.out.size
          go_wp2_with fail
          refine (wBytes_calls w1.heap.size _ w1.heap.size _ (by have := hdl3.out; omega) hW.out).mono ?_
          rintro e w3 ⟨v, rfl, ho, hb3⟩
          have B3 := Lib.hid (bl_then B4.out hqb.out hb3)
          obtain ⟨A9, c9, rfl, -, -, -, -⟩ := ho.rd u8ok
          have HO := Lib.hid (ho.mono hqb.out)
          clear ho hb3
          by_cases hbig : 131072 < hf.length
          · have hd9 : decide ((131072 : Int) < (hf.length : Int)) = true := decide_eq_true (by omega)
            have hd8 : (131072 : Int) < (hf.length : Int) := by omega
            rw [if_pos hbig] at hv
            clear hbig
            go_wp2
            go_ret2
            exact ⟨.slice none 0 0, by rw [hv.out]; rfl, by rw [hv.out]; exact Own.nil, by first | exact B3.out | (rw [← hq]; exact B3.out)⟩
          · have hd9 : decide ((131072 : Int) < (hf.length : Int)) = false := decide_eq_false (by omega)
            have hd8 : ¬ (131072 : Int) < (hf.length : Int) := by omega
            rw [if_neg hbig] at hv
            clear hbig
            go_wp2
            go_ret2
            exact ⟨_, by rw [hv.out]; rfl, by rw [hv.out]; first | exact HO.out | (rw [← hq]; exact HO.out), by first | exact B3.out | (rw [← hq]; exact B3.out)⟩
end Go.Proofs.YtikgplhcadomcaaGreat
