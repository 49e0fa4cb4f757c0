/- node: rows of children, Group -/
import Derived.Test.YtikgplhcadomcaaGreatQNr2
import Derived.Test.YtikgplhcadomcaaGreatKQ
namespace Go.Proofs.YtikgplhcadomcaaGreat
open Go.RowKit
set_option linter.unusedVariables false
set_option linter.unusedSimpArgs false
theorem infoKs : (Tryz.prog.info? 96).map (fun i => (i.zero, i.size, i.bytes)) = some (some (.slice none 0 0), 1, 24) := by kernel_rfl
set_option maxRecDepth 100000 in
set_option maxHeartbeats 4000000 in
theorem rowsK_calls (w : World) (A : Option Addr) (c : Nat) (E : List Kid) (hc : E.length ≤ c) (hbig : c ≤ 9223372036854775807) (hE : Rd Kid.enc 2 w A E) (sE : ∀ x ∈ E, x.last.size ≤ 1000000) (lv : Int) (gp : Nat) (hgp : w.cell? ⟨gp, 0, none⟩ = some (.int .i64 lv)) (hgl : gp < w.heap.size) (lE : E.length ≤ 1000000) :
    Calls Tryz.prog 112 #[.slice A E.length c, .func (.func 113) #[] #[.pointer (some ⟨gp, 0, none⟩)]] w fun e w' => RowsMd Kid.enc 2 96 w w' (splitAll (fun x => endsN lv x.last) E) e := by
  have HE := Lib.hid hE
  have SE := Lib.hid sE
  have HG : Hid (gp < w.heap.size ∧ w.cell? ⟨gp, 0, none⟩ = some (.int .i64 lv)) := ⟨hgl, hgp⟩
  clear hgl hgp
  clear hE sE
  go_enter Tryz.func112, Tryz.ntmps112
  go_wp2
  go_loopg [5, 6, 11] E.length (fun m v fr i wr => ∃ (k f : Nat) (rows : List (List Kid)), i = .int .i64 k ∧ fr = .int .i64 f ∧ k + m = E.length ∧ f ≤ k ∧ rows.length ≤ k ∧ (k = E.length → f = E.length) ∧ Hid (rows ++ rowsF (fun x => endsN lv x.last) ((E.drop f).take (k - f)) (E.drop k) = splitAll (fun x => endsN lv x.last) E) ∧ Hid (Rws Kid.enc 2 96 w.heap.size wr v rows) ∧ Hid (Below w.heap.size w wr))
  case atStart => exact ⟨0, 0, [], rfl, rfl, by omega, Nat.le_refl _, Nat.le_refl _, fun h => h, by show _ = _; simp [splitAll], Rws.nil, Below.refl _ _⟩
  case round =>
    obtain ⟨k, f, rows, rfl, rfl, hk, hfk, hrl, hend, hs, ho, hb⟩ := hrel
    by_cases hkn : k < E.length
    · obtain ⟨m', hm'⟩ : ∃ m', gk = m' + 1 := ⟨gk - 1, by omega⟩
      subst hm'
      have hki : (k : Int) < (E.length : Int) := by omega
      have hkz : (0 : Int) ≤ (k : Int) := by omega
      rcases HE.out with h0 | ⟨bb, off, rfl, hlt, hcell⟩
      · rw [h0] at hkn; simp at hkn
      have hxk : E[k]? = some E[k] := List.getElem?_eq_getElem hkn
      have hrg := Rd.range (HE.out.below hb.out (Nat.le_refl _)) hxk
      have z0 := hrg 0 _ rfl
      have z1 := hrg 1 _ rfl
      have hbl : bb < wr.heap.size := Nat.lt_of_lt_of_le hlt hb.out.size
      have hsx := SE.out _ (List.getElem_mem hkn)
      have hdk : Hid (E.drop k = E[k] :: E.drop (k + 1)) := List.drop_eq_getElem_cons hkn
      have htk : Hid ((E.drop f).take (k + 1 - f) = (E.drop f).take (k - f) ++ [E[k]]) := by
        show _ = _
        rw [show k + 1 - f = (k - f) + 1 by omega, List.take_add_one, List.getElem?_drop, show f + (k - f) = k by omega, hxk]; rfl
      generalize E[k] = x at *
      obtain ⟨xk, xv⟩ := x
      have e1 : off + k * 2 + 0 = off + k * 2 := rfl
      rw [e1] at z0
      dsimp only at z0 z1 hsx
      have ks : xk.size ≤ 9223372036854775807 := by omega
      clear hrg hcell hlt hxk
      obtain ⟨W3, hW3⟩ : ∃ W, wr.alloc (.cells #[.string xk, .int .u64 xv] 109) = W := ⟨_, rfl⟩
      have hb3 : Below wr.heap.size wr W3 := by rw [← hW3]; exact bl_alloc (Below.refl _ wr) _
      have hz3 : W3.heap[wr.heap.size]? = some (.cells #[.string xk, .int .u64 xv] 109 (0, 0)) := by rw [← hW3]; exact blk_new wr _
      have y0 := blk_cell hz3 0
      have y1 := blk_cell hz3 1
      have yl := blk_lt hz3
      have B3 := Lib.hid (bl_then hb.out hb.out.size hb3)
      have O3 := Lib.hid (ho.out.below hb3)
      have HG3 : Hid (gp < W3.heap.size ∧ W3.cell? ⟨gp, 0, none⟩ = some (.int .i64 lv)) := ⟨Nat.lt_of_lt_of_le HG.out.1 B3.out.size, (B3.out.cell (p := ⟨gp, 0, none⟩) HG.out.1).trans HG.out.2⟩
      clear hb3 hz3 ho
      by_cases hlast : k + 1 = E.length
      · have hlq : ((k : Int) == (E.length : Int) - 1) = true := by rw [beq_iff_eq]; omega
        have HL := Lib.hid hlast
        clear hlast
        have kb : (k : Int) + 1 ≤ (c : Int) := by omega
        have fb : (f : Int) ≤ (k : Int) + 1 := by omega
        have hz9 := Lib.hid B3.out.size
        have hne : Hid ((E.drop f).take (k + 1 - f) ≠ []) := by show _ ≠ _; rw [htk.out]; simp
        have hlen : Hid (((E.drop f).take (k + 1 - f)).length = k + 1 - f) := by show _ = _; rw [List.length_take, List.length_drop]; omega
        have hnr : Hid (Rd Kid.enc 2 W3 (some ⟨bb, off + f * 2, none⟩) ((E.drop f).take (k + 1 - f))) := ((HE.out.below B3.out (Nat.le_refl _)).drop f).take (k + 1 - f)
        have m1 : Hid ((([] : List Kid).length + (k + 1 - f)) * 24 ≤ 140737488355328) := by show _ ≤ _; simp; omega
        have m2 : Hid (([] : List Kid).length + (k + 1 - f) ≤ 140737488355328) := by show _ ≤ _; simp; omega
        have m3 : Hid ((rows.length + 1) * 24 ≤ 140737488355328) := by show _ ≤ _; omega
        have m4 : Hid (rows.length + 1 ≤ 140737488355328) := by show _ ≤ _; omega
        have tEn : Hid ((Value.agg #[.string ⟨#[]⟩, .int .u64 0]).cells.size = 2) := rfl
        have tEs : Hid ((Value.slice none 0 0).cells.size = 1) := rfl
        have hrl1 := Lib.hid hrl
        clear ks 
        go_wp2_with (at_builtin; first | (refine at_list rfl (fun K' hK' => op_ownN Kid.ok _ _ _ _ _ _ rfl Tryz.underlying96 infoKn tEn.out w.heap.size (.slice none 0 0) [] (some ⟨bb, off + f * 2, none⟩) (k + 1 - f) ((E.drop f).take (k + 1 - f)) (k + 1 - f) hlen.out hne.out rfl rfl Own.nil hnr.out hz9.out m1.out m2.out (fun g7 cap w7 ho7 hg7 hat7 hlt7 => hK' _ _ ?_)); obtain ⟨RW8, B8, z8, n8, hrow⟩ := made_row (T := 96) Kid.ok w.heap.size W3 w7 w g7 cap (k + 1 - f) rows u5 ((E.drop f).take (k + 1 - f)) O3.out B3.out hz9.out hg7 hat7 hlt7 ho7; clear ho7 hg7 hat7 hlt7; obtain ⟨vs, hO8, hvl8, hvs8⟩ := RW8; have O8 := Lib.hid hO8; have V8 := Lib.hid hvl8; have VS8 := Lib.hid hvs8; have m5 : Hid ((vs.length + 1) * 24 ≤ 140737488355328) := (by show _ ≤ _; rw [V8.out]; exact m3.out); have m6 : Hid (vs.length + 1 ≤ 140737488355328) := (by show _ ≤ _; rw [V8.out]; exact m4.out); have nn2 : Hid (([⟨some ⟨g7, 0, none⟩, k + 1 - f, cap⟩] : List RowV) ≠ []) := (by show _ ≠ _; simp); clear hO8 hvl8 hvs8) | (refine at_list rfl (fun K' hK' => op_ownN RowV.ok _ _ _ _ _ _ rfl Tryz.underlying120 infoKs tEs.out w.heap.size u5 vs (some ⟨w7.heap.size, 0, none⟩) 1 [⟨some ⟨g7, 0, none⟩, k + 1 - f, cap⟩] 1 rfl nn2.out rfl rfl O8.out n8.out z8.out m5.out m6.out (fun g8 cap8 w8 ho8 hg8 hat8 hlt8 => hK' _ _ ?_)); have P8 := Lib.hid (Rws.push (g := g8) (r := ⟨some ⟨g7, 0, none⟩, k + 1 - f, cap⟩) VS8.out V8.out ho8 hg8 rfl hat8 hrow.out); have B9 := Lib.hid (B8.out.grown hg8 z8.out (fun k e => (O8.out.lt _ e).1)); clear ho8 hg8 hat8 hlt8))
        clear m1 m2 m3 m4 m5 m6 hne hlen hnr
        go_roundg m'
        case measure => omega
        case rel =>
          refine ⟨k + 1, k + 1, rows ++ [(E.drop f).take (k + 1 - f)], by go_num, by go_num, by omega, Nat.le_refl _, ?_, fun h => h, ?_, P8.out, B9.out⟩
          · have := hrl1.out
            simp; omega
          · show _ = _
            have h := hs.out
            rw [hdk.out] at h
            rw [show E.drop (k + 1) = [] from by rw [HL.out]; exact List.drop_length, rowsF_last, ← htk.out] at h
            rw [show E.drop (k + 1) = [] from by rw [HL.out]; exact List.drop_length]
            rw [← h]; simp [rowsF]
      · have hlq : ((k : Int) == (E.length : Int) - 1) = false := by rw [beq_eq_false_iff_ne]; omega
        go_wp2_with fail
        refine (group1_calls _ lv gp xk xv ks (HG3.out.2) HG3.out.1).mono ?_
        rintro e w4 ⟨rfl, hb4⟩
        have B4 := Lib.hid (bl_then B3.out B3.out.size hb4)
        have O4 := Lib.hid (O3.out.below hb4)
        clear hb4 y0 y1 yl B3 O3
        rcases hq' : endsN lv xk with _ | _
        · have hq : Hid (endsN lv xk = false) := hq'
          clear hq'
          go_wp2
          go_roundg m'
          case measure => omega
          case rel =>
            refine ⟨k + 1, f, rows, by go_num, by go_num, by omega, by omega, by omega, fun h => by omega, ?_, O4.out, B4.out⟩
            show _ = _
            have h := hs.out
            rw [hdk.out, rowsF_step, if_neg (by rw [show (endsN lv (Kid.mk xk xv).last) = endsN lv xk from rfl, hq.out]; simp), ← htk.out] at h
            exact h
        · have hq : Hid (endsN lv xk = true) := hq'
          clear hq'
          have kb : (k : Int) + 1 ≤ (c : Int) := by omega
          have fb : (f : Int) ≤ (k : Int) + 1 := by omega
          have hz9 := Lib.hid B4.out.size
          have hne : Hid ((E.drop f).take (k + 1 - f) ≠ []) := by show _ ≠ _; rw [htk.out]; simp
          have hlen : Hid (((E.drop f).take (k + 1 - f)).length = k + 1 - f) := by show _ = _; rw [List.length_take, List.length_drop]; omega
          have hnr : Hid (Rd Kid.enc 2 w4 (some ⟨bb, off + f * 2, none⟩) ((E.drop f).take (k + 1 - f))) := ((HE.out.below B4.out (Nat.le_refl _)).drop f).take (k + 1 - f)
          have m1 : Hid ((([] : List Kid).length + (k + 1 - f)) * 24 ≤ 140737488355328) := by show _ ≤ _; simp; omega
          have m2 : Hid (([] : List Kid).length + (k + 1 - f) ≤ 140737488355328) := by show _ ≤ _; simp; omega
          have m3 : Hid ((rows.length + 1) * 24 ≤ 140737488355328) := by show _ ≤ _; omega
          have m4 : Hid (rows.length + 1 ≤ 140737488355328) := by show _ ≤ _; omega
          have tEn : Hid ((Value.agg #[.string ⟨#[]⟩, .int .u64 0]).cells.size = 2) := rfl
          have tEs : Hid ((Value.slice none 0 0).cells.size = 1) := rfl
          have hrl1 := Lib.hid hrl
          clear ks 
          go_wp2_with (at_builtin; first | (refine at_list rfl (fun K' hK' => op_ownN Kid.ok _ _ _ _ _ _ rfl Tryz.underlying96 infoKn tEn.out w.heap.size (.slice none 0 0) [] (some ⟨bb, off + f * 2, none⟩) (k + 1 - f) ((E.drop f).take (k + 1 - f)) (k + 1 - f) hlen.out hne.out rfl rfl Own.nil hnr.out hz9.out m1.out m2.out (fun g7 cap w7 ho7 hg7 hat7 hlt7 => hK' _ _ ?_)); obtain ⟨RW8, B8, z8, n8, hrow⟩ := made_row (T := 96) Kid.ok w.heap.size w4 w7 w g7 cap (k + 1 - f) rows u5 ((E.drop f).take (k + 1 - f)) O4.out B4.out hz9.out hg7 hat7 hlt7 ho7; clear ho7 hg7 hat7 hlt7; obtain ⟨vs, hO8, hvl8, hvs8⟩ := RW8; have O8 := Lib.hid hO8; have V8 := Lib.hid hvl8; have VS8 := Lib.hid hvs8; have m5 : Hid ((vs.length + 1) * 24 ≤ 140737488355328) := (by show _ ≤ _; rw [V8.out]; exact m3.out); have m6 : Hid (vs.length + 1 ≤ 140737488355328) := (by show _ ≤ _; rw [V8.out]; exact m4.out); have nn2 : Hid (([⟨some ⟨g7, 0, none⟩, k + 1 - f, cap⟩] : List RowV) ≠ []) := (by show _ ≠ _; simp); clear hO8 hvl8 hvs8) | (refine at_list rfl (fun K' hK' => op_ownN RowV.ok _ _ _ _ _ _ rfl Tryz.underlying120 infoKs tEs.out w.heap.size u5 vs (some ⟨w7.heap.size, 0, none⟩) 1 [⟨some ⟨g7, 0, none⟩, k + 1 - f, cap⟩] 1 rfl nn2.out rfl rfl O8.out n8.out z8.out m5.out m6.out (fun g8 cap8 w8 ho8 hg8 hat8 hlt8 => hK' _ _ ?_)); have P8 := Lib.hid (Rws.push (g := g8) (r := ⟨some ⟨g7, 0, none⟩, k + 1 - f, cap⟩) VS8.out V8.out ho8 hg8 rfl hat8 hrow.out); have B9 := Lib.hid (B8.out.grown hg8 z8.out (fun k e => (O8.out.lt _ e).1)); clear ho8 hg8 hat8 hlt8))
          clear m1 m2 m3 m4 m5 m6 hne hlen hnr
          go_roundg m'
          case measure => omega
          case rel =>
            refine ⟨k + 1, k + 1, rows ++ [(E.drop f).take (k + 1 - f)], by go_num, by go_num, by omega, Nat.le_refl _, ?_, fun h => h, ?_, P8.out, B9.out⟩
            · have := hrl1.out
              simp; omega
            · show _ = _
              have h := hs.out
              rw [hdk.out] at h
              rw [rowsF_step, if_pos hq.out, ← htk.out] at h
              rw [← h]; simp
    · have hkk : ¬ (k : Int) < (E.length : Int) := by omega
      have hr : Hid (rows = splitAll (fun x => endsN lv x.last) E) := by
        show _ = _
        have hkl : k = E.length := by omega
        have hf := hend hkl
        have := hs.out
        rw [hkl, hf, List.drop_length] at this
        rw [← this]; simp [rowsF]
      clear hkn hend hs
      go_wp2
      go_ret
      exact ⟨_, rfl, by rw [← hr.out]; exact ho.out, hb.out⟩
set_option maxRecDepth 100000 in
theorem group_calls (w : World) (A : Option Addr) (c : Nat) (E : List Kid) (hc : E.length ≤ c) (hbig : c ≤ 9223372036854775807) (hE : Rd Kid.enc 2 w A E) (sE : ∀ x ∈ E, x.last.size ≤ 1000000) (lv : Int) (lE : E.length ≤ 1000000) :
    Calls Tryz.prog 68 #[.int .i64 lv, .slice A E.length c] w fun e w' => RowsMd Kid.enc 2 96 w w' (splitAll (fun x => endsN lv x.last) E) e := by
  have hb0 : Below w.heap.size w (w.alloc (.cells #[.int .i64 lv] 3)) := bl_alloc (Below.refl _ w) _
  have HB := Lib.hid hb0
  have H := Lib.hid (rowsK_calls (w.alloc (.cells #[.int .i64 lv] 3)) A c E hc hbig (hE.below hb0 (Nat.le_refl _)) sE lv w.heap.size (by rw [blk_cell (blk_new w _)]; rfl) (blk_lt (blk_new w _)) lE)
  clear hE sE hb0
  go_enter Tryz.func68, Tryz.ntmps68
  go_wp2_with fail
  refine H.out.mono ?_
  rintro e w1 ⟨v, rfl, h1, h2⟩
  have H1 := Lib.hid (h1.mono HB.out.size)
  have H2 := Lib.hid (bl_then HB.out HB.out.size h2)
  clear h1 h2
  go_wp2
  go_ret
  exact ⟨v, rfl, H1.out, H2.out⟩
end Go.Proofs.YtikgplhcadomcaaGreat
