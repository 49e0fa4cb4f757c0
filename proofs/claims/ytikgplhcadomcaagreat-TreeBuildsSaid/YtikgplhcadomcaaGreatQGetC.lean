/- tree.Get -/
import Derived.Test.YtikgplhcadomcaaGreatQGetP
namespace Go.Proofs.YtikgplhcadomcaaGreat
open Go.RowKit
set_option linter.unusedVariables false
set_option linter.unusedSimpArgs false
def GetTR (w w' : World) (x : Side) (e : Ending) : Prop := e = .returned (.tuple #[.string x.val, .bool x.has, .int .i64 0]) ∧ Below w.heap.size w w'
section
variable {w w2 : World} {s p g : Nat} {F : Nat → Prop} {C : List (List Int)}
set_option maxRecDepth 100000 in
set_option maxHeartbeats 4000000 in
theorem getSub_calls (h : TSt w s p g F C) (n : Nat) (k : Kid) (E : List Entry) (hn : n ≤ 20) (hs : SubT C n k E) (hr : RiseS (E.map Entry.key)) (hid : 1 ≤ k.id) (hids : ∀ (n : Nat) (ks : List Kid) (id : Int), tellT C id = some (NodeP.bytes ⟨((n + 1 : Nat) : Int), [], ks⟩) → NodeOk ⟨((n + 1 : Nat) : Int), [], ks⟩ → ∀ x ∈ ks, 1 ≤ x.id) (key : Str) :
    Calls Tryz.prog 71 #[.pointer (some ⟨s, 0, none⟩), .int .u64 k.id, .string key] w fun e w' => GetTR w w' (get E key) e := by
  obtain ⟨W1, hW1⟩ : ∃ W, w.alloc (.cells #[.string key] 9) = W := ⟨_, rfl⟩
  have hb1 : Below w.heap.size w W1 := by rw [← hW1]; exact bl_alloc (Below.refl _ w) _
  have hz1 : W1.heap[w.heap.size]? = some (.cells #[.string key] 9 (0, 0)) := by rw [← hW1]; exact blk_new w _
  obtain ⟨q, hq⟩ : ∃ q, w.heap.size = q := ⟨_, rfl⟩
  rw [hq] at hz1
  have Z1 := Lib.hid hz1
  have B1 := Lib.hid hb1
  have HT := Lib.hid (h.below hb1)
  have HIDS := Lib.hid hids
  have S0 : Hid (SubT C n k E ∧ RiseS (E.map Entry.key) ∧ 1 ≤ k.id) := ⟨hs, hr, hid⟩
  clear hb1 hz1 h hids hs hr hid
  go_enter Tryz.func71, Tryz.ntmps71
  go_wp2
  go_loopg [1] n (fun m v wr => ∃ (k : Kid) (pt : List Entry), v = .int .u64 k.id ∧ m ≤ n ∧ Hid (SubT C m k pt ∧ RiseS (pt.map Entry.key) ∧ 1 ≤ k.id) ∧ Hid (get pt key = get E key) ∧ Hid (Below W1.heap.size W1 wr))
  case atStart => exact ⟨k, E, rfl, Nat.le_refl _, S0.out, rfl, Below.refl _ _⟩
  case round =>
    clear S0 k
    obtain ⟨k, pt, rfl, hmn, hs, hge, hb⟩ := hrel
    have hid0 : (k.id == 0) = false := by rw [beq_eq_false_iff_ne]; have := hs.out.2.2; omega
    have hT2 := HT.out.below hb.out
    have BW := Lib.hid (bl_then B1.out B1.out.size hb.out)
    rcases gk with _ | m
    · obtain ⟨⟨h1, h2, h3⟩, h4, -⟩ := hs.out
      have HL := Lib.hid (treeLoad_calls hT2 k.id _ h1 h2)
      have hl100 := h1.le
      have HR := Lib.hid h4
      dsimp only at hl100
      clear h1 h2 h3 h4 hT2 hs
      go_wp2_with fail
      refine HL.out.mono ?_
      rintro e w3 ⟨a, rfl, hN3, -, hb3⟩
      obtain ⟨W4, hW4⟩ : ∃ W, w3.alloc (.cells #[.int .i64 0, .slice a.A pt.length a.ca, .slice a.B 0 a.cb] 98) = W := ⟨_, rfl⟩
      have hb4 : Below w3.heap.size w3 W4 := by rw [← hW4]; exact bl_alloc (Below.refl _ w3) _
      obtain ⟨q9, hq9⟩ : ∃ q, w3.heap.size = q := ⟨_, rfl⟩
      have hz4 : W4.heap[q9]? = some (.cells #[.int .i64 0, .slice a.A pt.length a.ca, .slice a.B 0 a.cb] 98 (0, 0)) := by rw [← hW4, ← hq9]; exact blk_new w3 _
      have B4 := Lib.hid (bl_then (bl_then BW.out BW.out.size hb3) (Nat.le_trans BW.out.size hb3.size) hb4)
      have zk := blk_cell (blk_below (bl_then (bl_then hb.out hb.out.size hb3) (Nat.le_trans hb.out.size hb3.size) hb4) Z1.out (blk_lt Z1.out)) 0
      have zkl := blk_lt (blk_below (bl_then (bl_then hb.out hb.out.size hb3) (Nat.le_trans hb.out.size hb3.size) hb4) Z1.out (blk_lt Z1.out))
      have Z4 := Lib.hid hz4
      have N4 := Lib.hid (hN3.below hb4)
      have x0 := blk_cell hz4 0
      have x1 := blk_cell hz4 1
      have xl := blk_lt hz4
      clear hN3 hb3 hb4 hz4 HL
      go_wp2_with fail
      refine (bsearch_calls W4 a.A a.ca pt key N4.out.hE (by omega) (rise_get HR.out)).mono ?_
      rintro e w5 ⟨i, hi, hlo, hhi, rfl, hb5⟩
      have B5 := Lib.hid (bl_then B4.out B4.out.size hb5)
      have Z5 := blk_below hb5 Z4.out (blk_lt Z4.out)
      have y1 := blk_cell Z5 1
      have yl := blk_lt Z5
      have hE5 := N4.out.hE.below hb5 (Nat.le_refl _)
      rcases bs_get hlo hhi HR.out with ⟨x, hx, hxk, hgx⟩ | ⟨hno, hgn⟩
      · have hd : (hasAt pt i key) = true := by unfold hasAt; rw [hx]; exact decide_eq_true hxk
        have hv : Hid (get E key = ⟨true, x.val⟩) := by show _ = _; rw [← hge.out, hgx]
        have hil := (List.getElem?_eq_some_iff.1 hx).1
        rcases hE5 with h0 | ⟨bb, off, hA, hlt, hcell⟩
        · dsimp only at h0; rw [h0] at hil; simp at hil
        have z1 := hcell i x hx 1 _ rfl
        have hii : (i : Int) < (pt.length : Int) := by omega
        have hiz : (0 : Int) ≤ (i : Int) := by omega
        have hbl : bb < w5.heap.size := hlt
        rw [hd]
        clear hcell hlt hlo hhi hb5 hxk hgx hd x0 x1 xl zk zkl hx
        go_wp2
        refine bodyPost_ret (results_tmp3 rfl _ _ _) rfl ?_
        exact ⟨by rw [hv.out]; rfl, B5.out⟩
      · have hv : Hid (get E key = ⟨false, ⟨#[]⟩⟩) := by show _ = _; rw [← hge.out, hgn]
        rw [hno]
        clear hlo hhi hb5 hno hgn x0 x1 xl zk zkl hE5
        go_wp2
        refine bodyPost_ret (results_tmp3 rfl _ _ _) rfl ?_
        exact ⟨by rw [hv.out]; rfl, B5.out⟩
    · obtain ⟨⟨ks, ps, h1, h2, h3, h5, h6, h7⟩, h4, -⟩ := hs.out
      have HL := Lib.hid (treeLoad_calls hT2 k.id _ h1 h2)
      have hk100 := h1.lk
      have hm20 : m ≤ 20 := by omega
      have HR : Hid (RiseS (ps.flatten.map Entry.key)) := by show RiseS _; rw [h6]; exact h4
      have HP : Hid (ks.length = ps.length ∧ ps.flatten = pt ∧ ∀ (i : Nat) k' p, ks[i]? = some k' → ps[i]? = some p → SubT C m k' p) := ⟨h5, h6, h7⟩
      have HKI := Lib.hid (HIDS.out m ks k.id h2 h1)
      have lv0 : (((m + 1 : Nat) : Int) == 0) = false := by rw [beq_eq_false_iff_ne]; omega
      have lv1 : ((m : Int) + 1 == 0) = false := by rw [beq_eq_false_iff_ne]; omega
      dsimp only at hk100
      clear h1 h2 h3 h4 h5 h6 h7 hT2 hs
      go_wp2_with fail
      refine HL.out.mono ?_
      rintro e w3 ⟨a, rfl, hN3, -, hb3⟩
      obtain ⟨W4, hW4⟩ : ∃ W, w3.alloc (.cells #[.int .i64 ((m : Int) + 1), .slice a.A 0 a.ca, .slice a.B ks.length a.cb] 98) = W := ⟨_, rfl⟩
      have hb4 : Below w3.heap.size w3 W4 := by rw [← hW4]; exact bl_alloc (Below.refl _ w3) _
      obtain ⟨q9, hq9⟩ : ∃ q, w3.heap.size = q := ⟨_, rfl⟩
      have hz4 : W4.heap[q9]? = some (.cells #[.int .i64 ((m : Int) + 1), .slice a.A 0 a.ca, .slice a.B ks.length a.cb] 98 (0, 0)) := by rw [← hW4, ← hq9]; exact blk_new w3 _
      have hbw4 := bl_then (bl_then hb.out hb.out.size hb3) (Nat.le_trans hb.out.size hb3.size) hb4
      have BW4 := Lib.hid hbw4
      have B4 := Lib.hid (bl_then (bl_then BW.out BW.out.size hb3) (Nat.le_trans BW.out.size hb3.size) hb4)
      have zq := blk_below hbw4 Z1.out (blk_lt Z1.out)
      have zk : W4.cell? ⟨q, 0, none⟩ = some (.string key) := by rw [blk_cell zq]; rfl
      have zkl := blk_lt zq
      have Z4 := Lib.hid hz4
      have N4 := Lib.hid (hN3.below hb4)
      have HIX := Lib.hid (indexK_calls W4 a.B a.cb ks key q N4.out.hK (by omega) zk zkl)
      have x0 := blk_cell hz4 0
      have x2 := blk_cell hz4 2
      have xl := blk_lt hz4
      clear hN3 hb3 hb4 hz4 HL hbw4 zq zk zkl
      go_wp2_with fail
      refine HIX.out.mono ?_
      rintro e w5 ⟨hix, hb5⟩
      have B5 := Lib.hid (bl_then B4.out B4.out.size hb5)
      have BW5 := Lib.hid (bl_then BW4.out BW4.out.size hb5)
      have Z5 := blk_below hb5 Z4.out (blk_lt Z4.out)
      have y2 := blk_cell Z5 2
      have yl := blk_lt Z5
      have hK5 := N4.out.hK.below hb5 (Nat.le_refl _)
      rcases hix with ⟨i, x, hx, hge2, hall, rfl⟩ | ⟨hall, rfl⟩
      · have hil := (List.getElem?_eq_some_iff.1 hx).1
        rcases hK5 with h0 | ⟨bb, off, hA, hlt, hcell⟩
        · dsimp only at h0; rw [h0] at hil; simp at hil
        have z1 := hcell i x hx 1 _ rfl
        have hii : (i : Int) < (ks.length : Int) := by omega
        have hiz : (0 : Int) ≤ (i : Int) := by omega
        have hin : ¬ (i : Int) < 0 := by omega
        have hbl : bb < w5.heap.size := hlt
        obtain ⟨p1, p2, p3⟩ := HP.out
        have hip : i < ps.length := by omega
        have hpi : ps[i]? = some ps[i] := List.getElem?_eq_getElem hip
        obtain ⟨r1, r2⟩ := sub_some p1 p3 HR.out hx hpi hge2 hall
        have NS : Hid ((SubT C m x ps[i] ∧ RiseS (ps[i].map Entry.key) ∧ 1 ≤ x.id) ∧ get ps[i] key = get E key) := ⟨⟨p3 i x _ hx hpi, r2, HKI.out x (List.mem_of_getElem? hx)⟩, by rw [← r1, p2, hge.out]⟩
        generalize ps[i] = pp at *
        clear hcell hlt hall hge2 hb5 r1 r2 p1 p2 p3 hx hpi x0 x2 xl
        go_wp2
        go_roundg m
        case measure => omega
        case rel => exact ⟨x, pp, rfl, by omega, NS.out.1, NS.out.2, BW5.out⟩
      · have hv : Hid (get E key = ⟨false, ⟨#[]⟩⟩) := by
          show _ = _
          obtain ⟨p1, p2, p3⟩ := HP.out
          rw [← hge.out, ← p2]
          exact sub_none p1 p3 HR.out hall
        clear hall hb5 x0 x2 xl hK5
        go_wp2
        refine bodyPost_ret (results_tmp3 rfl _ _ _) rfl ?_
        exact ⟨by rw [hv.out]; rfl, B5.out⟩
end
end Go.Proofs.YtikgplhcadomcaaGreat
