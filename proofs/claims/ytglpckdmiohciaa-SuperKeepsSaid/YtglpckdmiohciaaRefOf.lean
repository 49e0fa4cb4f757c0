/- the reference's SuperOf -/
import Derived.Test.YtglpckdmiohciaaOf
import Derived.Test.YtglpckdmiohciaaRefSuper
namespace Go.Proofs.Ytglpckdmiohciaa
open Go.RowKit
set_option linter.unusedVariables false
set_option linter.unusedSimpArgs false
theorem refNumber_still (w : World) (A : Option Addr) (c n : Nat) (xs : List Int) (hn : xs.length = n) (hl : xs.length ≤ 8) (hx : byteL xs) (h : Rd by1 1 w A xs) :
    Calls Try.prog 80 #[.slice A n c] w fun e w' => e = .returned (.int .u64 (num xs)) ∧ w' = w := by
  subst hn
  exact (refNumber_calls w A c xs hl hx h).mono fun _ _ ⟨h1, h2⟩ => ⟨h1, h2.symm⟩
theorem refNumber_at (W : World) (g off c : Nat) (b : List Int) (j n : Nat) (m : Int) (hX : byteL b) (hl : b.length = 32) (hj : j + n ≤ 32) (hn : n ≤ 8) (hm : num ((b.drop j).take n) = m) (h : Hid (Rd by1 1 W (some ⟨g, off, none⟩) b)) :
    Calls Try.prog 80 #[.slice (some ⟨g, off + j, none⟩) n c] W fun e w' => e = .returned (.int .u64 m) ∧ W = w' := by
  subst hm
  have h1 : Rd by1 1 W (some ⟨g, off + j * 1, none⟩) (b.drop j) := Rd.drop j h.out
  rw [Nat.mul_one] at h1
  exact (refNumber_still W _ c n _ (by simp [hl]; omega) (by simp [hl]; omega) ((hX.drop j).take n) (h1.take n)).mono fun _ _ ⟨a, b⟩ => ⟨a, b.symm⟩
theorem refNumber_at0 (W : World) (g off c : Nat) (b : List Int) (n : Nat) (m : Int) (hX : byteL b) (hl : b.length = 32) (hn : n ≤ 8) (hm : num (b.take n) = m) (h : Hid (Rd by1 1 W (some ⟨g, off, none⟩) b)) :
    Calls Try.prog 80 #[.slice (some ⟨g, off, none⟩) n c] W fun e w' => e = .returned (.int .u64 m) ∧ W = w' := refNumber_at W g off c b 0 n m hX hl (by omega) hn hm h
theorem own_put {base e : Nat} {w : World} {v : Value} {s : Sup} (h : Own by1 1 e base w v (put s)) : ∃ g c, v = .slice (some ⟨g, 0, none⟩) 32 c ∧ Rd by1 1 w (some ⟨g, 0, none⟩) (put s) := by
  have hl := put_len s
  rcases h.2 with ⟨rfl, h0⟩ | ⟨g, cap, cur, rfl, hb, r⟩
  · omega
  · obtain ⟨_, _, _, h3, _⟩ := Own.rd' by1ok h
    exact ⟨g, cap, by rw [hl], h3⟩
set_option maxHeartbeats 4000000 in
set_option maxRecDepth 100000 in
theorem refOf_calls (w : World) (A : Option Addr) (c : Nat) (b : List Int) (hc : b.length ≤ c) (hx : byteL b) (h : Rd by1 1 w A b) :
    Calls Try.prog 25 #[.slice A b.length c] w fun e w' => e = .returned (.tuple #[supV (ofB b), .bool (decide (isSup b))]) ∧ Below w.heap.size w w' := by
  have HR := Lib.hid h
  have HX := Lib.hid hx
  clear h hx
  go_enter Try.func25, Try.ntmps25
  rcases Decidable.em (b.length = 32) with hl | hl
  · have hl2 : ((b.length : Int) != 32) = false := by simpa using (show (b.length : Int) = 32 by omega)
    have i1 : (8 : Int) ≤ c := by omega
    have i2 : (12 : Int) ≤ c := by omega
    have i3 : (16 : Int) ≤ c := by omega
    have i4 : (20 : Int) ≤ c := by omega
    rcases HR.out with h0 | ⟨g, off, rfl, hbl, hcell⟩
    · simp [h0] at hl
    clear hcell
    have hR1 : Hid (Rd by1 1 (w.alloc (.cells #[.int .u64 0, .int .u32 0, .int .u32 0, .int .u32 0] 37)) (some ⟨g, off, none⟩) b) := rd_alloc HR _
    obtain ⟨n1, hn1⟩ : ∃ n, num (b.take 8) = n := ⟨_, rfl⟩
    obtain ⟨n2, hn2⟩ : ∃ n, num ((b.drop 8).take 4) = n := ⟨_, rfl⟩
    obtain ⟨n3, hn3⟩ : ∃ n, num ((b.drop 12).take 4) = n := ⟨_, rfl⟩
    obtain ⟨n4, hn4⟩ : ∃ n, num ((b.drop 16).take 4) = n := ⟨_, rfl⟩
    have hs : Hid (supOf b = ⟨n1, n2, n3, n4⟩) := by show _ = _; simp [supOf, hn1, hn2, hn3, hn4]
    have hok : Sup.ok ⟨n1, n2, n3, n4⟩ := hs.out ▸ supOf_ok HX.out hl
    have HOK := Lib.hid hok
    obtain ⟨⟨a0, a1⟩, ⟨b0, b1⟩, ⟨c0, c1⟩, ⟨d0, d1⟩⟩ := hok
    simp only at a0 a1 b0 b1 c0 c1 d0 d1
    have q1 := Lib.hid (fun W => refNumber_at0 W g off c b 8 n1 HX.out hl (by omega) hn1)
    have q2 := Lib.hid (fun W => refNumber_at W g off (c - 8) b 8 4 n2 HX.out hl (by omega) (by omega) hn2)
    have q3 := Lib.hid (fun W => refNumber_at W g off (c - 12) b 12 4 n3 HX.out hl (by omega) (by omega) hn3)
    have q4 := Lib.hid (fun W => refNumber_at W g off (c - 16) b 16 4 n4 HX.out hl (by omega) (by omega) hn4)
    clear hn1 hn2 hn3 hn4
    have k1 : ¬ c = 8 := by omega
    have k2 : ¬ c = 12 := by omega
    have k3 : ¬ c = 16 := by omega
    have v2 := wrap32 n2 b0 b1
    have v3 := wrap32 n3 c0 c1
    have v4 := wrap32 n4 d0 d1
    rw [hl]
    go_upto_region 3 with fail
    generalize hw1 : w.alloc (.cells #[.int .u64 0, .int .u32 0, .int .u32 0, .int .u32 0] 37) = w1 at *
    go_cut [4] (fun s4 wx => s4 = .pointer (some ⟨w1.heap.size, 0, none⟩) ∧ wx = (w1.alloc (.cells #[.int .u64 n1, .int .u32 n2, .int .u32 n3, .int .u32 n4] 37)).drew)
    case first =>
      go_region_held3 (fun w' => Hid (Rd by1 1 w' (some ⟨g, off, none⟩) b))
        (first | exact hR1 | assumption | exact rd_alloc (by assumption) _)
        (first 
          | (with_reducible refine (q1.out _ (by assumption)).mono ?_; rintro e w' ⟨rfl, rfl⟩)
          | (with_reducible refine (q2.out _ (by assumption)).mono ?_; rintro e w' ⟨rfl, rfl⟩)
          | (with_reducible refine (q3.out _ (by assumption)).mono ?_; rintro e w' ⟨rfl, rfl⟩)
          | (with_reducible refine (q4.out _ (by assumption)).mono ?_; rintro e w' ⟨rfl, rfl⟩))
      all_goals (go_wp2_with fail; go_meet; exact ⟨rfl, rfl⟩)
    case rest =>
      obtain ⟨rfl, rfl⟩ := hcut
      clear q1 q2 q3 q4 k1 k2 k3 v2 v3 v4 i1 i2 i3 i4
      have hR2 := rd_drew (rd_alloc hR1 (.cells #[.int .u64 n1, .int .u32 n2, .int .u32 n3, .int .u32 n4] 37))
      have hB2 : Hid (Below w.heap.size w (w1.alloc (.cells #[.int .u64 n1, .int .u32 n2, .int .u32 n3, .int .u32 n4] 37)).drew) := by
        show Below _ _ _
        subst hw1
        exact (bl_alloc (bl_alloc (Below.refl _ _) _) _).drew
      have hX2 : Hid ((w1.alloc (.cells #[.int .u64 n1, .int .u32 n2, .int .u32 n3, .int .u32 n4] 37)).drew.heap[w.heap.size]? = some (.cells #[.int .u64 0, .int .u32 0, .int .u32 0, .int .u32 0] 37 (0, 0))) := by
        show _ = _
        subst hw1
        exact blk_drew (blk_alloc (blk_new _ _) _)
      have hY2 : Hid ((w1.alloc (.cells #[.int .u64 n1, .int .u32 n2, .int .u32 n3, .int .u32 n4] 37)).drew.heap[w1.heap.size]? = some (.cells #[.int .u64 n1, .int .u32 n2, .int .u32 n3, .int .u32 n4] 37 (0, 0))) := blk_drew (blk_new _ _)
      have hgt : w.heap.size < w1.heap.size := by rw [← hw1]; exact (show w.heap.size < (w.heap.push _).size by rw [Array.size_push]; omega)
      generalize (w1.alloc (.cells #[.int .u64 n1, .int .u32 n2, .int .u32 n3, .int .u32 n4] 37)).drew = w2 at *
      obtain ⟨y0, y1, y2, y3⟩ := sup_cells hY2.out
      obtain ⟨x0, x1, x2, x3⟩ := sup_cells hX2.out
      have xf := fun i => blk_free hX2.out i
      have hlt2 := blk_lt hY2.out
      have hlt3 := blk_lt hX2.out
      generalize w1.heap.size = g4 at *
      clear hw1
      rcases Decidable.em (n1 = 0) with he | he
      · have he1 : (n1 == 0) = true := by simpa using he
        have hns : Hid (¬ isSup b) := fun e => e.2.1 (by rw [hs.out]; exact he)
        go_wp2_with fail
        go_quiet (fail)
        go_wp2
        have hz : ofB b = zeroSup := if_neg hns.out
        have hd : decide (isSup b) = false := by simpa using hns.out
        refine ret_row_tmp #[.int .u64 0, .int .u32 0, .int .u32 0, .int .u32 0] (g := w.heap.size) (by rfl) (by rfl) Try.underlying37 (by rfl) rfl (by kernel_rfl) (rowOf_blk (blk_set (blk_set (blk_set (blk_set (blk_drewN hX2.out _) 0 _) 1 _) 2 _) 3 _)) ?_
        rw [hz, hd]
        exact ⟨rfl, bl_set (bl_set (bl_set (bl_set (bl_drewN hB2.out _) (Nat.le_refl _) _) (Nat.le_refl _) _) (Nat.le_refl _) _) (Nat.le_refl _) _⟩
      · have he1 : (n1 == 0) = false := by simpa using he
        have hS : Hid (∀ W, Hid (Below w2.heap.size w2 W) → W.cell? ⟨g4, 0, none⟩ = some (.int .u64 n1) ∧ W.cell? ⟨g4, 1, none⟩ = some (.int .u32 n2) ∧ W.cell? ⟨g4, 2, none⟩ = some (.int .u32 n3) ∧ W.cell? ⟨g4, 3, none⟩ = some (.int .u32 n4) ∧
            (convert 38 9 (.slice (some ⟨g, off, none⟩) 32 c)).run Try.prog W = .ok (.string (strOfNums b)) W ∧ Hid (Below w2.heap.size w2 W)) := by
          intro W hW
          obtain ⟨a, b, c, d⟩ := sup_cells (blk_below hW.out hY2.out hlt2)
          exact ⟨a, b, c, d, string_of_rd _ hl (hR2.out.below hW.out (Nat.le_refl _)), hW⟩
        have hb0 : Hid (Below w2.heap.size w2 w2) := Below.refl _ _
        have hb1 : Hid (Below w2.heap.size w2 w2.drew) := (Below.refl _ _).drew
        have hput : Hid (∀ W : World, Calls Try.prog 27 #[.agg #[.int .u64 n1, .int .u32 n2, .int .u32 n3, .int .u32 n4]] W fun e w' => ∃ g c5, e = .returned (.slice (some ⟨g, 0, none⟩) 32 c5) ∧
            (convert 38 9 (.slice (some ⟨g, 0, none⟩) 32 c5)).run Try.prog w' = .ok (.string (strOfNums (put ⟨n1, n2, n3, n4⟩))) w' ∧ Below W.heap.size W w') := fun W =>
          (refSuper_calls W ⟨n1, n2, n3, n4⟩ HOK.out).mono fun _ _ ⟨v, a, b, d⟩ => by
            obtain ⟨g, c5, e1, e2⟩ := own_put b
            subst e1
            exact ⟨g, c5, a, string_of_rd c5 (put_len _) e2, d⟩
        obtain ⟨r, hr, hr2⟩ : ∃ r, (!((strOfNums (put ⟨n1, n2, n3, n4⟩)).toList == (strOfNums b).toList)) = r ∧ Hid (isSup b ↔ r = false) := by
          refine ⟨_, rfl, ?_⟩
          show isSup b ↔ _
          rw [sup_same HX.out (put_byte ⟨n1, n2, n3, n4⟩), ← hs.out]
          exact ⟨fun e => e.2.2, fun e => ⟨hl, by rw [hs.out]; exact he, e⟩⟩
        go_upto_region 4 with fail
        go_cut [35] (fun s35 wx => s35 = .bool r ∧ Hid (Below w2.heap.size w2 wx))
        case first =>
          have cvb0 := (hS.out _ hb1).2.2.2.2.1
          go_region_with (go_at_call 27; with_reducible refine (hput.out _).mono ?_; rintro e w3 ⟨g5, c5, rfl, cv3, hb3⟩; have hb4 := bl_thenH hb1 hb3; have cvb := (hS.out _ hb4).2.2.2.2.1)
          all_goals (go_wp2_with fail; go_meet; exact ⟨rfl, by assumption⟩)
        case rest =>
          obtain ⟨rfl, hb3⟩ := hcut
          have hX3 := Lib.hid (blk_below hb3.out hX2.out hlt3)
          have hY3 := Lib.hid (blk_below hb3.out hY2.out hlt2)
          have hB3 := Lib.hid (bl_then hB2.out hB2.out.size hb3.out)
          clear hb0 hb1 hS hput x0 x1 x2 x3 xf y0 y1 y2 y3 hr
          obtain ⟨y0, y1, y2, y3⟩ := sup_cells hY3.out
          obtain ⟨x0, x1, x2, x3⟩ := sup_cells hX3.out
          have xf := fun i => blk_free hX3.out i
          cases r with
          | true =>
            have hns : Hid (¬ isSup b) := fun e => by have := hr2.out.1 e; cases this
            go_wp2
            have hz : ofB b = zeroSup := if_neg hns.out
            have hd : decide (isSup b) = false := by simpa using hns.out
            refine ret_row_tmp #[.int .u64 0, .int .u32 0, .int .u32 0, .int .u32 0] (g := w.heap.size) (by rfl) (by rfl) Try.underlying37 (by rfl) rfl (by kernel_rfl) (rowOf_blk (blk_set (blk_set (blk_set (blk_set hX3.out 0 _) 1 _) 2 _) 3 _)) ?_
            rw [hz, hd]
            exact ⟨rfl, bl_set (bl_set (bl_set (bl_set hB3.out (Nat.le_refl _) _) (Nat.le_refl _) _) (Nat.le_refl _) _) (Nat.le_refl _) _⟩
          | false =>
            have hys : Hid (isSup b) := hr2.out.2 rfl
            go_wp2
            have hz : ofB b = ⟨n1, n2, n3, n4⟩ := (if_pos hys.out).trans hs.out
            have hd : decide (isSup b) = true := by simpa using hys.out
            refine ret_row_tmp #[.int .u64 n1, .int .u32 n2, .int .u32 n3, .int .u32 n4] (g := w.heap.size) (by rfl) (by rfl) Try.underlying37 (by rfl) rfl (by kernel_rfl) (rowOf_blk (blk_set (blk_set (blk_set (blk_set hX3.out 0 _) 1 _) 2 _) 3 _)) ?_
            rw [hz, hd]
            exact ⟨rfl, bl_set (bl_set (bl_set (bl_set hB3.out (Nat.le_refl _) _) (Nat.le_refl _) _) (Nat.le_refl _) _) (Nat.le_refl _) _⟩
  · have hl2 : ((b.length : Int) != 32) = true := by simpa using (show ¬ (b.length : Int) = 32 by omega)
    go_wp2
    have hns : ¬ isSup b := fun e => hl e.1
    have hz : ofB b = zeroSup := if_neg hns
    have hd : decide (isSup b) = false := by simpa using hns
    refine ret_row_tmp #[.int .u64 0, .int .u32 0, .int .u32 0, .int .u32 0] (g := w.heap.size) (by rfl) (by rfl) Try.underlying37 (by rfl) rfl (by kernel_rfl) (rowOf_new _ _ _ _) ?_
    rw [hz, hd]
    exact ⟨rfl, bl_alloc (Below.refl _ _) _⟩
end Go.Proofs.Ytglpckdmiohciaa
