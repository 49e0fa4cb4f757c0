/- extent.Free: within, meets, behind. -/
import Derived.Test.YtglpckdmiohciaaExt1
import Derived.Deep.RegionLaw
import Derived.Deep.RegionWith
namespace Go.Proofs.Ytglpckdmiohciaa
open Go.RowKit
set_option linter.unusedVariables false
set_option linter.unusedSimpArgs false
set_option maxRecDepth 100000 in
set_option maxHeartbeats 4000000 in
theorem within_calls (w : World) (s r : Span) (hs : s.fits) (hr : r.fits) : Calls Try.prog 99 #[.agg #[.int .i64 s.start, .int .i64 s.pages], .agg #[.int .i64 r.start, .int .i64 r.pages]] w fun e w' => e = .returned (.bool (within s r)) ∧ Below w.heap.size w w' := by
  obtain ⟨a, b⟩ := s
  obtain ⟨c, d⟩ := r
  have hS : Hid (Num (a + b)) := hs
  have hR : Hid (Num (c + d)) := hr
  clear hs hr
  obtain ⟨W1, hW1⟩ : ∃ W, W = (w.alloc (.cells #[.int .i64 a, .int .i64 b] 153)).alloc (.cells #[.int .i64 c, .int .i64 d] 90) := ⟨_, rfl⟩
  have hb1 : Hid (Below w.heap.size w W1) := by show Below _ _ _; rw [hW1]; exact bl_alloc (bl_alloc (Below.refl _ w) _) _
  have hx : Hid (W1.heap[w.heap.size]? = some (.cells #[.int .i64 a, .int .i64 b] 153 (0, 0))) := hW1 ▸ blk_alloc (blk_new w _) _
  have hy : Hid (W1.heap[w.heap.size + 1]? = some (.cells #[.int .i64 c, .int .i64 d] 90 (0, 0))) := by
    show _ = _
    rw [hW1]
    have := blk_new (w.alloc (.cells #[.int .i64 a, .int .i64 b] 153)) (.cells #[.int .i64 c, .int .i64 d] 90)
    rw [World.size_alloc] at this
    exact this
  have hS1 : Hid (∀ W, Below W1.heap.size W1 W → W.cell? ⟨w.heap.size, 0, none⟩ = some (.int .i64 a) ∧ W.cell? ⟨w.heap.size, 1, none⟩ = some (.int .i64 b) ∧ W.cell? ⟨w.heap.size + 1, 0, none⟩ = some (.int .i64 c) ∧ W.cell? ⟨w.heap.size + 1, 1, none⟩ = some (.int .i64 d)) := fun W hW => by
    have q1 := span_at (s := ⟨a, b⟩) (blk_below hW hx.out (blk_lt hx.out))
    have q2 := span_at (s := ⟨c, d⟩) (blk_below hW hy.out (blk_lt hy.out))
    exact ⟨q1.1, q1.2, q2.1, q2.2⟩
  have hb0 : Hid (Below W1.heap.size W1 W1.drew) := (Below.refl _ W1).drew
  clear hx hy
  go_enter Try.func99, Try.ntmps99
  rcases (Decidable.em (c ≤ a)) with h1 | h1
  · go_wp2_with fail
    rw [← hW1]
    clear hW1
    go_region_held3 (fun W => W.cell? ⟨w.heap.size, 0, none⟩ = some (.int .i64 a) ∧ W.cell? ⟨w.heap.size, 1, none⟩ = some (.int .i64 b) ∧ W.cell? ⟨w.heap.size + 1, 0, none⟩ = some (.int .i64 c) ∧ W.cell? ⟨w.heap.size + 1, 1, none⟩ = some (.int .i64 d))
      (first | exact hS1.out _ hb0.out | exact hS1.out _ B2.out | exact hS1.out _ B3.out)
      (first
        | (go_simp; go_at_call 104; with_reducible refine (end_calls _ a b hS.out).mono ?_; rintro e w2 ⟨rfl, b2⟩; have B2 := Lib.hid (bl_then hb0.out hb0.out.size b2); clear b2)
        | (go_simp; go_at_call 104; with_reducible refine (end_calls _ c d hR.out).mono ?_; rintro e w3 ⟨rfl, b3⟩; have B3 := Lib.hid (bl_then B2.out B2.out.size b3); clear b3))
    all_goals
      go_wp2
      go_ret
      exact ⟨ret_bool (by simp [within, h1]), bl_then hb1.out hb1.out.size B3.out⟩
  · have d1 : decide (c ≤ a) = false := by simpa using h1
    go_wp2_with fail
    rw [← hW1]
    clear hW1
    obtain ⟨y0, y1, y2, y3⟩ := hS1.out _ (Below.refl _ W1)
    first
    | go_region_law (fail)
    | fail
    all_goals
      go_wp2
      go_ret
      exact ⟨ret_bool (by simp [within]; omega), bl_then hb1.out hb1.out.size hb0.out⟩
set_option maxRecDepth 100000 in
set_option maxHeartbeats 4000000 in
theorem meets_calls (w : World) (s r : Span) (hs : s.fits) (hr : r.fits) : Calls Try.prog 100 #[.agg #[.int .i64 s.start, .int .i64 s.pages], .agg #[.int .i64 r.start, .int .i64 r.pages]] w fun e w' => e = .returned (.bool (meets s r)) ∧ Below w.heap.size w w' := by
  obtain ⟨a, b⟩ := s
  obtain ⟨c, d⟩ := r
  have hS : Hid (Num (a + b)) := hs
  have hR : Hid (Num (c + d)) := hr
  clear hs hr
  obtain ⟨W1, hW1⟩ : ∃ W, W = (w.alloc (.cells #[.int .i64 a, .int .i64 b] 153)).alloc (.cells #[.int .i64 c, .int .i64 d] 90) := ⟨_, rfl⟩
  have hb1 : Hid (Below w.heap.size w W1) := by show Below _ _ _; rw [hW1]; exact bl_alloc (bl_alloc (Below.refl _ w) _) _
  have hx : Hid (W1.heap[w.heap.size]? = some (.cells #[.int .i64 a, .int .i64 b] 153 (0, 0))) := hW1 ▸ blk_alloc (blk_new w _) _
  have hy : Hid (W1.heap[w.heap.size + 1]? = some (.cells #[.int .i64 c, .int .i64 d] 90 (0, 0))) := by
    show _ = _
    rw [hW1]
    have := blk_new (w.alloc (.cells #[.int .i64 a, .int .i64 b] 153)) (.cells #[.int .i64 c, .int .i64 d] 90)
    rw [World.size_alloc] at this
    exact this
  have hS1 : Hid (∀ W, Below W1.heap.size W1 W → W.cell? ⟨w.heap.size, 0, none⟩ = some (.int .i64 a) ∧ W.cell? ⟨w.heap.size, 1, none⟩ = some (.int .i64 b) ∧ W.cell? ⟨w.heap.size + 1, 0, none⟩ = some (.int .i64 c) ∧ W.cell? ⟨w.heap.size + 1, 1, none⟩ = some (.int .i64 d)) := fun W hW => by
    have q1 := span_at (s := ⟨a, b⟩) (blk_below hW hx.out (blk_lt hx.out))
    have q2 := span_at (s := ⟨c, d⟩) (blk_below hW hy.out (blk_lt hy.out))
    exact ⟨q1.1, q1.2, q2.1, q2.2⟩
  have hb0 : Hid (Below W1.heap.size W1 W1.drew) := (Below.refl _ W1).drew
  clear hx hy
  go_enter Try.func100, Try.ntmps100
  rcases (Decidable.em (c < a + b)) with h1 | h1
  · go_wp2_with fail
    rw [← hW1]
    clear hW1
    go_region_held3 (fun W => W.cell? ⟨w.heap.size, 0, none⟩ = some (.int .i64 a) ∧ W.cell? ⟨w.heap.size, 1, none⟩ = some (.int .i64 b) ∧ W.cell? ⟨w.heap.size + 1, 0, none⟩ = some (.int .i64 c) ∧ W.cell? ⟨w.heap.size + 1, 1, none⟩ = some (.int .i64 d))
      (first | exact hS1.out _ hb0.out | exact hS1.out _ B2.out | exact hS1.out _ B3.out)
      (first
        | (go_simp; go_at_call 104; with_reducible refine (end_calls _ a b hS.out).mono ?_; rintro e w2 ⟨rfl, b2⟩; have B2 := Lib.hid (bl_then hb0.out hb0.out.size b2); clear b2)
        | (go_simp; go_at_call 104; with_reducible refine (end_calls _ c d hR.out).mono ?_; rintro e w3 ⟨rfl, b3⟩; have B3 := Lib.hid (bl_then B2.out B2.out.size b3); clear b3))
    all_goals
      go_wp2
      go_ret
      exact ⟨ret_bool (by simp [meets, h1]), bl_then hb1.out hb1.out.size B3.out⟩
  · have d1 : decide (c < a + b) = false := by simpa using h1
    go_wp2_with fail
    rw [← hW1]
    clear hW1
    obtain ⟨y0, y1, y2, y3⟩ := hS1.out _ (Below.refl _ W1)
    refine wp_region_noPanic ?_
    refine wp_region_held_drew (S := fun W => Hid (Below W1.heap.size W1 W)) (by kernel_rfl) (hb0) (fun hHeld => ?_)
    refine wpAnyH_take (i := 0) (oi := ⟨some 5, _, _, _, _, _⟩) (v := ?_) rfl (by kernel_rfl) (by kernel_rfl) (by kernel_rfl) (fun _ _ _ h => h) (Or.inl ⟨by rfl, ?_⟩) (by assumption) ?_
    rotate_left
    · (intro w hSw; (try dsimp only at hSw); obtain ⟨y0, y1, y2, y3⟩ := hS1.out _ hSw.out; (go_simp <;> with_reducible rfl))
    try simp only [Act.put, List.setIfInBounds_toArray, List.set_cons_zero, List.set_cons_succ]
    refine wpAnyH_take (i := 1) (oi := ⟨some 6, _, _, _, _, _⟩) (v := ?_) rfl (by kernel_rfl) (by kernel_rfl) (by kernel_rfl) (fun _ _ _ h => h) (Or.inl ⟨by rfl, ?_⟩) (by assumption) ?_
    rotate_left
    · (intro w hSw; (try dsimp only at hSw); obtain ⟨y0, y1, y2, y3⟩ := hS1.out _ hSw.out; (go_simp <;> with_reducible rfl))
    try simp only [Act.put, List.setIfInBounds_toArray, List.set_cons_zero, List.set_cons_succ]
    refine wpAnyH_take (i := 2) (oi := ⟨some 7, _, _, _, _, _⟩) (v := ?_) rfl (by kernel_rfl) (by kernel_rfl) (by kernel_rfl) (fun _ _ _ h => h) (Or.inl ⟨by rfl, ?_⟩) (by assumption) ?_
    rotate_left
    · (intro w hSw; (try dsimp only at hSw); obtain ⟨y0, y1, y2, y3⟩ := hS1.out _ hSw.out; (go_simp <;> with_reducible rfl))
    try simp only [Act.put, List.setIfInBounds_toArray, List.set_cons_zero, List.set_cons_succ]
    refine wpAnyH_take (i := 3) (oi := ⟨some 8, _, _, _, _, _⟩) (v := ?_) rfl (by kernel_rfl) (by kernel_rfl) (by kernel_rfl) (fun _ _ _ h => h) (Or.inl ⟨by rfl, ?_⟩) (by assumption) ?_
    rotate_left
    · (intro w hSw; (try dsimp only at hSw); obtain ⟨y0, y1, y2, y3⟩ := hS1.out _ hSw.out; (go_simp <;> with_reducible rfl))
    try simp only [Act.put, List.setIfInBounds_toArray, List.set_cons_zero, List.set_cons_succ]
    refine wpAnyH_ready (rs := [4]) (by kernel_rfl) (by simp) ?_
    refine AllReadyH.cons rfl (fun K hK => ?_) AllReadyH.nil
    go_simp
    go_at_call 104
    with_reducible refine (end_calls _ a b hS.out).mono ?_
    rintro e w2 ⟨rfl, b2⟩
    have B2 : Hid (Below W1.heap.size W1 w2) := bl_then hb0.out hb0.out.size b2
    clear b2
    refine hK.out _ _ (by assumption) (fun _ => ?_)
    clear hK K
    try simp only [Act.put, List.setIfInBounds_toArray, List.set_cons_zero, List.set_cons_succ]
    refine wpAnyH_take (i := 5) (oi := ⟨some 10, _, _, _, _, _⟩) (v := ?_) rfl (by kernel_rfl) (by kernel_rfl) (by kernel_rfl) (fun _ _ _ h => h) (Or.inl ⟨by rfl, ?_⟩) (by assumption) ?_
    rotate_left
    · (intro w hSw; (try dsimp only at hSw); obtain ⟨y0, y1, y2, y3⟩ := hS1.out _ hSw.out; (go_simp <;> with_reducible rfl))
    try simp only [Act.put, List.setIfInBounds_toArray, List.set_cons_zero, List.set_cons_succ]
    refine wpAnyH_take (i := 6) (oi := ⟨some 11, _, _, _, _, _⟩) (v := ?_) rfl (by kernel_rfl) (by kernel_rfl) (by kernel_rfl) (fun _ _ _ h => h) (Or.inl ⟨by rfl, ?_⟩) (by assumption) ?_
    rotate_left
    · (intro w hSw; (try dsimp only at hSw); obtain ⟨y0, y1, y2, y3⟩ := hS1.out _ hSw.out; (go_simp <;> with_reducible rfl))
    try simp only [Act.put, List.setIfInBounds_toArray, List.set_cons_zero, List.set_cons_succ]
    refine wpAnyH_take (i := 7) (oi := ⟨some 12, _, _, _, _, _⟩) rfl (by kernel_rfl) (by kernel_rfl) (by kernel_rfl) (fun _ _ _ h => h) (Or.inr ⟨by rfl, rfl⟩) (by assumption) ?_
    try simp only [Act.put, List.setIfInBounds_toArray, List.set_cons_zero, List.set_cons_succ]
    refine wpAnyH_take (i := 8) (oi := ⟨some 13, _, _, _, _, _⟩) rfl (by kernel_rfl) (by kernel_rfl) (by kernel_rfl) (fun _ _ _ h => h) (Or.inr ⟨by rfl, rfl⟩) (by assumption) ?_
    try simp only [Act.put, List.setIfInBounds_toArray, List.set_cons_zero, List.set_cons_succ]
    refine wpAnyH_take (i := 9) (oi := ⟨some 14, _, _, _, _, _⟩) rfl (by kernel_rfl) (by kernel_rfl) (by kernel_rfl) (fun _ _ _ h => h) (Or.inr ⟨by rfl, rfl⟩) (by assumption) ?_
    try simp only [Act.put, List.setIfInBounds_toArray, List.set_cons_zero, List.set_cons_succ]
    refine wpAnyH_take (i := 10) (oi := ⟨some 15, _, _, _, _, _⟩) rfl (by kernel_rfl) (by kernel_rfl) (by kernel_rfl) (fun _ _ _ h => h) (Or.inr ⟨by rfl, rfl⟩) (by assumption) ?_
    try simp only [Act.put, List.setIfInBounds_toArray, List.set_cons_zero, List.set_cons_succ]
    refine wpAnyH_take (i := 11) (oi := ⟨some 16, _, _, _, _, _⟩) rfl (by kernel_rfl) (by kernel_rfl) (by kernel_rfl) (fun _ _ _ h => h) (Or.inr ⟨by rfl, rfl⟩) (by assumption) ?_
    try simp only [Act.put, List.setIfInBounds_toArray, List.set_cons_zero, List.set_cons_succ]
    refine wpAnyH_take (i := 12) (oi := ⟨some 17, _, _, _, _, _⟩) rfl (by kernel_rfl) (by kernel_rfl) (by kernel_rfl) (fun _ _ _ h => h) (Or.inr ⟨by rfl, rfl⟩) (by assumption) ?_
    try simp only [Act.put, List.setIfInBounds_toArray, List.set_cons_zero, List.set_cons_succ]
    refine wpAnyH_take (i := 13) (oi := ⟨some 18, _, _, _, _, _⟩) (v := ?_) rfl (by kernel_rfl) (by kernel_rfl) (by kernel_rfl) (fun _ _ _ h => h) (Or.inl ⟨by rfl, ?_⟩) (by assumption) ?_
    rotate_left
    · (intro w hSw; (try dsimp only at hSw); obtain ⟨y0, y1, y2, y3⟩ := hS1.out _ hSw.out; (go_simp <;> with_reducible rfl))
    try simp only [Act.put, List.setIfInBounds_toArray, List.set_cons_zero, List.set_cons_succ]
    refine wpAnyH_take (i := 14) (oi := ⟨some 4, _, _, _, _, _⟩) (v := ?_) rfl (by kernel_rfl) (by kernel_rfl) (by kernel_rfl) (fun _ _ _ h => h) (Or.inl ⟨by rfl, ?_⟩) (by assumption) ?_
    rotate_left
    · (intro w hSw; (try dsimp only at hSw); obtain ⟨y0, y1, y2, y3⟩ := hS1.out _ hSw.out; (go_simp <;> with_reducible rfl))
    try simp only [Act.put, List.setIfInBounds_toArray, List.set_cons_zero, List.set_cons_succ]
    refine wpAnyH_done (by kernel_rfl) ?_ _
    refine NoPanic.normal ?_
    all_goals
      go_wp2
      go_ret
      exact ⟨ret_bool (by simp [meets]; omega), bl_then hb1.out hb1.out.size B2.out⟩
set_option maxRecDepth 100000 in
set_option maxHeartbeats 4000000 in
theorem behind_calls (w : World) (s r : Span) (hs : s.fits) : Calls Try.prog 101 #[.agg #[.int .i64 s.start, .int .i64 s.pages], .agg #[.int .i64 r.start, .int .i64 r.pages]] w fun e w' => e = .returned (.bool (behind s r)) ∧ Below w.heap.size w w' := by
  obtain ⟨a, b⟩ := s
  obtain ⟨c, d⟩ := r
  have hS : Hid (Num (a + b)) := hs
  clear hs
  obtain ⟨W1, hW1⟩ : ∃ W, W = (w.alloc (.cells #[.int .i64 a, .int .i64 b] 153)).alloc (.cells #[.int .i64 c, .int .i64 d] 90) := ⟨_, rfl⟩
  have hb1 : Hid (Below w.heap.size w W1) := by show Below _ _ _; rw [hW1]; exact bl_alloc (bl_alloc (Below.refl _ w) _) _
  have hx : Hid (W1.heap[w.heap.size]? = some (.cells #[.int .i64 a, .int .i64 b] 153 (0, 0))) := hW1 ▸ blk_alloc (blk_new w _) _
  have hy : Hid (W1.heap[w.heap.size + 1]? = some (.cells #[.int .i64 c, .int .i64 d] 90 (0, 0))) := by
    show _ = _
    rw [hW1]
    have := blk_new (w.alloc (.cells #[.int .i64 a, .int .i64 b] 153)) (.cells #[.int .i64 c, .int .i64 d] 90)
    rw [World.size_alloc] at this
    exact this
  have hS1 : Hid (∀ W, Below W1.heap.size W1 W → W.cell? ⟨w.heap.size, 0, none⟩ = some (.int .i64 a) ∧ W.cell? ⟨w.heap.size, 1, none⟩ = some (.int .i64 b) ∧ W.cell? ⟨w.heap.size + 1, 0, none⟩ = some (.int .i64 c) ∧ W.cell? ⟨w.heap.size + 1, 1, none⟩ = some (.int .i64 d)) := fun W hW => by
    have q1 := span_at (s := ⟨a, b⟩) (blk_below hW hx.out (blk_lt hx.out))
    have q2 := span_at (s := ⟨c, d⟩) (blk_below hW hy.out (blk_lt hy.out))
    exact ⟨q1.1, q1.2, q2.1, q2.2⟩
  have hb0 : Hid (Below W1.heap.size W1 W1.drew) := (Below.refl _ W1).drew
  clear hx hy
  go_enter Try.func101, Try.ntmps101
  go_wp2_with fail
  rw [← hW1]
  clear hW1
  go_region_held3 (fun W => W.cell? ⟨w.heap.size, 0, none⟩ = some (.int .i64 a) ∧ W.cell? ⟨w.heap.size, 1, none⟩ = some (.int .i64 b) ∧ W.cell? ⟨w.heap.size + 1, 0, none⟩ = some (.int .i64 c))
    (first | exact ⟨(hS1.out _ hb0.out).1, (hS1.out _ hb0.out).2.1, (hS1.out _ hb0.out).2.2.1⟩ | exact ⟨(hS1.out _ B2.out).1, (hS1.out _ B2.out).2.1, (hS1.out _ B2.out).2.2.1⟩)
    (first | (go_simp; go_at_call 104; with_reducible refine (end_calls _ a b hS.out).mono ?_; rintro e w2 ⟨rfl, b2⟩; have B2 := Lib.hid (bl_then hb0.out hb0.out.size b2); clear b2))
  all_goals
    go_wp2
    go_ret
    exact ⟨ret_bool (by simp [behind]), bl_then hb1.out hb1.out.size B2.out⟩
end Go.Proofs.Ytglpckdmiohciaa
