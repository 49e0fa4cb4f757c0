/- extent.Free: New, Copy; what a pointer that is none answers. -/
import Derived.Test.YtglpckdmiohciaaExtB
namespace Go.Proofs.Ytglpckdmiohciaa
open Go.RowKit
set_option linter.unusedVariables false
set_option linter.unusedSimpArgs false

def Fr.new (f n : Int) : Fr := ⟨max f 0, min n 16384, if max f 0 < min n 16384 then [⟨max f 0, min n 16384 - max f 0⟩] else []⟩
theorem Fr.new_ok {f n : Int} (hf : -9223372036854775808 ≤ f ∧ f ≤ 9223372036854775807) (hn : -9223372036854775808 ≤ n ∧ n ≤ 9223372036854775807) : (Fr.new f n).Ok := by
  refine ⟨by simp only [Fr.new]; omega, by simp only [Fr.new]; omega, by simp only [Fr.new]; omega, by simp only [Fr.new]; omega, ?_⟩
  simp only [Fr.new]
  split
  · exact ⟨by dsimp only; omega, by dsimp only; omega, by dsimp only; omega, trivial⟩
  · trivial
theorem run_maxE (n : Int) (w : World) : (Builtin.max_ #[3, 3] 3 #[.int .i64 n, .int .i64 0]).run Try.prog w = .ok (.int .i64 (max n 0)) w := run_max_n 0 n w
theorem run_minE (n : Int) (w : World) : (Builtin.min_ #[3, 3] 3 #[.int .i64 n, .int .i64 16384]).run Try.prog w = .ok (.int .i64 (min n 16384)) w := by
  rw [run_min_int2]
  congr 2
  split <;> omega
/-- A set in blocks that the call made is handed back. -/
def FreshR (w w' : World) (D : Fr) (e : Ending) : Prop := ∃ g F, e = .returned (.pointer (some ⟨g, 0, none⟩)) ∧ FrAt w' g F D ∧ (∀ i, F i → w.heap.size ≤ i) ∧ Below w.heap.size w w'
theorem newFr_fin {w W2 : World} {lo hi : Int} {s : Span} (hb : Below w.heap.size w W2) (hz : W2.heap.size = w.heap.size + 1) (h : ((W2.alloc (.cells s.cells 90)).drew).heap[w.heap.size]? = some (.cells #[.int .i64 lo, .int .i64 hi, .slice none 0 0] 150 (0, 0))) (hk : Fr.Ok ⟨lo, hi, [s]⟩) :
    FreshR w (((W2.alloc (.cells s.cells 90)).drew).setCell ⟨w.heap.size, 2, none⟩ (.slice (some ⟨W2.heap.size, 0, none⟩) 1 1)) ⟨lo, hi, [s]⟩ (.returned (.pointer (some ⟨w.heap.size, 0, none⟩))) := by
  have hr := blk_drew (blk_new W2 (.cells s.cells 90))
  refine ⟨w.heap.size, fun i => i = w.heap.size ∨ i = W2.heap.size, rfl, ⟨_, blk_set' h 2 _ rfl, ?_, (fun k e => by cases e; exact ⟨by show W2.heap.size ≠ w.heap.size; omega, .inr rfl⟩), .inl rfl, (fun i hi => ?_), hk⟩, (fun i hi => by omega), ?_⟩
  · refine Own.far (p := ⟨w.heap.size, 2, none⟩) ⟨by rw [flat_len Span.ok], .inr ⟨W2.heap.size, 1, s.cells, rfl, Nat.zero_le _, hr, by simp, by unfold maxLen; omega, rfl, rfl⟩⟩ (fun e => absurd (Option.some.inj e : W2.heap.size = w.heap.size) (by omega)) _
  · have := blk_lt hr
    simp [World.setCell] at this ⊢
    omega
  · exact ((hb.alloc hb.size _).drew).setCell (Nat.le_refl _) _
set_option maxRecDepth 100000 in
set_option maxHeartbeats 4000000 in
theorem newFr_calls (w : World) (f n : Int) (hf : -9223372036854775808 ≤ f ∧ f ≤ 9223372036854775807) (hn : -9223372036854775808 ≤ n ∧ n ≤ 9223372036854775807) :
    Calls Try.prog 52 #[.int .i64 f, .int .i64 n] w fun e w' => FreshR w w' (Fr.new f n) e := by
  have hok := Lib.hid (Fr.new_ok hf hn)
  have ma := run_maxE f
  have mi := run_minE n
  have hnew : Hid (Fr.new f n = ⟨max f 0, min n 16384, if max f 0 < min n 16384 then [⟨max f 0, min n 16384 - max f 0⟩] else []⟩) := rfl
  have b1 : 0 ≤ max f 0 := by omega
  have b2 : min n 16384 ≤ 16384 := by omega
  generalize max f 0 = lo at *
  generalize min n 16384 = hi at *
  have hN := hok.out
  rw [hnew.out] at hN
  have hN := Lib.hid hN
  clear hf hn
  obtain ⟨W1, hW1⟩ : ∃ W, W = w.alloc (.cells #[.int .i64 lo, .int .i64 hi, .slice none 0 0] 150) := ⟨_, rfl⟩
  have hx1 : W1.heap[w.heap.size]? = some (.cells #[.int .i64 lo, .int .i64 hi, .slice none 0 0] 150 (0, 0)) := hW1 ▸ blk_new w _
  have hB1 : Hid (Below w.heap.size w W1) := by show Below _ _ _; rw [hW1]; exact bl_alloc (Below.refl _ w) _
  have hz1 : Hid (W1.heap.size = w.heap.size + 1) := by show _ = _; rw [hW1, World.size_alloc]
  have x0 : W1.cell? ⟨w.heap.size, 0, none⟩ = some (.int .i64 lo) := by rw [blk_cell hx1]; rfl
  have x1 : W1.cell? ⟨w.heap.size, 1, none⟩ = some (.int .i64 hi) := by rw [blk_cell hx1]; rfl
  have HX1 := Lib.hid hx1
  clear hx1
  go_enter Try.func52, Try.ntmps52
  go_wp2_with fail
  rw [← hW1]
  clear hW1 ma mi
  have hS0 : Hid (W1.drew = W1.drew) := rfl
  refine wp_region_noPanic ?_
  refine wp_region_held_drew (S := fun W => Hid (W = W1.drew)) (by kernel_rfl) (hS0) (fun hHeld => ?_)
  refine wpAnyH_take (i := 0) (oi := ⟨some 12, _, _, _, _, _⟩) (v := ?_) rfl (by kernel_rfl) (by kernel_rfl) (by kernel_rfl) (fun _ _ _ h => h) (Or.inl ⟨by rfl, ?_⟩) (by assumption) ?_
  rotate_left
  · (intro w hSw; (try dsimp only at hSw); have hSe := hSw.out; subst hSe; (go_simp <;> with_reducible rfl))
  try simp only [Act.put, List.setIfInBounds_toArray, List.set_cons_zero, List.set_cons_succ]
  refine wpAnyH_take (i := 1) (oi := ⟨some 13, _, _, _, _, _⟩) (v := ?_) rfl (by kernel_rfl) (by kernel_rfl) (by kernel_rfl) (fun _ _ _ h => h) (Or.inl ⟨by rfl, ?_⟩) (by assumption) ?_
  rotate_left
  · (intro w hSw; (try dsimp only at hSw); have hSe := hSw.out; subst hSe; (go_simp <;> with_reducible rfl))
  try simp only [Act.put, List.setIfInBounds_toArray, List.set_cons_zero, List.set_cons_succ]
  refine wpAnyH_take (i := 2) (oi := ⟨some 14, _, _, _, _, _⟩) (v := ?_) rfl (by kernel_rfl) (by kernel_rfl) (by kernel_rfl) (fun _ _ _ h => h) (Or.inl ⟨by rfl, ?_⟩) (by assumption) ?_
  rotate_left
  · (intro w hSw; (try dsimp only at hSw); have hSe := hSw.out; subst hSe; (go_simp <;> with_reducible rfl))
  try simp only [Act.put, List.setIfInBounds_toArray, List.set_cons_zero, List.set_cons_succ]
  refine wpAnyH_take (i := 3) (oi := ⟨some 15, _, _, _, _, _⟩) (v := ?_) rfl (by kernel_rfl) (by kernel_rfl) (by kernel_rfl) (fun _ _ _ h => h) (Or.inl ⟨by rfl, ?_⟩) (by assumption) ?_
  rotate_left
  · (intro w hSw; (try dsimp only at hSw); have hSe := hSw.out; subst hSe; (go_simp <;> with_reducible rfl))
  try simp only [Act.put, List.setIfInBounds_toArray, List.set_cons_zero, List.set_cons_succ]
  refine wpAnyH_take (i := 4) (oi := ⟨some 16, _, _, _, _, _⟩) (v := ?_) rfl (by kernel_rfl) (by kernel_rfl) (by kernel_rfl) (fun _ _ _ h => h) (Or.inl ⟨by rfl, ?_⟩) (by assumption) ?_
  rotate_left
  · (intro w hSw; (try dsimp only at hSw); have hSe := hSw.out; subst hSe; (go_simp <;> with_reducible rfl))
  try simp only [Act.put, List.setIfInBounds_toArray, List.set_cons_zero, List.set_cons_succ]
  refine wpAnyH_take (i := 5) (oi := ⟨some 17, _, _, _, _, _⟩) (v := ?_) rfl (by kernel_rfl) (by kernel_rfl) (by kernel_rfl) (fun _ _ _ h => h) (Or.inl ⟨by rfl, ?_⟩) (by assumption) ?_
  rotate_left
  · (intro w hSw; (try dsimp only at hSw); have hSe := hSw.out; subst hSe; (go_simp <;> with_reducible rfl))
  try simp only [Act.put, List.setIfInBounds_toArray, List.set_cons_zero, List.set_cons_succ]
  refine wpAnyH_take (i := 6) (oi := ⟨some 18, _, _, _, _, _⟩) (v := ?_) rfl (by kernel_rfl) (by kernel_rfl) (by kernel_rfl) (fun _ _ _ h => h) (Or.inl ⟨by rfl, ?_⟩) (by assumption) ?_
  rotate_left
  · (intro w hSw; (try dsimp only at hSw); have hSe := hSw.out; subst hSe; (go_simp <;> with_reducible rfl))
  try simp only [Act.put, List.setIfInBounds_toArray, List.set_cons_zero, List.set_cons_succ]
  refine wpAnyH_take (i := 7) (oi := ⟨some 19, _, _, _, _, _⟩) (v := ?_) rfl (by kernel_rfl) (by kernel_rfl) (by kernel_rfl) (fun _ _ _ h => h) (Or.inl ⟨by rfl, ?_⟩) (by assumption) ?_
  rotate_left
  · (intro w hSw; (try dsimp only at hSw); have hSe := hSw.out; subst hSe; (go_simp <;> with_reducible rfl))
  try simp only [Act.put, List.setIfInBounds_toArray, List.set_cons_zero, List.set_cons_succ]
  refine wpAnyH_take (i := 8) (oi := ⟨some 20, _, _, _, _, _⟩) (v := ?_) rfl (by kernel_rfl) (by kernel_rfl) (by kernel_rfl) (fun _ _ _ h => h) (Or.inl ⟨by rfl, ?_⟩) (by assumption) ?_
  rotate_left
  · (intro w hSw; (try dsimp only at hSw); have hSe := hSw.out; subst hSe; (go_simp <;> with_reducible rfl))
  try simp only [Act.put, List.setIfInBounds_toArray, List.set_cons_zero, List.set_cons_succ]
  refine wpAnyH_done (by kernel_rfl) ?_ _
  refine NoPanic.normal ?_
  rcases (Decidable.em (lo < hi)) with hlt | hlt
  · have hwr : IntKind.i64.wrap (hi - lo) = hi - lo := wrapI (by omega)
    obtain ⟨W2, hW2⟩ : ∃ W, W = W1.drew := ⟨_, rfl⟩
    have HX2 : Hid (W2.heap[w.heap.size]? = some (.cells #[.int .i64 lo, .int .i64 hi, .slice none 0 0] 150 (0, 0))) := hW2 ▸ blk_drew HX1.out
    have HB2 : Hid (Below w.heap.size w W2) := hW2 ▸ hB1.out.drew
    have HZ2 : Hid (W2.heap.size = w.heap.size + 1) := by subst hW2; exact hz1.out
    rw [← hW2]
    clear hW2 HX1 hB1 hz1 x0 x1
    have hC : Hid (∀ W, Below W2.heap.size W2 W → W.cell? ⟨w.heap.size, 0, none⟩ = some (.int .i64 lo) ∧ W.cell? ⟨w.heap.size, 1, none⟩ = some (.int .i64 hi) ∧ W.heap[w.heap.size]? = some (.cells #[.int .i64 lo, .int .i64 hi, .slice none 0 0] 150 (0, 0))) := fun W hW => by
      have h := blk_below hW HX2.out (blk_lt HX2.out)
      exact ⟨by rw [blk_cell h]; rfl, by rw [blk_cell h]; rfl, h⟩
    have hb0 : Hid (Below W2.heap.size W2 W2.drew) := (Below.refl _ W2).drew
    have hN2 := hN.out
    rw [if_pos hlt] at hN2
    have hN2 := Lib.hid hN2
    go_wp2_with fail
    refine wp_region_noPanic ?_
    refine wp_regionZ 18 (fun W => Hid (Below W2.heap.size W2 W)) (by kernel_rfl) ?_
    refine AnyZ.takeU [18] (i := 0) (oi := ⟨some 21, _, _, _, _, _⟩) (v := ?_) rfl (by kernel_rfl) (by kernel_rfl) (by kernel_rfl) (by kernel_rfl) (by kernel_rfl) (by kernel_rfl) (fun _ _ _ h => h) (Or.inl ⟨by rfl, ?_⟩) (by assumption) ?_
    rotate_left
    · (intro w hSw; (try dsimp only at hSw); obtain ⟨y0, y1, y2⟩ := hC.out _ hSw.out; (go_simp <;> with_reducible rfl))
    try simp only [Act.put, List.setIfInBounds_toArray, List.set_cons_zero, List.set_cons_succ]
    refine AnyZ.takeU [18] (i := 1) (oi := ⟨some 22, _, _, _, _, _⟩) (v := ?_) rfl (by kernel_rfl) (by kernel_rfl) (by kernel_rfl) (by kernel_rfl) (by kernel_rfl) (by kernel_rfl) (fun _ _ _ h => h) (Or.inl ⟨by rfl, ?_⟩) (by assumption) ?_
    rotate_left
    · (intro w hSw; (try dsimp only at hSw); obtain ⟨y0, y1, y2⟩ := hC.out _ hSw.out; (go_simp <;> with_reducible rfl))
    try simp only [Act.put, List.setIfInBounds_toArray, List.set_cons_zero, List.set_cons_succ]
    refine AnyZ.takeU [18] (i := 2) (oi := ⟨some 23, _, _, _, _, _⟩) (v := ?_) rfl (by kernel_rfl) (by kernel_rfl) (by kernel_rfl) (by kernel_rfl) (by kernel_rfl) (by kernel_rfl) (fun _ _ _ h => h) (Or.inl ⟨by rfl, ?_⟩) (by assumption) ?_
    rotate_left
    · (intro w hSw; (try dsimp only at hSw); obtain ⟨y0, y1, y2⟩ := hC.out _ hSw.out; (go_simp <;> with_reducible rfl))
    try simp only [Act.put, List.setIfInBounds_toArray, List.set_cons_zero, List.set_cons_succ]
    refine AnyZ.takeU [18] (i := 3) (oi := ⟨some 24, _, _, _, _, _⟩) (v := ?_) rfl (by kernel_rfl) (by kernel_rfl) (by kernel_rfl) (by kernel_rfl) (by kernel_rfl) (by kernel_rfl) (fun _ _ _ h => h) (Or.inl ⟨by rfl, ?_⟩) (by assumption) ?_
    rotate_left
    · (intro w hSw; (try dsimp only at hSw); obtain ⟨y0, y1, y2⟩ := hC.out _ hSw.out; (go_simp <;> with_reducible rfl))
    try simp only [Act.put, List.setIfInBounds_toArray, List.set_cons_zero, List.set_cons_succ]
    refine AnyZ.takeU [18] (i := 4) (oi := ⟨some 25, _, _, _, _, _⟩) (v := ?_) rfl (by kernel_rfl) (by kernel_rfl) (by kernel_rfl) (by kernel_rfl) (by kernel_rfl) (by kernel_rfl) (fun _ _ _ h => h) (Or.inl ⟨by rfl, ?_⟩) (by assumption) ?_
    rotate_left
    · (intro w hSw; (try dsimp only at hSw); obtain ⟨y0, y1, y2⟩ := hC.out _ hSw.out; (go_simp <;> with_reducible rfl))
    try simp only [Act.put, List.setIfInBounds_toArray, List.set_cons_zero, List.set_cons_succ]
    refine AnyZ.takeU [18] (i := 5) (oi := ⟨some 26, _, _, _, _, _⟩) (v := ?_) rfl (by kernel_rfl) (by kernel_rfl) (by kernel_rfl) (by kernel_rfl) (by kernel_rfl) (by kernel_rfl) (fun _ _ _ h => h) (Or.inl ⟨by rfl, ?_⟩) (by assumption) ?_
    rotate_left
    · (intro w hSw; (try dsimp only at hSw); obtain ⟨y0, y1, y2⟩ := hC.out _ hSw.out; (go_simp <;> with_reducible rfl))
    try simp only [Act.put, List.setIfInBounds_toArray, List.set_cons_zero, List.set_cons_succ]
    refine AnyZ.takeU [18] (i := 6) (oi := ⟨some 27, _, _, _, _, _⟩) (v := ?_) rfl (by kernel_rfl) (by kernel_rfl) (by kernel_rfl) (by kernel_rfl) (by kernel_rfl) (by kernel_rfl) (fun _ _ _ h => h) (Or.inl ⟨by rfl, ?_⟩) (by assumption) ?_
    rotate_left
    · (intro w hSw; (try dsimp only at hSw); obtain ⟨y0, y1, y2⟩ := hC.out _ hSw.out; (go_simp <;> with_reducible rfl))
    try simp only [Act.put, List.setIfInBounds_toArray, List.set_cons_zero, List.set_cons_succ]
    refine AnyZ.takeU [18] (i := 7) (oi := ⟨some 28, _, _, _, _, _⟩) (v := ?_) rfl (by kernel_rfl) (by kernel_rfl) (by kernel_rfl) (by kernel_rfl) (by kernel_rfl) (by kernel_rfl) (fun _ _ _ h => h) (Or.inl ⟨by rfl, ?_⟩) (by assumption) ?_
    rotate_left
    · (intro w hSw; (try dsimp only at hSw); obtain ⟨y0, y1, y2⟩ := hC.out _ hSw.out; (go_simp <;> with_reducible rfl))
    try simp only [Act.put, List.setIfInBounds_toArray, List.set_cons_zero, List.set_cons_succ]
    refine AnyZ.takeU [18] (i := 8) (oi := ⟨some 29, _, _, _, _, _⟩) (v := ?_) rfl (by kernel_rfl) (by kernel_rfl) (by kernel_rfl) (by kernel_rfl) (by kernel_rfl) (by kernel_rfl) (fun _ _ _ h => h) (Or.inl ⟨by rfl, ?_⟩) (by assumption) ?_
    rotate_left
    · (intro w hSw; (try dsimp only at hSw); obtain ⟨y0, y1, y2⟩ := hC.out _ hSw.out; (go_simp <;> with_reducible rfl))
    try simp only [Act.put, List.setIfInBounds_toArray, List.set_cons_zero, List.set_cons_succ]
    refine AnyZ.takeU [18] (i := 9) (oi := ⟨some 30, _, _, _, _, _⟩) (v := ?_) rfl (by kernel_rfl) (by kernel_rfl) (by kernel_rfl) (by kernel_rfl) (by kernel_rfl) (by kernel_rfl) (fun _ _ _ h => h) (Or.inl ⟨by rfl, ?_⟩) (by assumption) ?_
    rotate_left
    · (intro w hSw; (try dsimp only at hSw); obtain ⟨y0, y1, y2⟩ := hC.out _ hSw.out; (go_simp <;> with_reducible rfl))
    try simp only [Act.put, List.setIfInBounds_toArray, List.set_cons_zero, List.set_cons_succ]
    refine AnyZ.takeU [18] (i := 10) (oi := ⟨some 31, _, _, _, _, _⟩) (v := ?_) rfl (by kernel_rfl) (by kernel_rfl) (by kernel_rfl) (by kernel_rfl) (by kernel_rfl) (by kernel_rfl) (fun _ _ _ h => h) (Or.inl ⟨by rfl, ?_⟩) (by assumption) ?_
    rotate_left
    · (intro w hSw; (try dsimp only at hSw); obtain ⟨y0, y1, y2⟩ := hC.out _ hSw.out; (go_simp <;> with_reducible rfl))
    try simp only [Act.put, List.setIfInBounds_toArray, List.set_cons_zero, List.set_cons_succ]
    refine AnyZ.takeU [18] (i := 11) (oi := ⟨some 32, _, _, _, _, _⟩) (v := ?_) rfl (by kernel_rfl) (by kernel_rfl) (by kernel_rfl) (by kernel_rfl) (by kernel_rfl) (by kernel_rfl) (fun _ _ _ h => h) (Or.inl ⟨by rfl, ?_⟩) (by assumption) ?_
    rotate_left
    · (intro w hSw; (try dsimp only at hSw); obtain ⟨y0, y1, y2⟩ := hC.out _ hSw.out; (go_simp <;> with_reducible rfl))
    try simp only [Act.put, List.setIfInBounds_toArray, List.set_cons_zero, List.set_cons_succ]
    refine AnyZ.takeU [18] (i := 12) (oi := ⟨some 33, _, _, _, _, _⟩) (v := ?_) rfl (by kernel_rfl) (by kernel_rfl) (by kernel_rfl) (by kernel_rfl) (by kernel_rfl) (by kernel_rfl) (fun _ _ _ h => h) (Or.inl ⟨by rfl, ?_⟩) (by assumption) ?_
    rotate_left
    · (intro w hSw; (try dsimp only at hSw); obtain ⟨y0, y1, y2⟩ := hC.out _ hSw.out; (go_simp <;> with_reducible rfl))
    try simp only [Act.put, List.setIfInBounds_toArray, List.set_cons_zero, List.set_cons_succ]
    refine AnyZ.takeU [18] (i := 13) (oi := ⟨some 34, _, _, _, _, _⟩) (v := ?_) rfl (by kernel_rfl) (by kernel_rfl) (by kernel_rfl) (by kernel_rfl) (by kernel_rfl) (by kernel_rfl) (fun _ _ _ h => h) (Or.inl ⟨by rfl, ?_⟩) (by assumption) ?_
    rotate_left
    · (intro w hSw; (try dsimp only at hSw); obtain ⟨y0, y1, y2⟩ := hC.out _ hSw.out; (go_simp <;> with_reducible rfl))
    try simp only [Act.put, List.setIfInBounds_toArray, List.set_cons_zero, List.set_cons_succ]
    refine AnyZ.takeU [18] (i := 14) (oi := ⟨some 35, _, _, _, _, _⟩) (v := ?_) rfl (by kernel_rfl) (by kernel_rfl) (by kernel_rfl) (by kernel_rfl) (by kernel_rfl) (by kernel_rfl) (fun _ _ _ h => h) (Or.inl ⟨by rfl, ?_⟩) (by assumption) ?_
    rotate_left
    · (intro w hSw; (try dsimp only at hSw); obtain ⟨y0, y1, y2⟩ := hC.out _ hSw.out; (go_simp <;> with_reducible rfl))
    try simp only [Act.put, List.setIfInBounds_toArray, List.set_cons_zero, List.set_cons_succ]
    refine AnyZ.one (i := 15) (by kernel_rfl) rfl (fun K hK => ?_)
    go_simp
    have B3 : Hid (Below W2.heap.size W2 ((W2.alloc (.cells #[.int .i64 lo, .int .i64 (hi - lo)] 90)).drew)) := ((Below.refl _ W2).alloc (Nat.le_refl _) _).drew
    obtain ⟨z0, z1, z2⟩ := hC.out _ B3.out
    have z3 : ((W2.alloc (.cells #[.int .i64 lo, .int .i64 (hi - lo)] 90)).drew).cell? ⟨w.heap.size, 2, none⟩ = some (.slice none 0 0) := by rw [blk_cell z2]; rfl
    have z4 := blk_free z2 2
    have hF := Lib.hid (newFr_fin (s := ⟨lo, hi - lo⟩) HB2.out HZ2.out z2 (hN2.out))
    refine hK.out _ _ (.inr (by assumption)) ?_
    clear hK K
    try simp only [Act.put, List.setIfInBounds_toArray, List.set_cons_zero, List.set_cons_succ]
    refine AnyZ.takeU [18, 17] (i := 16) (oi := ⟨some 37, _, _, _, _, _⟩) (v := ?_) rfl (by kernel_rfl) (by kernel_rfl) (by kernel_rfl) (by kernel_rfl) (by kernel_rfl) (by kernel_rfl) (fun _ _ _ h => h) (Or.inl ⟨by rfl, ?_⟩) (by assumption) ?_
    rotate_left
    · (intro w hSw; (try dsimp only at hSw); obtain ⟨y0, y1, y2⟩ := hC.out _ hSw.out; (go_simp <;> with_reducible rfl))
    try simp only [Act.put, List.setIfInBounds_toArray, List.set_cons_zero, List.set_cons_succ]
    refine AnyZ.takeU [18] (i := 17) (oi := ⟨some 38, _, _, _, _, _⟩) (v := ?_) rfl (by kernel_rfl) (by kernel_rfl) (by kernel_rfl) (by kernel_rfl) (by kernel_rfl) (by kernel_rfl) (fun _ _ _ h => h) (Or.inl ⟨by rfl, ?_⟩) (by assumption) ?_
    rotate_left
    · (intro w hSw; (try dsimp only at hSw); obtain ⟨y0, y1, y2⟩ := hC.out _ hSw.out; (go_simp <;> with_reducible rfl))
    try simp only [Act.put, List.setIfInBounds_toArray, List.set_cons_zero, List.set_cons_succ]
    refine AnyZ.one (i := 18) (by kernel_rfl) rfl (fun K hK => ?_)
    go_simp
    refine hK.out _ _ (.inl rfl) ?_
    clear hK K
    try simp only [Act.put, List.setIfInBounds_toArray, List.set_cons_zero, List.set_cons_succ]
    refine AnyZ.done (by kernel_rfl) ?_ _
    refine NoPanic.normal ?_
    go_wp2
    go_ret
    rw [hnew.out, if_pos hlt]
    exact hF.out
  · go_wp2
    go_ret
    rw [hnew.out]
    rw [if_neg (by omega)] at hN ⊢
    exact ⟨_, fun i => i = w.heap.size, rfl, ⟨_, blk_drew HX1.out, Own.nil, (fun k e => by cases e), rfl, (fun i hi => by subst hi; exact blk_lt (blk_drew HX1.out)), hN.out⟩, fun i hi => by omega, hB1.out.drew⟩
theorem copyFr_fin {w w2 : World} {D : Fr} {A2 : Option Addr} {e2 : Nat} (hk : D.Ok) (hb : Below w.heap.size w w2) (ho : Own Span.enc 2 90 w.heap.size w2 (.slice A2 D.l.length e2) D.l) :
    FreshR w (w2.alloc (.cells #[.int .i64 D.lo, .int .i64 D.n, .slice A2 D.l.length e2] 150)) D (.returned (.pointer (some ⟨w2.heap.size, 0, none⟩))) := by
  refine ⟨w2.heap.size, fun i => w.heap.size ≤ i ∧ i < w2.heap.size + 1, rfl, ⟨_, blk_new w2 _, (ho.alloc _).mono (Nat.zero_le _), (fun k e => ?_), ⟨hb.size, by omega⟩, (fun i hi => by rw [World.size_alloc]; exact hi.2), hk⟩, (fun i hi => hi.1), hb.alloc hb.size _⟩
  have := ho.lt k e
  exact ⟨by omega, this.1, by omega⟩
section
variable {w : World} {g : Nat} {F : Nat → Prop} {D : Fr}
set_option maxRecDepth 100000 in
set_option maxHeartbeats 4000000 in
theorem copyFr_calls (h : FrAt w g F D) : Calls Try.prog 65 #[.pointer (some ⟨g, 0, none⟩)] w fun e w' => FreshR w w' D e := by
  obtain ⟨A, c, c0, c1, c2, fz, ho, hr, hc, hv, hb⟩ := h.cells
  have hgl := h.glt
  have hok := Lib.hid h.okD
  have hr := Lib.hid hr
  have hll := h.okD.len
  have hlen : Hid (D.l.length ≤ 1000000000) := by show _ ≤ _; omega
  have hC : Hid (∀ W, Below w.heap.size w W → W.cell? ⟨g, 0, none⟩ = some (.int .i64 D.lo) ∧ W.cell? ⟨g, 1, none⟩ = some (.int .i64 D.n) ∧ W.cell? ⟨g, 2, none⟩ = some (.slice A D.l.length c)) := fun W hW => ⟨(hW.cell (by exact hgl)).trans c0, (hW.cell (by exact hgl)).trans c1, (hW.cell (by exact hgl)).trans c2⟩
  have hb0 : Hid (Below w.heap.size w w.drew) := (Below.refl _ w).drew
  clear h c0 c1 c2 fz ho hv hb
  go_enter Try.func65, Try.ntmps65
  go_wp2_with fail
  refine wp_region_noPanic ?_
  refine wp_region_held_drew (S := fun W => Hid (Below w.heap.size w W)) (by kernel_rfl) (hb0) (fun hHeld => ?_)
  refine wpAnyH_take (i := 0) (oi := ⟨some 5, _, _, _, _, _⟩) (v := ?_) rfl (by kernel_rfl) (by kernel_rfl) (by kernel_rfl) (fun _ _ _ h => h) (Or.inl ⟨by rfl, ?_⟩) (by assumption) ?_
  rotate_left
  · (intro w hSw; (try dsimp only at hSw); obtain ⟨y0, y1, y2⟩ := hC.out _ hSw.out; (go_simp <;> with_reducible rfl))
  try simp only [Act.put, List.setIfInBounds_toArray, List.set_cons_zero, List.set_cons_succ]
  refine wpAnyH_take (i := 1) (oi := ⟨some 6, _, _, _, _, _⟩) (v := ?_) rfl (by kernel_rfl) (by kernel_rfl) (by kernel_rfl) (fun _ _ _ h => h) (Or.inl ⟨by rfl, ?_⟩) (by assumption) ?_
  rotate_left
  · (intro w hSw; (try dsimp only at hSw); obtain ⟨y0, y1, y2⟩ := hC.out _ hSw.out; (go_simp <;> with_reducible rfl))
  try simp only [Act.put, List.setIfInBounds_toArray, List.set_cons_zero, List.set_cons_succ]
  refine wpAnyH_take (i := 2) (oi := ⟨some 7, _, _, _, _, _⟩) (v := ?_) rfl (by kernel_rfl) (by kernel_rfl) (by kernel_rfl) (fun _ _ _ h => h) (Or.inl ⟨by rfl, ?_⟩) (by assumption) ?_
  rotate_left
  · (intro w hSw; (try dsimp only at hSw); obtain ⟨y0, y1, y2⟩ := hC.out _ hSw.out; (go_simp <;> with_reducible rfl))
  try simp only [Act.put, List.setIfInBounds_toArray, List.set_cons_zero, List.set_cons_succ]
  refine wpAnyH_take (i := 3) (oi := ⟨some 8, _, _, _, _, _⟩) (v := ?_) rfl (by kernel_rfl) (by kernel_rfl) (by kernel_rfl) (fun _ _ _ h => h) (Or.inl ⟨by rfl, ?_⟩) (by assumption) ?_
  rotate_left
  · (intro w hSw; (try dsimp only at hSw); obtain ⟨y0, y1, y2⟩ := hC.out _ hSw.out; (go_simp <;> with_reducible rfl))
  try simp only [Act.put, List.setIfInBounds_toArray, List.set_cons_zero, List.set_cons_succ]
  refine wpAnyH_take (i := 4) (oi := ⟨some 9, _, _, _, _, _⟩) (v := ?_) rfl (by kernel_rfl) (by kernel_rfl) (by kernel_rfl) (fun _ _ _ h => h) (Or.inl ⟨by rfl, ?_⟩) (by assumption) ?_
  rotate_left
  · (intro w hSw; (try dsimp only at hSw); obtain ⟨y0, y1, y2⟩ := hC.out _ hSw.out; (go_simp <;> with_reducible rfl))
  try simp only [Act.put, List.setIfInBounds_toArray, List.set_cons_zero, List.set_cons_succ]
  refine wpAnyH_take (i := 5) (oi := ⟨some 10, _, _, _, _, _⟩) (v := ?_) rfl (by kernel_rfl) (by kernel_rfl) (by kernel_rfl) (fun _ _ _ h => h) (Or.inl ⟨by rfl, ?_⟩) (by assumption) ?_
  rotate_left
  · (intro w hSw; (try dsimp only at hSw); obtain ⟨y0, y1, y2⟩ := hC.out _ hSw.out; (go_simp <;> with_reducible rfl))
  try simp only [Act.put, List.setIfInBounds_toArray, List.set_cons_zero, List.set_cons_succ]
  refine wpAnyH_take (i := 6) (oi := ⟨some 11, _, _, _, _, _⟩) (v := ?_) rfl (by kernel_rfl) (by kernel_rfl) (by kernel_rfl) (fun _ _ _ h => h) (Or.inl ⟨by rfl, ?_⟩) (by assumption) ?_
  rotate_left
  · (intro w hSw; (try dsimp only at hSw); obtain ⟨y0, y1, y2⟩ := hC.out _ hSw.out; (go_simp <;> with_reducible rfl))
  try simp only [Act.put, List.setIfInBounds_toArray, List.set_cons_zero, List.set_cons_succ]
  refine wpAnyH_take (i := 7) (oi := ⟨some 12, _, _, _, _, _⟩) (v := ?_) rfl (by kernel_rfl) (by kernel_rfl) (by kernel_rfl) (fun _ _ _ h => h) (Or.inl ⟨by rfl, ?_⟩) (by assumption) ?_
  rotate_left
  · (intro w hSw; (try dsimp only at hSw); obtain ⟨y0, y1, y2⟩ := hC.out _ hSw.out; (go_simp <;> with_reducible rfl))
  try simp only [Act.put, List.setIfInBounds_toArray, List.set_cons_zero, List.set_cons_succ]
  refine wpAnyH_take (i := 8) (oi := ⟨some 13, _, _, _, _, _⟩) (v := ?_) rfl (by kernel_rfl) (by kernel_rfl) (by kernel_rfl) (fun _ _ _ h => h) (Or.inl ⟨by rfl, ?_⟩) (by assumption) ?_
  rotate_left
  · (intro w hSw; (try dsimp only at hSw); obtain ⟨y0, y1, y2⟩ := hC.out _ hSw.out; (go_simp <;> with_reducible rfl))
  try simp only [Act.put, List.setIfInBounds_toArray, List.set_cons_zero, List.set_cons_succ]
  refine wpAnyH_take (i := 9) (oi := ⟨some 14, _, _, _, _, _⟩) (v := ?_) rfl (by kernel_rfl) (by kernel_rfl) (by kernel_rfl) (fun _ _ _ h => h) (Or.inl ⟨by rfl, ?_⟩) (by assumption) ?_
  rotate_left
  · (intro w hSw; (try dsimp only at hSw); obtain ⟨y0, y1, y2⟩ := hC.out _ hSw.out; (go_simp <;> with_reducible rfl))
  try simp only [Act.put, List.setIfInBounds_toArray, List.set_cons_zero, List.set_cons_succ]
  refine wpAnyH_take (i := 10) (oi := ⟨some 15, _, _, _, _, _⟩) (v := ?_) rfl (by kernel_rfl) (by kernel_rfl) (by kernel_rfl) (fun _ _ _ h => h) (Or.inl ⟨by rfl, ?_⟩) (by assumption) ?_
  rotate_left
  · (intro w hSw; (try dsimp only at hSw); obtain ⟨y0, y1, y2⟩ := hC.out _ hSw.out; (go_simp <;> with_reducible rfl))
  try simp only [Act.put, List.setIfInBounds_toArray, List.set_cons_zero, List.set_cons_succ]
  refine wpAnyH_take (i := 11) (oi := ⟨some 16, _, _, _, _, _⟩) (v := ?_) rfl (by kernel_rfl) (by kernel_rfl) (by kernel_rfl) (fun _ _ _ h => h) (Or.inl ⟨by rfl, ?_⟩) (by assumption) ?_
  rotate_left
  · (intro w hSw; (try dsimp only at hSw); obtain ⟨y0, y1, y2⟩ := hC.out _ hSw.out; (go_simp <;> with_reducible rfl))
  try simp only [Act.put, List.setIfInBounds_toArray, List.set_cons_zero, List.set_cons_succ]
  refine wpAnyH_ready (rs := [12]) (by kernel_rfl) (by simp) ?_
  refine AllReadyH.cons rfl (fun K hK => ?_) AllReadyH.nil
  go_simp
  go_at_call 103
  refine (cloneSpan_calls _ A c D.l (hr.out.below hb0.out (Nat.le_refl _)) hlen.out).mono ?_
  rintro e w2 ⟨A2, e2, rfl, o2, b2⟩
  have B2 : Hid (Below w.heap.size w w2) := bl_then hb0.out hb0.out.size b2
  have O2 : Hid (Own Span.enc 2 90 w.heap.size w2 _ D.l) := o2.mono (show w.heap.size ≤ w.drew.heap.size from Nat.le_refl _)
  clear o2 b2
  refine hK.out _ _ (by assumption) (fun _ => ?_)
  clear hK K
  try simp only [Act.put, List.setIfInBounds_toArray, List.set_cons_zero, List.set_cons_succ]
  refine wpAnyH_take (i := 13) (oi := ⟨some 18, _, _, _, _, _⟩) (v := ?_) rfl (by kernel_rfl) (by kernel_rfl) (by kernel_rfl) (fun _ _ _ h => h) (Or.inl ⟨by rfl, ?_⟩) (by assumption) ?_
  rotate_left
  · (intro w hSw; (try dsimp only at hSw); obtain ⟨y0, y1, y2⟩ := hC.out _ hSw.out; (go_simp <;> with_reducible rfl))
  try simp only [Act.put, List.setIfInBounds_toArray, List.set_cons_zero, List.set_cons_succ]
  refine wpAnyH_ready (rs := [14]) (by kernel_rfl) (by simp) ?_
  refine AllReadyH.cons rfl (fun K hK => ?_) AllReadyH.nil
  go_simp
  have B3 : Hid (Below w.heap.size w (w2.alloc (.cells #[.int .i64 D.lo, .int .i64 D.n, .slice A2 D.l.length e2] 150))) := B2.out.alloc B2.out.size _
  refine hK.out _ _ (by assumption) (fun _ => ?_)
  clear hK K
  try simp only [Act.put, List.setIfInBounds_toArray, List.set_cons_zero, List.set_cons_succ]
  refine wpAnyH_take (i := 15) (oi := ⟨some 2, _, _, _, _, _⟩) (v := ?_) rfl (by kernel_rfl) (by kernel_rfl) (by kernel_rfl) (fun _ _ _ h => h) (Or.inl ⟨by rfl, ?_⟩) (by assumption) ?_
  rotate_left
  · (intro w hSw; (try dsimp only at hSw); obtain ⟨y0, y1, y2⟩ := hC.out _ hSw.out; (go_simp <;> with_reducible rfl))
  try simp only [Act.put, List.setIfInBounds_toArray, List.set_cons_zero, List.set_cons_succ]
  refine wpAnyH_done (by kernel_rfl) ?_ _
  refine NoPanic.normal ?_
  go_wp2
  go_ret
  exact copyFr_fin hok.out B2.out O2.out
end
/-! ### A pointer that is none -/
section
variable (w : World)
set_option maxRecDepth 100000 in
theorem copyFr_none : Calls Try.prog 65 #[.pointer none] w fun e w' => e = .returned (.pointer none) ∧ w = w' := by
  go_enter Try.func65, Try.ntmps65
  go_wp2
  go_ret
  exact ⟨rfl, rfl⟩
set_option maxRecDepth 100000 in
set_option maxHeartbeats 4000000 in
theorem there_none (s : Span) : Calls Try.prog 98 #[.pointer none, .agg #[.int .i64 s.start, .int .i64 s.pages]] w fun e w' => e = .returned (.bool false) ∧ Below w.heap.size w w' := by
  have hfin : ∀ q : Nat, Hid (Below w.heap.size w ((w.alloc (.cells #[.int .i64 s.start, .int .i64 s.pages] 90)).drewN q)) := fun q => bl_drewN (bl_alloc (Below.refl _ w) _) q
  go_enter Try.func98, Try.ntmps98
  go_wp2
  go_quiet (fail)
  go_wp2
  go_ret
  exact ⟨rfl, (hfin _).out⟩
set_option maxRecDepth 100000 in
theorem fhas_none (s : Span) : Calls Try.prog 56 #[.pointer none, .agg #[.int .i64 s.start, .int .i64 s.pages]] w fun e w' => e = .returned (.bool false) ∧ Below w.heap.size w w' := by
  go_enter Try.func56, Try.ntmps56
  go_wp2_with fail
  refine (there_none _ s).mono ?_
  rintro e w1 ⟨rfl, b1⟩
  have B1 := Lib.hid (bl_then (bl_alloc (Below.refl _ w) _) (bl_alloc (Below.refl _ w) _).size b1)
  clear b1
  go_wp2
  go_ret
  exact ⟨rfl, B1.out⟩
set_option maxRecDepth 100000 in
theorem take_none (n : Int) : Calls Try.prog 54 #[.pointer none, .int .i64 n] w fun e w' => e = .returned (.tuple #[.int .i64 0, .bool false]) ∧ w = w' := by
  go_enter Try.func54, Try.ntmps54
  go_wp2
  go_ret2
  exact ⟨rfl, rfl⟩
set_option maxRecDepth 100000 in
theorem claim_none (s : Span) : Calls Try.prog 61 #[.pointer none, .agg #[.int .i64 s.start, .int .i64 s.pages]] w fun e w' => e = .returned (.bool false) ∧ Below w.heap.size w w' := by
  go_enter Try.func61, Try.ntmps61
  go_wp2_with fail
  refine (fhas_none _ s).mono ?_
  rintro e w1 ⟨rfl, b1⟩
  have B1 := Lib.hid (bl_then (bl_alloc (Below.refl _ w) _) (bl_alloc (Below.refl _ w) _).size b1)
  clear b1
  go_wp2
  go_ret
  exact ⟨rfl, B1.out⟩
set_option maxRecDepth 100000 in
theorem give_none (s : Span) : Calls Try.prog 57 #[.pointer none, .agg #[.int .i64 s.start, .int .i64 s.pages]] w fun e w' => e = .returned (.bool false) ∧ Below w.heap.size w w' := by
  go_enter Try.func57, Try.ntmps57
  go_wp2_with fail
  refine (there_none _ s).mono ?_
  rintro e w1 ⟨rfl, b1⟩
  have B1 := Lib.hid (bl_then (bl_alloc (Below.refl _ w) _) (bl_alloc (Below.refl _ w) _).size b1)
  clear b1
  go_wp2
  go_ret
  exact ⟨rfl, B1.out⟩
end
end Go.Proofs.Ytglpckdmiohciaa
