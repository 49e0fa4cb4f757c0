/- law07.PagerNone -/
import Derived.Test.YtikgplhcadomcaaKL
import Derived.Test.YtikgplhcadomcaaKF
namespace Go.Proofs.Ytikgplhcadomcaa
open Go.RowKit
set_option linter.unusedVariables false
set_option linter.unusedSimpArgs false
set_option maxRecDepth 100000 in
set_option maxHeartbeats 4000000 in
theorem pagerNone_calls (w : World) (A : Option Addr) (c n : Nat) (s : Span) (size : Int) :
    Calls Try.prog 6 #[.slice A n c, .agg #[.int .i64 s.start, .int .i64 s.pages], .int .i64 size] w fun e w' => e = .returned (.bool true) ∧ Below w.heap.size w w' := by
  obtain ⟨W1, hW1⟩ : ∃ W, w.alloc (.cells #[.int .i64 s.start, .int .i64 s.pages] 33) = W := ⟨_, rfl⟩
  have HB1 : Hid (Below w.heap.size w W1) := by show Below _ _ _; rw [← hW1]; exact bl_alloc (Below.refl _ w) _
  have HZ1 : Hid (W1.heap[w.heap.size]? = some (.cells #[.int .i64 s.start, .int .i64 s.pages] 33 (0, 0))) := by show _ = _; rw [← hW1]; exact blk_new w _
  go_enter Try.func6, Try.ntmps6
  go_wp2_with fail
  refine (awake07_calls _).mono ?_
  rintro e w2 ⟨rfl, hb2⟩
  have B2 := Lib.hid (bl_then HB1.out HB1.out.size hb2)
  have Z2 := Lib.hid (blk_below hb2 HZ1.out (blk_lt HZ1.out))
  clear hb2 HB1 HZ1 hW1
  by_cases hn : (300 : Int) < n
  · go_wp2
    go_ret
    exact ⟨rfl, B2.out⟩
  go_wp2_with fail
  refine (pgPut_none _ A n c).mono ?_
  rintro e w3 ⟨rfl, hb3⟩
  have hb4 := bl_then hb3 hb3.size (bl_alloc (Below.refl _ w3) (.cells #[.int .i64 0, .int .i64 0] 33))
  have B4 := Lib.hid (bl_then B2.out B2.out.size hb4)
  have Z4 := Lib.hid (blk_below hb4 Z2.out (blk_lt Z2.out))
  have y0 := blk_cell Z4.out 0
  have y1 := blk_cell Z4.out 1
  have yl := blk_lt Z4.out
  clear hb3 hb4 Z2 B2
  go_wp2_with fail
  refine (get_none _ s size).mono ?_
  rintro e w5 ⟨A5, c5, rfl, -, -, -, hb5⟩
  have B5 := Lib.hid (bl_then B4.out B4.out.size hb5)
  have Z5 := Lib.hid (blk_below hb5 Z4.out (blk_lt Z4.out))
  clear y0 y1 yl hb5 Z4 B4
  go_wp2_with fail
  refine (pgAbort_none _).mono ?_
  rintro e w6 ⟨rfl, rfl⟩
  have x0 := blk_cell Z5.out 0
  have x1 := blk_cell Z5.out 1
  have xl := blk_lt Z5.out
  go_wp2_with fail
  refine (pgCommit_none _ A n c).mono ?_
  rintro e w6 ⟨rfl, rfl⟩
  go_wp2_with fail
  refine (pgClaim_none _ s).mono ?_
  rintro e w6 ⟨rfl, hb6⟩
  have B6 := Lib.hid (bl_then B5.out B5.out.size hb6)
  have Z6 := Lib.hid (blk_below hb6 Z5.out (blk_lt Z5.out))
  clear x0 x1 xl hb6 Z5 B5
  have x0 := blk_cell Z6.out 0
  have x1 := blk_cell Z6.out 1
  have xl := blk_lt Z6.out
  go_wp2_with fail
  refine (pgDrop_none _ s).mono ?_
  rintro e w7 ⟨rfl, hb7⟩
  have B7 := Lib.hid (bl_then B6.out B6.out.size hb7)
  clear x0 x1 xl hb7 Z6 B6
  go_wp2_with fail
  refine (pfree_none _).mono ?_
  rintro e w8 ⟨rfl, rfl⟩
  go_wp2_with fail
  refine (proot_none _).mono ?_
  rintro e w8 ⟨rfl, hb8⟩
  have B8 := Lib.hid (bl_then B7.out B7.out.size hb8)
  clear hb8 B7
  unfold Span.v Span.cells span0
  go_wp2_with fail
  refine (pepoch_none _).mono ?_
  rintro e w9 ⟨rfl, rfl⟩
  go_wp2
  go_ret
  exact ⟨rfl, B8.out⟩
theorem pagerNone_row (w : World) (v0 v1 v2 : Value) (b : List Int) (s : Span) (n : Int) (h0 : Bytes w v0 b) (h1 : SpanV v1 s) (h2 : IntV v2 n) :
    Calls Try.prog 6 #[v0, v1, v2] w fun e w' => e = .returned (.bool true) ∧ Below w.heap.size w w' := by
  obtain ⟨A, c, rfl, hc, hb, hr⟩ := h0
  obtain ⟨rfl⟩ := h1
  obtain ⟨rfl, hn⟩ := h2
  exact pagerNone_calls w A c _ s n
end Go.Proofs.Ytikgplhcadomcaa
