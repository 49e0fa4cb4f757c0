/- node: Split$1, Group$1, rows -/
import Derived.Test.YtikgplhcadomcaaGreatKP
namespace Go.Proofs.YtikgplhcadomcaaGreat
open Go.RowKit
set_option linter.unusedVariables false
set_option linter.unusedSimpArgs false
theorem infoEs : (Tryz.prog.info? 22).map (fun i => (i.zero, i.size, i.bytes)) = some (some (.slice none 0 0), 1, 24) := by kernel_rfl
set_option maxRecDepth 100000 in
theorem split1_calls (w : World) (k v : Str) (hs : k.size ≤ 9223372036854775807) : Calls Tryz.prog 110 #[.agg #[.string k, .string v]] w fun e w' => e = .returned (.bool (endsN 0 k)) ∧ Below w.heap.size w w' := by
  obtain ⟨W1, hW1⟩ : ∃ W, w.alloc (.cells #[.string k, .string v] 113) = W := ⟨_, rfl⟩
  have hb1 : Below w.heap.size w W1 := by rw [← hW1]; exact bl_alloc (Below.refl _ w) _
  have hz : W1.heap[w.heap.size]? = some (.cells #[.string k, .string v] 113 (0, 0)) := by rw [← hW1]; exact blk_new w _
  have x0 := blk_cell hz 0
  have xl := blk_lt hz
  have HB1 := Lib.hid hb1
  clear hz hb1
  go_enter Tryz.func110, Tryz.ntmps110
  go_wp2_with fail
  refine (ends_calls _ 0 k hs).mono ?_
  rintro e w2 ⟨rfl, hb2⟩
  have B2 := Lib.hid (bl_then HB1.out HB1.out.size hb2)
  clear x0 xl hb2
  go_wp2
  go_ret
  exact ⟨rfl, B2.out⟩
set_option maxRecDepth 100000 in
theorem group1_calls (w : World) (lv : Int) (g : Nat) (k : Str) (id : Int) (hs : k.size ≤ 9223372036854775807) (hg : w.cell? ⟨g, 0, none⟩ = some (.int .i64 lv)) (hgl : g < w.heap.size) : Calls Tryz.prog 113 #[.agg #[.string k, .int .u64 id], .pointer (some ⟨g, 0, none⟩)] w fun e w' => e = .returned (.bool (endsN lv k)) ∧ Below w.heap.size w w' := by
  obtain ⟨W1, hW1⟩ : ∃ W, w.alloc (.cells #[.string k, .int .u64 id] 109) = W := ⟨_, rfl⟩
  have hb1 : Below w.heap.size w W1 := by rw [← hW1]; exact bl_alloc (Below.refl _ w) _
  have hz : W1.heap[w.heap.size]? = some (.cells #[.string k, .int .u64 id] 109 (0, 0)) := by rw [← hW1]; exact blk_new w _
  have x0 := blk_cell hz 0
  have xl := blk_lt hz
  have HB1 := Lib.hid hb1
  have hg1 : W1.cell? ⟨g, 0, none⟩ = some (.int .i64 lv) := (hb1.cell (p := ⟨g, 0, none⟩) hgl).trans hg
  have hgl1 : g < W1.heap.size := Nat.lt_of_lt_of_le hgl hb1.size
  clear hz hb1 hg
  go_enter Tryz.func113, Tryz.ntmps113
  go_wp2_with fail
  refine (ends_calls _ lv k hs).mono ?_
  rintro e w2 ⟨rfl, hb2⟩
  have B2 := Lib.hid (bl_then HB1.out HB1.out.size hb2)
  clear x0 xl hb2 hg1 hgl1
  go_wp2
  go_ret
  exact ⟨rfl, B2.out⟩
end Go.Proofs.YtikgplhcadomcaaGreat
