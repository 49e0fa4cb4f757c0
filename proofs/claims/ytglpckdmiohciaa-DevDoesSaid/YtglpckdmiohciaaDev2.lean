/- The device's functions New, Arm. -/
import Derived.Test.YtglpckdmiohciaaDev1
namespace Go.Proofs.Ytglpckdmiohciaa
open Go.RowKit
set_option linter.unusedVariables false
set_option linter.unusedSimpArgs false

theorem mapI_new {α : Type} {w : World} (enc : α → Value) : MapI (w.alloc (.map #[] 0)) w.heap.size enc [] := ⟨#[], 0, blk_new _ _, rfl, by simp⟩
theorem run_max0 (n : Int) (w : World) : (Builtin.max_ #[3, 3] 3 #[.int .i64 n, .int .i64 0]).run Try.prog w = .ok (.int .i64 (max n 0)) w := by
  rw [run_max_int2]
  congr 2
  split <;> omega
theorem run_minM (n : Int) (w : World) : (Builtin.min_ #[3, 3] 3 #[.int .i64 n, .int .i64 65536]).run Try.prog w = .ok (.int .i64 (min n 65536)) w := by
  rw [run_min_int2]
  congr 2
  split <;> omega
section
variable {w : World} {g : Nat} {F : Nat → Prop} {D : Dv}
theorem new_dev (w : World) (n : Int) : DevAt (((w.alloc (.map #[] 0)).alloc (.map #[] 0)).alloc (.cells ((Dv.new n).cells w.heap.size (w.heap.size + 1) (.slice none 0 0)) 137 (0, 0))) (w.heap.size + 2) (fun i => w.heap.size ≤ i ∧ i < w.heap.size + 3) (Dv.new n) := by
  refine ⟨w.heap.size, w.heap.size + 1, .slice none 0 0, ?_, ?_, ?_, Own.nil, by omega, by omega, by omega, (fun k hk => by cases hk), ⟨by omega, by omega⟩, ⟨by omega, by omega⟩, ⟨by omega, by omega⟩, (fun i hi => by have := hi.2; simp; omega), ?_, by simp [Dv.new], by simp [Dv.new]⟩
  · have := blk_new ((w.alloc (.map #[] 0)).alloc (.map #[] 0)) (.cells ((Dv.new n).cells w.heap.size (w.heap.size + 1) (.slice none 0 0)) 137 (0, 0))
    simpa using this
  · exact (((mapI_new secV).below ((Below.refl _ _).alloc (Nat.le_refl _) _) (by simp)).below ((Below.refl _ _).alloc (Nat.le_refl _) _) (by simp; omega))
  · have := mapI_new (w := w.alloc (.map #[] 0)) Value.bool
    rw [World.size_alloc] at this
    exact this.below ((Below.refl _ _).alloc (Nat.le_refl _) _) (by simp)
  · simp only [Dv.new]
    omega
set_option maxRecDepth 100000 in
theorem new_calls (w : World) (n : Int) : Calls Try.prog 30 #[.int .i64 n] w fun e w' => ∃ g F, e = .returned (.pointer (some ⟨g, 0, none⟩)) ∧ DevAt w' g F (Dv.new n) ∧ (∀ i, F i → w.heap.size ≤ i) ∧ Below w.heap.size w w' := by
  have hN := Lib.hid (new_dev w n)
  have ma := run_max0 n
  have mi := run_minM (max n 0)
  have hmm := @run_makeMap Try.prog
  go_enter Try.func30, Try.ntmps30
  go_wp2
  go_ret
  have hc : min (max n 0) 65536 = ((Dv.new n).n : Int) := by simp only [Dv.new]; omega
  rw [hc]
  exact ⟨_, _, rfl, hN.out, fun i hi => hi.1, (((Below.refl _ _).alloc (Nat.le_refl _) _).alloc (by simp) _).alloc (by simp; omega) _⟩
theorem DevAt.setA (h : DevAt w g F D) (a : Bool) (v : Int) (h0 : 0 ≤ v) (h1 : v ≤ 9223372036854775807) : Did F w ((w.setCell ⟨g, 5, none⟩ (.bool a)).setCell ⟨g, 4, none⟩ (.int .i64 v)) g { D with armed := a, left := v } :=
  h.flat (grown_trans (grown_set _ _ _ _) (grown_set _ _ _ _)) ⟨rfl, rfl, rfl⟩ ⟨h0, h1⟩ fun km bm cv hb => .inl ⟨rfl, blk_set' (blk_set' hb 5 _ rfl) 4 _ rfl⟩
set_option maxRecDepth 100000 in
theorem arm_calls (h : DevAt w g F D) (n : Int) (hn : n ≤ 9223372036854775807) : Calls Try.prog 31 #[.pointer (some ⟨g, 0, none⟩), .int .i64 n] w fun e w' => e = .returned (.tuple #[]) ∧ Did F w w' g (D.arm n) := by
  have hA := Lib.hid (h.setA (decide (0 ≤ n)) (max n 0) (by omega) (by omega))
  have hok := Lib.hid (ok_calls h)
  have ma := run_max0 n
  obtain ⟨km, bm, A, c, c0, c1, c2, c3, c4, c5, c6, fz, hk, hm, ho, hr, hl⟩ := h.cells
  have f4 := fz 4
  have f5 := fz 5
  clear hk hm ho hr hl fz h
  go_enter Try.func31, Try.ntmps31
  go_wp2_with fail
  refine hok.out.mono ?_
  rintro e w' ⟨rfl, rfl⟩
  go_wp2
  go_end0
  exact ⟨rfl, hA.out⟩
end
end Go.Proofs.Ytglpckdmiohciaa
