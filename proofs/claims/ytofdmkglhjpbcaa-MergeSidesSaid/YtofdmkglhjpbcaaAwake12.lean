/- law12.awake -/
import Derived.Test.YtofdmkglhjpbcaaRefMerge
namespace Go.Proofs.Ytofdmkglhjpbcaa
open Go.RowKit
set_option linter.unusedVariables false
set_option linter.unusedSimpArgs false
attribute [local go_sem high] eqSide

def sdA : Side := ⟨true, ⟨#[97]⟩⟩
def sdB : Side := ⟨true, ⟨#[98]⟩⟩
def sdC : Side := ⟨true, ⟨#[99]⟩⟩
theorem eqSideL (d : Nat) (w : World) (h1 h2 : Bool) (v1 v2 : Str) : (Op.equalIn (d + 2) 45 (.agg #[.bool h1, .string v1]) (.agg #[.bool h2, .string v2])).run Try.prog w = .ok (decide ((⟨h1, v1⟩ : Side) = ⟨h2, v2⟩)) w := eqSide d w ⟨h1, v1⟩ ⟨h2, v2⟩

set_option maxRecDepth 100000 in
set_option maxHeartbeats 1000000 in
theorem awake12_calls (w : World) : Calls Try.prog 24 #[] w fun e w' => e = .returned (.bool true) ∧ Below w.heap.size w w' := by
  have k1 : Hid (∀ W, Calls Try.prog 49 #[.agg #[.bool true, .string ⟨#[97]⟩], .agg #[.bool true, .string ⟨#[98]⟩], .agg #[.bool true, .string ⟨#[99]⟩]] W fun e w' => e = .returned (.tuple #[.agg #[.bool true, .string ⟨#[98]⟩], .bool false]) ∧ Below W.heap.size W w') := fun W => by
    have p1 : pickP sdA sdB sdC = (sdB, false) := by decide +kernel
    have := Key_calls W sdA sdB sdC rfl rfl rfl
    rw [p1] at this
    exact this
  have k2 : Hid (∀ W, Calls Try.prog 49 #[.agg #[.bool true, .string ⟨#[97]⟩], .agg #[.bool true, .string ⟨#[97]⟩], .agg #[.bool true, .string ⟨#[99]⟩]] W fun e w' => e = .returned (.tuple #[.agg #[.bool true, .string ⟨#[99]⟩], .bool true]) ∧ Below W.heap.size W w') := fun W => by
    have p1 : pickP sdA sdA sdC = (sdC, true) := by decide +kernel
    have := Key_calls W sdA sdA sdC rfl rfl rfl
    rw [p1] at this
    exact this
  have eB : ∀ (d : Nat) (W : World), (Op.equalIn (d + 2) 45 (.agg #[.bool true, .string ⟨#[98]⟩]) (.agg #[.bool true, .string ⟨#[98]⟩])).run Try.prog W = .ok true W := fun d W => by
    have := eqSideL d W true true ⟨#[98]⟩ ⟨#[98]⟩
    rw [decide_eq_true rfl] at this
    exact this
  have eC : ∀ (d : Nat) (W : World), (Op.equalIn (d + 2) 45 (.agg #[.bool true, .string ⟨#[99]⟩]) (.agg #[.bool true, .string ⟨#[99]⟩])).run Try.prog W = .ok true W := fun d W => by
    have := eqSideL d W true true ⟨#[99]⟩ ⟨#[99]⟩
    rw [decide_eq_true rfl] at this
    exact this
  have T0 := Lib.hid (Trip.made w sdA sdB sdC)
  have B0 : Hid (Below w.heap.size w (((w.alloc (bxS sdA)).alloc (bxS sdB)).alloc (bxS sdC))) := bl_alloc (bl_alloc (bl_alloc (Below.refl _ _) _) _) _
  go_enter Try.func24, Try.ntmps24
  go_wp2_with fail
  refine (k1.out _).mono ?_
  rintro e w1 ⟨rfl, hb1⟩
  have T1 := Lib.hid (T0.out.below hb1)
  have B1 := Lib.hid (bl_alloc (bl_then B0.out B0.out.size hb1) (bxS sdB))
  have T2 := Lib.hid (T1.out.alloc (bxS sdB))
  have D2 : Hid ((w1.alloc (bxS sdB)).heap[w1.heap.size]? = some (bxS sdB)) := blk_new _ _
  have r := T2.out.cells
  simp only [sdA, sdB, sdC, bxS] at r
  obtain ⟨⟨r1, r2⟩, ⟨r3, r4⟩, ⟨r5, r6⟩⟩ := r
  clear hb1 T0 T1 B0
  go_wp2_with fail
  refine (k2.out _).mono ?_
  rintro e w2 ⟨rfl, hb2⟩
  have T3 := Lib.hid (T2.out.below hb2)
  have D3 : Hid (w2.heap[w1.heap.size]? = some (bxS sdB)) := blk_below hb2 D2.out (blk_lt D2.out)
  have B2 := Lib.hid (bl_alloc (bl_then B1.out B1.out.size hb2) (bxS sdC))
  have T4 := Lib.hid (T3.out.alloc (bxS sdC))
  have D4 : Hid ((w2.alloc (bxS sdC)).heap[w1.heap.size]? = some (bxS sdB)) := blk_alloc D3.out _
  clear r1 r2 r3 r4 r5 r6 hb2 T3 T2 D2 D3 B1
  have r := T4.out.cells
  have r' := side_cells D4.out
  simp only [sdA, sdB, sdC, bxS] at r r'
  obtain ⟨⟨r1, r2⟩, ⟨r3, r4⟩, ⟨r5, r6⟩⟩ := r
  obtain ⟨r7, r8⟩ := r'
  go_wp2
  go_ret
  exact ⟨rfl, B2.out⟩
end Go.Proofs.Ytofdmkglhjpbcaa
