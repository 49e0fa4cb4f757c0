/- law28.awake -/
import Derived.Test.YtofdmkglhjpbcaaPatchApply
import Derived.Test.YtofdmkglhjpbcaaAwake11
namespace Go.Proofs.Ytofdmkglhjpbcaa
open Go.RowKit
set_option linter.unusedVariables false
set_option linter.unusedSimpArgs false

def chA : Change := ⟨sA, true, s1, true, s2⟩
theorem aw1 : patchApply [] [chA] = ([], 170) := by decide +kernel
theorem aw2 : patchApply [⟨sA, s1⟩] [chA] = ([⟨sA, s2⟩], 0) := by decide +kernel

set_option maxRecDepth 100000 in
set_option maxHeartbeats 1000000 in
theorem awake28_calls (w : World) : Calls Try.prog 29 #[] w fun e w' => e = .returned (.bool true) ∧ Below w.heap.size w w' := by
  have hR : Hid (Rd Change.enc 5 (w.alloc (.cells #[.string sA, .bool true, .string s1, .bool true, .string s2] 35)) (some ⟨w.heap.size, 0, none⟩) [chA]) := Rd.lit (cs := #[.string sA, .bool true, .string s1, .bool true, .string s2]) (blk_new _ _) rfl
  have zC : SmallC [chA] := fun x hx => by simp at hx; subst hx; exact ⟨by decide +kernel, by decide +kernel, by decide +kernel⟩
  have ZC := Lib.hid zC
  have ZE : Hid (Small' [⟨sA, s1⟩]) := fun x hx => by simp at hx; subst hx; exact ⟨by decide +kernel, by decide +kernel⟩
  clear zC
  go_enter Try.func29, Try.ntmps29
  go_wp2_with fail
  refine (PApply_calls _ none (some ⟨w.heap.size, 0, none⟩) 0 1 [] [chA] (by simp) (by simp) rfl (fun x hx => by cases hx) ZC.out (.inl rfl) hR.out (fun h => absurd rfl h)).mono ?_
  rintro e w1 ⟨v, rfl, ho, hb1⟩
  rw [aw1] at ho
  rw [aw1]
  obtain ⟨A0, c0, rfl, -, -, -, -⟩ := ho.rd Entry.ok
  have R1 := Lib.hid (hR.out.below hb1 (Nat.le_refl _))
  have B1 : Hid (Below w.heap.size w w1) := bl_then (bl_alloc (Below.refl _ _) _) (by simp) hb1
  have R2 : Hid (Rd Change.enc 5 (w1.alloc (.cells #[.string sA, .string s1] 72)) (some ⟨w.heap.size, 0, none⟩) [chA]) := R1.out.below (bl_alloc (Below.refl w1.heap.size w1) _) (Nat.le_refl _)
  have E2 : Hid (Rd Entry.enc 2 (w1.alloc (.cells #[.string sA, .string s1] 72)) (some ⟨w1.heap.size, 0, none⟩) [⟨sA, s1⟩]) := Rd.lit (cs := #[.string sA, .string s1]) (blk_new _ _) rfl
  have B2 : Hid (Below w.heap.size w (w1.alloc (.cells #[.string sA, .string s1] 72))) := bl_alloc B1.out _
  clear ho hb1 hR R1 B1
  go_wp2_with fail
  refine (PApply_calls _ (some ⟨w1.heap.size, 0, none⟩) (some ⟨w.heap.size, 0, none⟩) 1 1 [⟨sA, s1⟩] [chA] (by simp) (by simp) (by decide +kernel) ZE.out ZC.out E2.out R2.out (fun _ x hx => by cases hx; simp)).mono ?_
  rintro e w2 ⟨v, rfl, ho, hb2⟩
  rw [aw2] at ho
  rw [aw2]
  obtain ⟨A1, c1, rfl, k1, k2, hr, -⟩ := ho.rd Entry.ok
  rcases hr with h0 | ⟨b, off, rfl, hbl, hcell⟩
  · cases h0
  have x1 : w2.cell? ⟨b, off + 1, none⟩ = some (.string s2) := by have := hcell 0 _ rfl 1 _ rfl; simpa using this
  have q1 : (s2.toList == ([50] : List UInt8)) = true := by decide +kernel
  have B3 := Lib.hid (bl_then B2.out B2.out.size hb2)
  clear hcell ho hb2 R2 E2 B2
  generalize s2 = t2 at *
  go_wp2
  go_ret
  exact ⟨rfl, B3.out⟩
end Go.Proofs.Ytofdmkglhjpbcaa
