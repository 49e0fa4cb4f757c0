/- law11.awake, beside laws other than DiffOf (out of LawDiffOf) -/
import Derived.Test.YtofdmkglhjpbcaaDiffOf
import Derived.Test.YtofdmkglhjpbcaaOfSpec
import Derived.Test.YtofdmkglhjpbcaaSameChanges
import Derived.Test.YtofdmkglhjpbcaaMapA
namespace Go.Proofs.Ytofdmkglhjpbcaa
open Go.RowKit
set_option linter.unusedVariables false
set_option linter.unusedSimpArgs false

def sA : Str := ⟨#[97]⟩
def s1 : Str := ⟨#[49]⟩
def s2 : Str := ⟨#[50]⟩
theorem awake11_of : ofL 2 [⟨sA, s1⟩] [⟨sA, s2⟩] = [⟨sA, true, s1, true, s2⟩] := by decide +kernel

set_option maxRecDepth 100000 in
theorem awake11_calls (w : World) : Calls Try.prog 14 #[] w fun e w' => e = .returned (.bool true) ∧ Below w.heap.size w w' := by
  have hA : Hid (Rd Entry.enc 2 ((w.alloc (.cells #[.string sA, .string s1] 72)).alloc (.cells #[.string sA, .string s2] 72)) (some ⟨w.heap.size, 0, none⟩) [⟨sA, s1⟩]) := Rd.lit (cs := #[.string sA, .string s1]) (blk_alloc (blk_new _ _) _) rfl
  have hB : Hid (Rd Entry.enc 2 ((w.alloc (.cells #[.string sA, .string s1] 72)).alloc (.cells #[.string sA, .string s2] 72)) (some ⟨w.heap.size + 1, 0, none⟩) [⟨sA, s2⟩]) := by
    have := Rd.lit (enc := Entry.enc) (sz := 2) (x := ⟨sA, s2⟩) (cs := #[.string sA, .string s2]) (blk_new (w.alloc (.cells #[.string sA, .string s1] 72)) (.cells #[.string sA, .string s2] 72)) rfl
    simpa [Hid] using this
  go_enter Try.func14, Try.ntmps14
  go_wp2_with fail
  refine (DiffOf_calls _ _ _ 1 1 [⟨sA, s1⟩] [⟨sA, s2⟩] hA.out hB.out (by simp) (by simp) (by omega) (by omega) (fun _ a ha => by cases ha; simp; omega) (fun _ a ha => by cases ha; simp) (by simp)).mono ?_
  rintro e w1 ⟨v, rfl, ho, hb⟩
  have ho' : Own Change.enc 5 35 _ w1 v [⟨sA, true, s1, true, s2⟩] := awake11_of ▸ ho
  obtain ⟨A, c, rfl, hc, hm, hr, hba⟩ := ho'.rd Change.ok
  rcases hr with h0 | ⟨b, off, rfl, hbl, hcell⟩
  · cases h0
  have c2 : w1.cell? ⟨b, off + 2, none⟩ = some (.string s1) := by have := hcell 0 _ rfl 2 _ rfl; simpa using this
  have c4 : w1.cell? ⟨b, off + 4, none⟩ = some (.string s2) := by have := hcell 0 _ rfl 4 _ rfl; simpa using this
  have q1 : (s1.toList == ([49] : List UInt8)) = true := by decide +kernel
  have q2 : (s2.toList == ([50] : List UInt8)) = true := by decide +kernel
  have hb1 : Hid (Below w.heap.size w w1) := bl_then (bl_alloc (bl_alloc (Below.refl _ _) _) _) (by simp; omega) hb
  clear hcell ho ho' hb hba
  generalize s1 = t1 at *
  generalize s2 = t2 at *
  go_wp2
  go_ret
  exact ⟨rfl, hb1.out⟩

theorem isMap_len {l : List Entry} (h : isMap l = true) : l.length ≤ 60 := by
  simp only [isMap, light, Bool.and_eq_true, decide_eq_true_eq] at h
  exact h.1.2

end Go.Proofs.Ytofdmkglhjpbcaa
