/- law12.MergeIdle -/
import Derived.Test.YtofdmkglhjpbcaaRefMerge
import Derived.Test.YtofdmkglhjpbcaaSameClashes
import Derived.Test.YtofdmkglhjpbcaaSameEntries
import Derived.Test.YtofdmkglhjpbcaaAwake12
import Derived.Test.YtofdmkglhjpbcaaAwake11
namespace Go.Proofs.Ytofdmkglhjpbcaa
open Go.RowKit
set_option linter.unusedVariables false
set_option linter.unusedSimpArgs false
attribute [local go_sem high] eqSide eqClash

set_option maxRecDepth 100000 in
set_option maxHeartbeats 2000000 in
theorem LawMergeIdle_calls (w : World) (v u : Value) (a b : List Entry) (hv : Came w v a) (hu : Came w u b) :
    Calls Try.prog 8 #[v, u] w fun e w' => e = .returned (.bool true) ∧ Below w.heap.size w w' := by
  obtain ⟨A, c, rfl, hc, hc', hA, gA, hA'⟩ := hv
  have HA := Lib.hid hA
  have GA := Lib.hid gA
  have KA := Lib.hid hA'
  clear hA gA hA'
  obtain ⟨B, d, rfl, hd, hd', hB, gB, hB'⟩ := hu
  have HB := Lib.hid hB
  have GB := Lib.hid gB
  have KB := Lib.hid hB'
  clear hB gB hB'
  cases la : isMap a with
  | false =>
    have La := Lib.hid la
    clear la
    go_enter Try.func8, Try.ntmps8
    go_wp2_with fail
    refine (awake12_calls w).mono ?_
    rintro e w0 ⟨rfl, hb0⟩
    go_wp2_with fail
    refine (Map_calls _ _ _ a (by omega) hc GA.out (HA.out.below hb0 (Nat.le_refl _))).mono ?_
    rintro e w1 ⟨rfl, q⟩
    rw [La.out]
    have hb1 := bl_then hb0 hb0.size q
    clear q hb0
    go_wp2
    go_ret
    exact ⟨rfl, hb1⟩
  | true =>
    have La := Lib.hid la
    clear la
    have na := isMap_len La.out
    have ra := Lib.hid (ris_iff.2 (rises_srt (isMap_rises La.out)))
    cases lb : isMap b with
    | false =>
      have Lb := Lib.hid lb
      clear lb
      go_enter Try.func8, Try.ntmps8
      go_wp2_with fail
      refine (awake12_calls w).mono ?_
      rintro e w0 ⟨rfl, hb0⟩
      go_wp2_with fail
      refine (Map_calls _ _ _ a (by omega) hc GA.out (HA.out.below hb0 (Nat.le_refl _))).mono ?_
      rintro e w1 ⟨rfl, q⟩
      rw [La.out]
      have hb1 := bl_then hb0 hb0.size q
      clear q hb0
      go_wp2_with fail
      refine (Map_calls _ _ _ b (by omega) hd GB.out (HB.out.below hb1 (Nat.le_refl _))).mono ?_
      rintro e w2 ⟨rfl, q⟩
      rw [Lb.out]
      have hb2 := bl_then hb1 hb1.size q
      clear q hb1
      go_wp2
      go_ret
      exact ⟨rfl, hb2⟩
    | true =>
      have Lb := Lib.hid lb
      clear lb
      have nb := isMap_len Lb.out
      have rb := Lib.hid (ris_iff.2 (rises_srt (isMap_rises Lb.out)))
      go_enter Try.func8, Try.ntmps8
      go_wp2_with fail
      refine (awake12_calls w).mono ?_
      rintro e w0 ⟨rfl, hb0⟩
      go_wp2_with fail
      refine (Map_calls _ _ _ a (by omega) hc GA.out (HA.out.below hb0 (Nat.le_refl _))).mono ?_
      rintro e w1 ⟨rfl, q⟩
      rw [La.out]
      have hb1 := bl_then hb0 hb0.size q
      clear q hb0
      go_wp2_with fail
      refine (Map_calls _ _ _ b (by omega) hd GB.out (HB.out.below hb1 (Nat.le_refl _))).mono ?_
      rintro e w2 ⟨rfl, q⟩
      rw [Lb.out]
      have hb2 := bl_then hb1 hb1.size q
      clear q hb1
      have hb2 := Lib.hid hb2
      have m1 := merge_baa (b := a) ra.out
      have m2 := merge_baa (b := b) ra.out
      go_wp2_with fail
      refine (MergeOf_calls _ A A A c c c a a a (by omega) (by omega) (by omega) GA.out GA.out GA.out (HA.out.below hb2.out (Nat.le_refl _)) (HA.out.below hb2.out (Nat.le_refl _)) (HA.out.below hb2.out (Nat.le_refl _)) (fun h a ha => Nat.lt_of_lt_of_le (KA.out h a ha) hb2.out.size) (fun h a ha => Nat.lt_of_lt_of_le (KA.out h a ha) hb2.out.size) (fun h a ha => Nat.lt_of_lt_of_le (KA.out h a ha) hb2.out.size)).mono ?_
      rintro e w3 ⟨v1, u1, rfl, ov1, ou1, q⟩
      rw [m1.1] at ov1
      rw [m1.2] at ou1
      obtain ⟨A1, c1, rfl, i1, i1', e1, -⟩ := ov1.rd Entry.ok
      obtain ⟨B1, d1, rfl, j1, j1', f1, -⟩ := ou1.rd Clash.ok
      have E1 := Lib.hid e1
      have F1 := Lib.hid f1
      clear e1 f1 ov1 ou1
      have hb3 := Lib.hid (bl_then hb2.out hb2.out.size q)
      clear q hb2
      go_wp2_with fail
      refine (MergeOf_calls _ B A A d c c b a a (by omega) (by omega) (by omega) GB.out GA.out GA.out (HB.out.below hb3.out (Nat.le_refl _)) (HA.out.below hb3.out (Nat.le_refl _)) (HA.out.below hb3.out (Nat.le_refl _)) (fun h a ha => Nat.lt_of_lt_of_le (KB.out h a ha) hb3.out.size) (fun h a ha => Nat.lt_of_lt_of_le (KA.out h a ha) hb3.out.size) (fun h a ha => Nat.lt_of_lt_of_le (KA.out h a ha) hb3.out.size)).mono ?_
      rintro e w4 ⟨v2, u2, rfl, ov2, ou2, q⟩
      rw [m2.1] at ov2
      rw [m2.2] at ou2
      obtain ⟨A2, c2, rfl, i2, i2', e2, -⟩ := ov2.rd Entry.ok
      obtain ⟨B2, d2, rfl, j2, j2', f2, -⟩ := ou2.rd Clash.ok
      have E2 := Lib.hid e2
      have F2 := Lib.hid f2
      clear e2 f2 ov2 ou2
      have hb4 := Lib.hid (bl_then hb3.out hb3.out.size q)
      have E1 := Lib.hid (E1.out.below q (Nat.le_refl _))
      clear q hb3
      clear m1 m2
      go_wp2_with fail
      refine (SameEntries_calls _ A1 A c1 c a a (by omega) (by omega) E1.out (HA.out.below hb4.out (Nat.le_refl _))).mono ?_
      rintro e w5 ⟨rfl, q⟩
      rw [show decide (a = a) = true from decide_eq_true rfl]
      have hb5 := Lib.hid (bl_then hb4.out hb4.out.size q)
      have E2 := Lib.hid (E2.out.below q (Nat.le_refl _))
      clear q hb4
      go_wp2_with fail
      refine (SameEntries_calls _ A2 A c2 c a a (by omega) (by omega) E2.out (HA.out.below hb5.out (Nat.le_refl _))).mono ?_
      rintro e w6 ⟨rfl, q⟩
      rw [show decide (a = a) = true from decide_eq_true rfl]
      have hb6 := Lib.hid (bl_then hb5.out hb5.out.size q)
      clear q hb5
      go_wp2
      go_ret
      exact ⟨rfl, hb6.out⟩
end Go.Proofs.Ytofdmkglhjpbcaa
