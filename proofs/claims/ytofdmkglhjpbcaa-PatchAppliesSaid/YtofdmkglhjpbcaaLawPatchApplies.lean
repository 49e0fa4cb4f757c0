/- law28.PatchApplies -/
import Derived.Test.YtofdmkglhjpbcaaRPatchApply
import Derived.Test.YtofdmkglhjpbcaaAwake28
import Derived.Test.YtofdmkglhjpbcaaSameEntries
import Derived.Test.YtofdmkglhjpbcaaCameR
namespace Go.Proofs.Ytofdmkglhjpbcaa
open Go.RowKit
set_option linter.unusedVariables false
set_option linter.unusedSimpArgs false

set_option maxRecDepth 100000 in
set_option maxHeartbeats 2000000 in
theorem LawPatchApplies_calls (w : World) (v u : Value) (a : List Entry) (l : List Change) (hv : Came w v a) (hu : CameR Change.enc 5 Change.good w u l) :
    Calls Try.prog 9 #[v, u] w fun e w' => e = .returned (.bool true) ∧ Below w.heap.size w w' := by
  obtain ⟨A, c, rfl, hc, hc', hA, gA, hA'⟩ := hv
  obtain ⟨B, d, rfl, hd, hd', hB, gB, hB'⟩ := hu
  have HA := Lib.hid hA
  have HB := Lib.hid hB
  have GA := Lib.hid gA
  have GB : Hid (SmallC l) := gB
  have KA := Lib.hid hA'
  clear hA hB gA gB hA' hB'
  cases la : isMap a with
  | false =>
    have La := Lib.hid la
    clear la
    go_enter Try.func9, Try.ntmps9
    go_wp2_with fail
    refine (awake28_calls w).mono ?_
    rintro e w0 ⟨rfl, hb0⟩
    go_wp2_with fail
    refine (Map_calls _ _ _ a (by omega) hc GA.out (HA.out.below hb0 (Nat.le_refl _))).mono ?_
    rintro e w1 ⟨rfl, q⟩
    rw [La.out]
    have hb1 := bl_then hb0 hb0.size q
    go_wp2
    go_ret
    exact ⟨rfl, hb1⟩
  | true =>
    have La := Lib.hid la
    clear la
    have na := isMap_len La.out
    cases ll : lightCs l with
    | false =>
      have Ll := Lib.hid ll
      clear ll
      go_enter Try.func9, Try.ntmps9
      go_wp2_with fail
      refine (awake28_calls w).mono ?_
      rintro e w0 ⟨rfl, hb0⟩
      go_wp2_with fail
      refine (Map_calls _ _ _ a (by omega) hc GA.out (HA.out.below hb0 (Nat.le_refl _))).mono ?_
      rintro e w1 ⟨rfl, q⟩
      rw [La.out]
      have hb1 := bl_then hb0 hb0.size q
      clear q hb0
      go_wp2_with fail
      refine (lightCs_calls _ _ _ l (by omega) GB.out (HB.out.below hb1 (Nat.le_refl _))).mono ?_
      rintro e w2 ⟨rfl, q⟩
      rw [Ll.out]
      go_wp2
      go_ret
      exact ⟨rfl, bl_then hb1 hb1.size q⟩
    | true =>
      have Ll := Lib.hid ll
      clear ll
      have nl := lightCs_len Ll.out
      go_enter Try.func9, Try.ntmps9
      go_wp2_with fail
      refine (awake28_calls w).mono ?_
      rintro e w0 ⟨rfl, hb0⟩
      go_wp2_with fail
      refine (Map_calls _ _ _ a (by omega) hc GA.out (HA.out.below hb0 (Nat.le_refl _))).mono ?_
      rintro e w1 ⟨rfl, q⟩
      rw [La.out]
      have hb1 := bl_then hb0 hb0.size q
      clear q hb0
      go_wp2_with fail
      refine (lightCs_calls _ _ _ l (by omega) GB.out (HB.out.below hb1 (Nat.le_refl _))).mono ?_
      rintro e w2 ⟨rfl, q⟩
      rw [Ll.out]
      have hb2 := Lib.hid (bl_then hb1 hb1.size q)
      clear q hb1
      go_wp2_with fail
      refine (PApply_calls _ A B c d a l (by omega) (by omega) (isMap_rises La.out) GA.out GB.out (HA.out.below hb2.out (Nat.le_refl _)) (HB.out.below hb2.out (Nat.le_refl _)) (fun h x hx => Nat.lt_of_lt_of_le (KA.out h x hx) hb2.out.size)).mono ?_
      rintro e w3 ⟨v1, rfl, ho, q⟩
      obtain ⟨A1, c1, rfl, k1, k2, k3, -⟩ := ho.rd Entry.ok
      have E1 := Lib.hid k3
      have hb3 := Lib.hid (bl_then hb2.out hb2.out.size q)
      clear q k3 ho hb2
      go_wp2_with fail
      refine (RApply_calls _ A B c d a l (by omega) hc hc' GB.out (HA.out.below hb3.out (Nat.le_refl _)) (HB.out.below hb3.out (Nat.le_refl _))).mono ?_
      rintro e w4 ⟨A2, c2, rfl, hl2, k4, q⟩
      have E2 := Lib.hid k4
      have E1' := Lib.hid (E1.out.below q (Nat.le_refl _))
      have hb4 := Lib.hid (bl_then hb3.out hb3.out.size q)
      clear q k4 hb3 E1
      generalize patchApply a l = p at *
      obtain ⟨r, er⟩ := p
      simp only at *
      go_wp2_with fail
      refine (SameEntries_calls _ A1 A2 c1 c2 r r (by omega) (by omega) E1'.out E2.out).mono ?_
      rintro e w5 ⟨rfl, q⟩
      rw [show decide (r = r) = true from decide_eq_true rfl]
      have hb5 := Lib.hid (bl_then hb4.out hb4.out.size q)
      clear q hb4
      have hee : (er == er) = true := by simp
      go_wp2
      go_ret
      exact ⟨rfl, hb5.out⟩
end Go.Proofs.Ytofdmkglhjpbcaa
