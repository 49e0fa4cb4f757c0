/- law28.PatchPuts -/
import Derived.Test.YtofdmkglhjpbcaaPatchOfR
import Derived.Test.YtofdmkglhjpbcaaPutPatch
import Derived.Test.YtofdmkglhjpbcaaPatchA
import Derived.Test.YtofdmkglhjpbcaaAwake28
import Derived.Test.YtofdmkglhjpbcaaSameChanges
import Derived.Test.YtofdmkglhjpbcaaCameR
import Derived.Test.YtofdmkglhjpbcaaOpenU8
namespace Go.Proofs.Ytofdmkglhjpbcaa
open Go.RowKit
set_option linter.unusedVariables false
set_option linter.unusedSimpArgs false

theorem lightCs_tiny {l : List Change} (h : lightCs l = true) : Tiny l := by
  unfold lightCs at h
  simp only [Bool.and_eq_true, List.all_eq_true, decide_eq_true_eq] at h
  intro c hc
  have := h.1 c hc
  unfold lightC at this
  simp only [Bool.and_eq_true, Bool.not_eq_true', decide_eq_false_iff_not] at this
  omega

set_option maxRecDepth 100000 in
set_option maxHeartbeats 2000000 in
theorem LawPatchPuts_calls (w : World) (v u : Value) (l : List Change) (b : List Int) (hv : CameR Change.enc 5 Change.good w v l) (hu : CameR u8e 1 byteOk w u b) :
    Calls Try.prog 10 #[v, u] w fun e w' => e = .returned (.bool true) ∧ Below w.heap.size w w' := by
  obtain ⟨A, c, rfl, hc, hc', hA, gA, hA'⟩ := hv
  have HA := Lib.hid hA
  have GA : Hid (SmallC l) := gA
  clear hA gA hA'
  obtain ⟨B, d, rfl, hd, hd', hB, gB, hB'⟩ := hu
  have HB := Lib.hid hB
  have GB : Hid (bytesL b) := gB
  clear hB gB hB'
  cases lp : lightCs l with
  | false =>
    have Lp := Lib.hid lp
    clear lp
    go_enter Try.func10, Try.ntmps10
    go_wp2_with fail
    refine (awake28_calls w).mono ?_
    rintro e w0 ⟨rfl, hb0⟩
    go_wp2_with fail
    refine (lightCs_calls _ _ _ l (by omega) GA.out (HA.out.below hb0 (Nat.le_refl _))).mono ?_
    rintro e w1 ⟨rfl, q⟩
    rw [Lp.out]
    have hb1 := bl_then hb0 hb0.size q
    clear q hb0
    go_wp2
    go_ret
    exact ⟨rfl, hb1⟩
  | true =>
    have Lp := Lib.hid lp
    have np := lightCs_len lp
    have TL := Lib.hid (lightCs_tiny lp)
    clear lp
    by_cases hbig : 2000 < b.length
    · have hbig' : (2000 : Int) < (b.length : Int) := by omega
      clear hbig
      go_enter Try.func10, Try.ntmps10
      go_wp2_with fail
      refine (awake28_calls w).mono ?_
      rintro e w0 ⟨rfl, hb0⟩
      go_wp2_with fail
      refine (lightCs_calls _ _ _ l (by omega) GA.out (HA.out.below hb0 (Nat.le_refl _))).mono ?_
      rintro e w1 ⟨rfl, q⟩
      rw [Lp.out]
      have hb1 := bl_then hb0 hb0.size q
      clear q hb0
      go_wp2
      go_ret
      exact ⟨rfl, hb1⟩
    · have hsm : (b.length : Int) ≤ 2000 := by omega
      clear hbig
      go_enter Try.func10, Try.ntmps10
      go_wp2_with fail
      refine (awake28_calls w).mono ?_
      rintro e w0 ⟨rfl, hb0⟩
      go_wp2_with fail
      refine (lightCs_calls _ _ _ l (by omega) GA.out (HA.out.below hb0 (Nat.le_refl _))).mono ?_
      rintro e w1 ⟨rfl, q⟩
      rw [Lp.out]
      have hb1 := Lib.hid (bl_then hb0 hb0.size q)
      clear q hb0
      go_wp2_with fail
      refine (patchPut_calls _ A c l (by omega) TL.out (HA.out.below hb1.out (Nat.le_refl _))).mono ?_
      rintro e w2 ⟨v1, rfl, o1, q⟩
      have O1 := Lib.hid o1
      have hb2 := Lib.hid (bl_then hb1.out hb1.out.size q)
      clear q o1 hb1
      go_wp2_with fail
      refine (rPutPatch_calls _ A c l (by omega) TL.out (HA.out.below hb2.out (Nat.le_refl _))).mono ?_
      rintro e w3 ⟨v2, rfl, o2, q⟩
      have O2 := Lib.hid o2
      have O1 := Lib.hid (O1.out.below q)
      have hb3 := Lib.hid (bl_then hb2.out hb2.out.size q)
      clear q o2 hb2
      go_wp2_with fail
      refine (patchOf_calls _ B d b (by omega) GB.out (HB.out.below hb3.out (Nat.le_refl _))).mono ?_
      rintro e w4 ⟨v3, rfl, o3, q⟩
      obtain ⟨A3, c3, rfl, i3, i3', e3, -⟩ := o3.rd Change.ok
      have E3 := Lib.hid e3
      have O1 := Lib.hid (O1.out.below q)
      have O2 := Lib.hid (O2.out.below q)
      have hb4 := Lib.hid (bl_then hb3.out hb3.out.size q)
      clear q o3 hb3 e3
      go_wp2_with fail
      refine (rPatchOf_calls _ B d b (by omega) hd GB.out (HB.out.below hb4.out (Nat.le_refl _))).mono ?_
      rintro e w5 ⟨v4, rfl, o4, q⟩
      obtain ⟨A4, c4, rfl, i4, i4', e4, -⟩ := o4.rd Change.ok
      have E4 := Lib.hid e4
      have E3 := Lib.hid (E3.out.below q (Nat.le_refl _))
      have O1 := Lib.hid (O1.out.below q)
      have O2 := Lib.hid (O2.out.below q)
      have hb5 := Lib.hid (bl_then hb4.out hb4.out.size q)
      clear q o4 hb4 e4
      go_wp2_with fail
      refine (Right_calls28 _ A c l (by omega) GA.out (HA.out.below hb5.out (Nat.le_refl _))).mono ?_
      rintro e w6 ⟨rfl, q⟩
      have E3 := Lib.hid (E3.out.below q (Nat.le_refl _))
      have E4 := Lib.hid (E4.out.below q (Nat.le_refl _))
      have O1 := Lib.hid (O1.out.below q)
      have O2 := Lib.hid (O2.out.below q)
      have hb6 := Lib.hid (bl_then hb5.out hb5.out.size q)
      clear q hb5
      go_wp2_with fail
      refine (Patch_calls _ A c l (by omega) GA.out (HA.out.below hb6.out (Nat.le_refl _))).mono ?_
      rintro e w7 ⟨rfl, q⟩
      have E3 := Lib.hid (E3.out.below q (Nat.le_refl _))
      have E4 := Lib.hid (E4.out.below q (Nat.le_refl _))
      have s1 := own_str (O1.out.below q)
      have s2 := own_str (O2.out.below q)
      have hb7 := Lib.hid (bl_then hb6.out hb6.out.size q)
      clear q hb6 O1 O2
      generalize patchErr l = pe at *
      generalize patchPut l = pp at *
      generalize patchOf b = po at *
      obtain ⟨xs, e1⟩ := pp
      obtain ⟨cs, e2⟩ := po
      simp only at *
      have h1 : (pe == pe) = true := by simp
      have h2 : (e1 == e1) = true := by simp
      have h3 : (e2 == e2) = true := by simp
      have h4 : ((strOfNums xs).toList == (strOfNums xs).toList) = true := by simp
      go_wp2_with fail
      refine (SameChanges_calls _ A3 A4 c3 c4 cs cs (by omega) (by omega) E3.out E4.out).mono ?_
      rintro e w8 ⟨rfl, q⟩
      rw [show decide (cs = cs) = true from decide_eq_true rfl]
      have hb8 := Lib.hid (bl_then hb7.out hb7.out.size q)
      clear q hb7
      go_wp2
      go_ret
      exact ⟨rfl, hb8.out⟩
end Go.Proofs.Ytofdmkglhjpbcaa
