/- law28.PatchTurns -/
import Derived.Test.YtofdmkglhjpbcaaPatchLaw3
import Derived.Test.YtofdmkglhjpbcaaPatchJoin
import Derived.Test.YtofdmkglhjpbcaaAwake28
import Derived.Test.YtofdmkglhjpbcaaSameEntries
import Derived.Test.YtofdmkglhjpbcaaCameR
namespace Go.Proofs.Ytofdmkglhjpbcaa
open Go.RowKit
set_option linter.unusedVariables false
set_option linter.unusedSimpArgs false

set_option maxRecDepth 100000 in
set_option maxHeartbeats 2000000 in
theorem LawPatchTurns_calls (w : World) (v u : Value) (a : List Entry) (l : List Change) (hv : Came w v a) (hu : CameR Change.enc 5 Change.good w u l) :
    Calls Try.prog 12 #[v, u] w fun e w' => e = .returned (.bool true) ∧ Below w.heap.size w w' := by
  obtain ⟨A, c, rfl, hc, hc', hA, gA, hA'⟩ := hv
  have HA := Lib.hid hA
  have GA := Lib.hid gA
  have KA := Lib.hid hA'
  clear hA gA hA'
  obtain ⟨B, d, rfl, hd, hd', hB, gB, hB'⟩ := hu
  have HB := Lib.hid hB
  have GB : Hid (SmallC l) := gB
  have KB := Lib.hid hB'
  clear hB gB hB'
  cases la : isMap a with
  | false =>
    have La := Lib.hid la
    clear la
    go_enter Try.func12, Try.ntmps12
    go_wp2_with fail
    refine (awake28_calls w).mono ?_
    rintro e w0 ⟨rfl, hb0⟩
    go_wp2_with fail
    refine (Map_calls _ _ _ a (by omega) hc GA.out (HA.out.below hb0 (Nat.le_refl _))).mono ?_
    rintro e w1 ⟨rfl, q⟩
    rw [La.out]
    have hb1 := bl_then hb0 hb0.size q
    clear q hb0
    go_wp2
    go_ret
    exact ⟨rfl, hb1⟩
  | true =>
    have La := Lib.hid la
    clear la
    have na := isMap_len La.out
    cases ll : lightCs l with
    | false =>
      have Ll := Lib.hid ll
      clear ll
      go_enter Try.func12, Try.ntmps12
      go_wp2_with fail
      refine (awake28_calls w).mono ?_
      rintro e w0 ⟨rfl, hb0⟩
      go_wp2_with fail
      refine (Map_calls _ _ _ a (by omega) hc GA.out (HA.out.below hb0 (Nat.le_refl _))).mono ?_
      rintro e w1 ⟨rfl, q⟩
      rw [La.out]
      have hb1 := bl_then hb0 hb0.size q
      clear q hb0
      go_wp2_with fail
      refine (lightCs_calls _ _ _ l (by omega) GB.out (HB.out.below hb1 (Nat.le_refl _))).mono ?_
      rintro e w2 ⟨rfl, q⟩
      rw [Ll.out]
      have hb2 := bl_then hb1 hb1.size q
      clear q hb1
      go_wp2
      go_ret
      exact ⟨rfl, hb2⟩
    | true =>
      have Ll := Lib.hid ll
      clear ll
      have nl := lightCs_len Ll.out
      go_enter Try.func12, Try.ntmps12
      go_wp2_with fail
      refine (awake28_calls w).mono ?_
      rintro e w0 ⟨rfl, hb0⟩
      go_wp2_with fail
      refine (Map_calls _ _ _ a (by omega) hc GA.out (HA.out.below hb0 (Nat.le_refl _))).mono ?_
      rintro e w1 ⟨rfl, q⟩
      rw [La.out]
      have hb1 := bl_then hb0 hb0.size q
      clear q hb0
      go_wp2_with fail
      refine (lightCs_calls _ _ _ l (by omega) GB.out (HB.out.below hb1 (Nat.le_refl _))).mono ?_
      rintro e w2 ⟨rfl, q⟩
      rw [Ll.out]
      have hb2 := bl_then hb1 hb1.size q
      clear q hb1
      have hb2 := Lib.hid hb2
      have ra := Lib.hid (isMap_rises La.out)
      have hE := Lib.hid (apply_err (a := a) (l := l))
      have hZ := Lib.hid (apply_zero (a := a) (l := l))
      go_wp2_with fail
      refine (PApply_calls _ A B c d a l (by omega) (by omega) ra.out GA.out GB.out (HA.out.below hb2.out (Nat.le_refl _)) (HB.out.below hb2.out (Nat.le_refl _)) (fun h x hx => Nat.lt_of_lt_of_le (KA.out h x hx) hb2.out.size)).mono ?_
      rintro e w3 ⟨v1, rfl, ov1, q⟩
      obtain ⟨A1, c1, rfl, i1, i1', e1, -⟩ := ov1.rd Entry.ok
      have E1 := Lib.hid e1
      clear e1 ov1
      have hb3 := Lib.hid (bl_then hb2.out hb2.out.size q)
      clear q hb2
      generalize hpa : patchApply a l = pa at *
      have HPA := Lib.hid hpa
      clear hpa
      obtain ⟨r, er⟩ := pa
      simp only at *
      by_cases he : er = 0
      rotate_left
      · have hr : r = [] := hE.out he
        have hnb : (er != 0) = true := by simpa using he
        subst hr
        clear he
        go_wp2
        go_ret
        exact ⟨rfl, hb3.out⟩
      subst he
      obtain ⟨z1, z2, z3⟩ := hZ.out rfl
      have hback := apply_back (ris_iff.2 (rises_srt ra.out)) z1 z2
      rw [← z3] at hback
      have HBK := Lib.hid hback
      have HJN := Lib.hid (join_back z1)
      have rr : Hid (rises r = true) := by show _ = _; rw [z3]; exact srt_rises (ris_iff.1 (ris_patched (ris_iff.2 (rises_srt ra.out)) _))
      have zr : Hid (Small' r) := by show Small' _; rw [z3]; exact small_applied GA.out (smallE GB.out)
      have lr : Hid (r.length ≤ 1000000) := by show _ ≤ _; rw [z3]; have := applied_len (l.map editOf) a; rw [List.length_map] at this; omega
      have zt := Lib.hid (small_turned GB.out)
      have ht : Hid ((l.map turned).length ≤ 40) := by show _ ≤ _; rw [List.length_map]; exact nl
      clear z1 z2 z3 hback hE hZ HPA
      obtain ⟨tl, htl⟩ : ∃ tl, tl = l.map turned := ⟨_, rfl⟩
      rw [← htl] at HBK HJN zt ht
      have HTL := Lib.hid htl
      clear htl
      go_wp2_with fail
      refine (Turn_calls _ B d l (by omega) (HB.out.below hb3.out (Nat.le_refl _))).mono ?_
      rintro e w4 ⟨v2, rfl, ov2, q⟩
      rw [← HTL.out] at ov2
      obtain ⟨A2, c2, rfl, i2, i2', e2, -⟩ := ov2.rd Change.ok
      have E2 := Lib.hid e2
      clear e2 ov2
      have hb4 := Lib.hid (bl_then hb3.out hb3.out.size q)
      have E1 := Lib.hid (E1.out.below q (Nat.le_refl _))
      clear q hb3
      go_wp2_with fail
      refine (PApply_calls _ A1 A2 c1 c2 r tl lr.out (by have := ht.out; omega) rr.out zr.out zt.out E1.out E2.out E1.out.blk).mono ?_
      rintro e w5 ⟨v3, rfl, ov3, q⟩
      rw [HBK.out] at ov3
      rw [HBK.out]
      obtain ⟨A3, c3, rfl, i3, i3', e3, -⟩ := ov3.rd Entry.ok
      have E3 := Lib.hid e3
      clear e3 ov3
      have hb5 := Lib.hid (bl_then hb4.out hb4.out.size q)
      clear q hb4
      go_wp2_with fail
      refine (Turn_calls _ B d l (by omega) (HB.out.below hb5.out (Nat.le_refl _))).mono ?_
      rintro e w6 ⟨v4, rfl, ov4, q⟩
      rw [← HTL.out] at ov4
      obtain ⟨A4, c4, rfl, i4, i4', e4, -⟩ := ov4.rd Change.ok
      have E4 := Lib.hid e4
      clear e4 ov4
      have hb6 := Lib.hid (bl_then hb5.out hb5.out.size q)
      have E3 := Lib.hid (E3.out.below q (Nat.le_refl _))
      clear q hb5
      go_wp2_with fail
      refine (PJoin_calls _ B A4 d c4 l tl (by omega) (by have := ht.out; omega) GB.out zt.out (HB.out.below hb6.out (Nat.le_refl _)) E4.out).mono ?_
      rintro e w7 ⟨v5, rfl, ov5, q⟩
      rw [HJN.out] at ov5
      rw [HJN.out]
      obtain ⟨A5, c5, rfl, i5, i5', e5, -⟩ := ov5.rd Change.ok
      have E5 := Lib.hid e5
      clear e5 ov5
      have hb7 := Lib.hid (bl_then hb6.out hb6.out.size q)
      have E3 := Lib.hid (E3.out.below q (Nat.le_refl _))
      clear q hb6
      go_wp2_with fail
      refine (SameEntries_calls _ A3 A c3 c a a (by omega) (by omega) E3.out (HA.out.below hb7.out (Nat.le_refl _))).mono ?_
      rintro e w8 ⟨rfl, q⟩
      rw [show decide (a = a) = true from decide_eq_true rfl]
      have hb8 := Lib.hid (bl_then hb7.out hb7.out.size q)
      clear q hb7
      go_wp2
      go_ret
      exact ⟨rfl, hb8.out⟩
end Go.Proofs.Ytofdmkglhjpbcaa
