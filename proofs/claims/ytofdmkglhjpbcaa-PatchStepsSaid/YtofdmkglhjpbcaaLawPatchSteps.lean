/- law28.PatchSteps -/
import Derived.Test.YtofdmkglhjpbcaaPatchLaw3
import Derived.Test.YtofdmkglhjpbcaaPatchJoin
import Derived.Test.YtofdmkglhjpbcaaAwake28
import Derived.Test.YtofdmkglhjpbcaaSameEntries
import Derived.Test.YtofdmkglhjpbcaaSameChanges
import Derived.Test.YtofdmkglhjpbcaaLawDiffTurns
namespace Go.Proofs.Ytofdmkglhjpbcaa
open Go.RowKit
set_option linter.unusedVariables false
set_option linter.unusedSimpArgs false

set_option maxRecDepth 100000 in
set_option maxHeartbeats 2000000 in
theorem LawPatchSteps_calls (w : World) (v u t : Value) (a b c : List Entry) (hv : Came w v a) (hu : Came w u b) (ht : Came w t c) :
    Calls Try.prog 13 #[v, u, t] w fun e w' => e = .returned (.bool true) ∧ Below w.heap.size w w' := by
  obtain ⟨A, ca, rfl, hca, hca', hA, gA, hA'⟩ := hv
  have HA := Lib.hid hA
  have GA := Lib.hid gA
  have KA := Lib.hid hA'
  clear hA gA hA'
  obtain ⟨B, cb, rfl, hcb, hcb', hB, gB, hB'⟩ := hu
  have HB := Lib.hid hB
  have GB := Lib.hid gB
  have KB := Lib.hid hB'
  clear hB gB hB'
  obtain ⟨C, cc, rfl, hcc, hcc', hC, gC, hC'⟩ := ht
  have HC := Lib.hid hC
  have GC := Lib.hid gC
  have KC := Lib.hid hC'
  clear hC gC hC'
  cases la : isMap a with
  | false =>
    have La := Lib.hid la
    clear la
    go_enter Try.func13, Try.ntmps13
    go_wp2_with fail
    refine (awake28_calls w).mono ?_
    rintro e w0 ⟨rfl, hb0⟩
    go_wp2_with fail
    refine (Map_calls _ _ _ a (by omega) hca GA.out (HA.out.below hb0 (Nat.le_refl _))).mono ?_
    rintro e w1 ⟨rfl, q⟩
    rw [La.out]
    have hb1 := bl_then hb0 hb0.size q
    clear q hb0
    go_wp2
    go_ret
    exact ⟨rfl, hb1⟩
  | true =>
    have La := Lib.hid la
    clear la
    have na := isMap_len La.out
    cases lb : isMap b with
    | false =>
      have Lb := Lib.hid lb
      clear lb
      go_enter Try.func13, Try.ntmps13
      go_wp2_with fail
      refine (awake28_calls w).mono ?_
      rintro e w0 ⟨rfl, hb0⟩
      go_wp2_with fail
      refine (Map_calls _ _ _ a (by omega) hca GA.out (HA.out.below hb0 (Nat.le_refl _))).mono ?_
      rintro e w1 ⟨rfl, q⟩
      rw [La.out]
      have hb1 := bl_then hb0 hb0.size q
      clear q hb0
      go_wp2_with fail
      refine (Map_calls _ _ _ b (by omega) hcb GB.out (HB.out.below hb1 (Nat.le_refl _))).mono ?_
      rintro e w2 ⟨rfl, q⟩
      rw [Lb.out]
      have hb2 := bl_then hb1 hb1.size q
      clear q hb1
      go_wp2
      go_ret
      exact ⟨rfl, hb2⟩
    | true =>
      have Lb := Lib.hid lb
      clear lb
      have nb := isMap_len Lb.out
      cases lc : isMap c with
      | false =>
        have Lc := Lib.hid lc
        clear lc
        go_enter Try.func13, Try.ntmps13
        go_wp2_with fail
        refine (awake28_calls w).mono ?_
        rintro e w0 ⟨rfl, hb0⟩
        go_wp2_with fail
        refine (Map_calls _ _ _ a (by omega) hca GA.out (HA.out.below hb0 (Nat.le_refl _))).mono ?_
        rintro e w1 ⟨rfl, q⟩
        rw [La.out]
        have hb1 := bl_then hb0 hb0.size q
        clear q hb0
        go_wp2_with fail
        refine (Map_calls _ _ _ b (by omega) hcb GB.out (HB.out.below hb1 (Nat.le_refl _))).mono ?_
        rintro e w2 ⟨rfl, q⟩
        rw [Lb.out]
        have hb2 := bl_then hb1 hb1.size q
        clear q hb1
        go_wp2_with fail
        refine (Map_calls _ _ _ c (by omega) hcc GC.out (HC.out.below hb2 (Nat.le_refl _))).mono ?_
        rintro e w3 ⟨rfl, q⟩
        rw [Lc.out]
        have hb3 := bl_then hb2 hb2.size q
        clear q hb2
        go_wp2
        go_ret
        exact ⟨rfl, hb3⟩
      | true =>
        have Lc := Lib.hid lc
        clear lc
        have nc := isMap_len Lc.out
        go_enter Try.func13, Try.ntmps13
        go_wp2_with fail
        refine (awake28_calls w).mono ?_
        rintro e w0 ⟨rfl, hb0⟩
        go_wp2_with fail
        refine (Map_calls _ _ _ a (by omega) hca GA.out (HA.out.below hb0 (Nat.le_refl _))).mono ?_
        rintro e w1 ⟨rfl, q⟩
        rw [La.out]
        have hb1 := bl_then hb0 hb0.size q
        clear q hb0
        go_wp2_with fail
        refine (Map_calls _ _ _ b (by omega) hcb GB.out (HB.out.below hb1 (Nat.le_refl _))).mono ?_
        rintro e w2 ⟨rfl, q⟩
        rw [Lb.out]
        have hb2 := bl_then hb1 hb1.size q
        clear q hb1
        go_wp2_with fail
        refine (Map_calls _ _ _ c (by omega) hcc GC.out (HC.out.below hb2 (Nat.le_refl _))).mono ?_
        rintro e w3 ⟨rfl, q⟩
        rw [Lc.out]
        have hb3 := bl_then hb2 hb2.size q
        clear q hb2
        have hb3 := Lib.hid hb3
        have ra := Lib.hid (isMap_rises La.out)
        have rb := Lib.hid (isMap_rises Lb.out)
        have rc := Lib.hid (isMap_rises Lc.out)
        have qab := Lib.hid (ofL_eq ra.out rb.out)
        have zab : Hid (SmallC (diffRef a b)) := diff_small GA.out GB.out
        have lab : Hid ((diffRef a b).length ≤ 120) := by show _ ≤ _; have := diff_len a b; omega
        have qbc := Lib.hid (ofL_eq rb.out rc.out)
        have zbc : Hid (SmallC (diffRef b c)) := diff_small GB.out GC.out
        have lbc : Hid ((diffRef b c).length ≤ 120) := by show _ ≤ _; have := diff_len b c; omega
        have qac := Lib.hid (ofL_eq ra.out rc.out)
        have zac : Hid (SmallC (diffRef a c)) := diff_small GA.out GC.out
        have lac : Hid ((diffRef a c).length ≤ 120) := by show _ ≤ _; have := diff_len a c; omega
        have kab := Lib.hid (apply_diff La.out Lb.out)
        have kbc := Lib.hid (apply_diff Lb.out Lc.out)
        have kac := Lib.hid (apply_diff La.out Lc.out)
        have kj := Lib.hid (join_diff La.out Lb.out Lc.out)
        go_wp2_with fail
        refine (DiffOf_calls _ A B ca cb a b (HA.out.below hb3.out (Nat.le_refl _)) (HB.out.below hb3.out (Nat.le_refl _)) hca hcb hca' hcb' (fun h z hz => Nat.lt_of_lt_of_le (KA.out h z hz) hb3.out.size) (fun h z hz => Nat.lt_of_lt_of_le (KB.out h z hz) hb3.out.size) (by omega)).mono ?_
        rintro e w4 ⟨v1, rfl, ov1, q⟩
        rw [qab.out] at ov1
        obtain ⟨A1, c1, rfl, i1, i1', e1, -⟩ := ov1.rd Change.ok
        have E1 := Lib.hid e1
        clear e1 ov1
        have hb4 := Lib.hid (bl_then hb3.out hb3.out.size q)
        clear q hb3
        go_wp2_with fail
        refine (DiffOf_calls _ B C cb cc b c (HB.out.below hb4.out (Nat.le_refl _)) (HC.out.below hb4.out (Nat.le_refl _)) hcb hcc hcb' hcc' (fun h z hz => Nat.lt_of_lt_of_le (KB.out h z hz) hb4.out.size) (fun h z hz => Nat.lt_of_lt_of_le (KC.out h z hz) hb4.out.size) (by omega)).mono ?_
        rintro e w5 ⟨v2, rfl, ov2, q⟩
        rw [qbc.out] at ov2
        obtain ⟨A2, c2, rfl, i2, i2', e2, -⟩ := ov2.rd Change.ok
        have E2 := Lib.hid e2
        clear e2 ov2
        have hb5 := Lib.hid (bl_then hb4.out hb4.out.size q)
        have E1 := Lib.hid (E1.out.below q (Nat.le_refl _))
        clear q hb4
        generalize diffRef a b = dab at *
        generalize diffRef b c = dbc at *
        generalize diffRef a c = dac at *
        go_wp2_with fail
        refine (PApply_calls _ A A1 ca c1 a dab (by omega) (by have := lab.out; omega) ra.out GA.out zab.out (HA.out.below hb5.out (Nat.le_refl _)) E1.out (fun h z hz => Nat.lt_of_lt_of_le (KA.out h z hz) hb5.out.size)).mono ?_
        rintro e w6 ⟨v3, rfl, ov3, q⟩
        rw [kab.out] at ov3
        rw [kab.out]
        obtain ⟨A3, c3, rfl, i3, i3', e3, -⟩ := ov3.rd Entry.ok
        have E3 := Lib.hid e3
        clear e3 ov3
        have hb6 := Lib.hid (bl_then hb5.out hb5.out.size q)
        have E1 := Lib.hid (E1.out.below q (Nat.le_refl _))
        have E2 := Lib.hid (E2.out.below q (Nat.le_refl _))
        clear q hb5
        go_wp2_with fail
        refine (PApply_calls _ A3 A2 c3 c2 b dbc (by omega) (by have := lbc.out; omega) rb.out GB.out zbc.out E3.out E2.out E3.out.blk).mono ?_
        rintro e w7 ⟨v4, rfl, ov4, q⟩
        rw [kbc.out] at ov4
        rw [kbc.out]
        obtain ⟨A4, c4, rfl, i4, i4', e4, -⟩ := ov4.rd Entry.ok
        have E4 := Lib.hid e4
        clear e4 ov4
        have hb7 := Lib.hid (bl_then hb6.out hb6.out.size q)
        have E1 := Lib.hid (E1.out.below q (Nat.le_refl _))
        have E2 := Lib.hid (E2.out.below q (Nat.le_refl _))
        have E3 := Lib.hid (E3.out.below q (Nat.le_refl _))
        clear q hb6
        go_wp2_with fail
        refine (PJoin_calls _ A1 A2 c1 c2 dab dbc (by have := lab.out; omega) (by have := lbc.out; omega) zab.out zbc.out E1.out E2.out).mono ?_
        rintro e w8 ⟨v5, rfl, ov5, q⟩
        rw [kj.out] at ov5
        rw [kj.out]
        obtain ⟨A5, c5, rfl, i5, i5', e5, -⟩ := ov5.rd Change.ok
        have E5 := Lib.hid e5
        clear e5 ov5
        have hb8 := Lib.hid (bl_then hb7.out hb7.out.size q)
        have E3 := Lib.hid (E3.out.below q (Nat.le_refl _))
        have E4 := Lib.hid (E4.out.below q (Nat.le_refl _))
        clear q hb7
        go_wp2_with fail
        refine (PApply_calls _ A A5 ca c5 a dac (by omega) (by have := lac.out; omega) ra.out GA.out zac.out (HA.out.below hb8.out (Nat.le_refl _)) E5.out (fun h z hz => Nat.lt_of_lt_of_le (KA.out h z hz) hb8.out.size)).mono ?_
        rintro e w9 ⟨v6, rfl, ov6, q⟩
        rw [kac.out] at ov6
        rw [kac.out]
        obtain ⟨A6, c6, rfl, i6, i6', e6, -⟩ := ov6.rd Entry.ok
        have E6 := Lib.hid e6
        clear e6 ov6
        have hb9 := Lib.hid (bl_then hb8.out hb8.out.size q)
        have E3 := Lib.hid (E3.out.below q (Nat.le_refl _))
        have E4 := Lib.hid (E4.out.below q (Nat.le_refl _))
        have E5 := Lib.hid (E5.out.below q (Nat.le_refl _))
        clear q hb8
        go_wp2_with fail
        refine (SameEntries_calls _ A3 B c3 cb b b (by omega) (by omega) E3.out (HB.out.below hb9.out (Nat.le_refl _))).mono ?_
        rintro e w10 ⟨rfl, q⟩
        rw [show decide (b = b) = true from decide_eq_true rfl]
        have hb10 := Lib.hid (bl_then hb9.out hb9.out.size q)
        have E4 := Lib.hid (E4.out.below q (Nat.le_refl _))
        have E5 := Lib.hid (E5.out.below q (Nat.le_refl _))
        have E6 := Lib.hid (E6.out.below q (Nat.le_refl _))
        clear q hb9
        go_wp2_with fail
        refine (SameEntries_calls _ A4 C c4 cc c c (by omega) (by omega) E4.out (HC.out.below hb10.out (Nat.le_refl _))).mono ?_
        rintro e w11 ⟨rfl, q⟩
        rw [show decide (c = c) = true from decide_eq_true rfl]
        have hb11 := Lib.hid (bl_then hb10.out hb10.out.size q)
        have E5 := Lib.hid (E5.out.below q (Nat.le_refl _))
        have E6 := Lib.hid (E6.out.below q (Nat.le_refl _))
        clear q hb10
        go_wp2_with fail
        refine (SameEntries_calls _ A6 C c6 cc c c (by omega) (by omega) E6.out (HC.out.below hb11.out (Nat.le_refl _))).mono ?_
        rintro e w12 ⟨rfl, q⟩
        rw [show decide (c = c) = true from decide_eq_true rfl]
        have hb12 := Lib.hid (bl_then hb11.out hb11.out.size q)
        have E5 := Lib.hid (E5.out.below q (Nat.le_refl _))
        clear q hb11
        go_wp2_with fail
        refine (DiffOf_calls _ A C ca cc a c (HA.out.below hb12.out (Nat.le_refl _)) (HC.out.below hb12.out (Nat.le_refl _)) hca hcc hca' hcc' (fun h z hz => Nat.lt_of_lt_of_le (KA.out h z hz) hb12.out.size) (fun h z hz => Nat.lt_of_lt_of_le (KC.out h z hz) hb12.out.size) (by omega)).mono ?_
        rintro e w13 ⟨v7, rfl, ov7, q⟩
        rw [qac.out] at ov7
        obtain ⟨A7, c7, rfl, i7, i7', e7, -⟩ := ov7.rd Change.ok
        have E7 := Lib.hid e7
        clear e7 ov7
        have hb13 := Lib.hid (bl_then hb12.out hb12.out.size q)
        have E5 := Lib.hid (E5.out.below q (Nat.le_refl _))
        clear q hb12
        go_wp2_with fail
        refine (SameChanges_calls _ A5 A7 c5 c7 dac dac (by have := lac.out; omega) (by have := lac.out; omega) E5.out E7.out).mono ?_
        rintro e w14 ⟨rfl, q⟩
        rw [show decide (dac = dac) = true from decide_eq_true rfl]
        have hb14 := Lib.hid (bl_then hb13.out hb13.out.size q)
        clear q hb13
        go_wp2
        go_ret
        exact ⟨rfl, hb14.out⟩
end Go.Proofs.Ytofdmkglhjpbcaa
