/- law12.MergeOf -/
import Derived.Test.YtofdmkglhjpbcaaRefMerge
import Derived.Test.YtofdmkglhjpbcaaSameClashes
import Derived.Test.YtofdmkglhjpbcaaSameEntries
import Derived.Test.YtofdmkglhjpbcaaAwake12
import Derived.Test.YtofdmkglhjpbcaaAwake11
namespace Go.Proofs.Ytofdmkglhjpbcaa
open Go.RowKit
set_option linter.unusedVariables false
set_option linter.unusedSimpArgs false
attribute [local go_sem high] eqSide eqClash

set_option maxRecDepth 100000 in
set_option maxHeartbeats 2000000 in
theorem LawMergeOf_calls (w : World) (v u t : Value) (b o s : List Entry) (hv : Came w v b) (hu : Came w u o) (ht : Came w t s) :
    Calls Try.prog 5 #[v, u, t] w fun e w' => e = .returned (.bool true) ∧ Below w.heap.size w w' := by
  obtain ⟨A, c, rfl, hc, hc', hA, gA, hA'⟩ := hv
  have HA := Lib.hid hA
  have GA := Lib.hid gA
  have KA := Lib.hid hA'
  clear hA gA hA'
  obtain ⟨B, d, rfl, hd, hd', hB, gB, hB'⟩ := hu
  have HB := Lib.hid hB
  have GB := Lib.hid gB
  have KB := Lib.hid hB'
  clear hB gB hB'
  obtain ⟨C, f, rfl, hf, hf', hC, gC, hC'⟩ := ht
  have HC := Lib.hid hC
  have GC := Lib.hid gC
  have KC := Lib.hid hC'
  clear hC gC hC'
  cases lb : isMap b with
  | false =>
    have Lb := Lib.hid lb
    clear lb
    go_enter Try.func5, Try.ntmps5
    go_wp2_with fail
    refine (awake12_calls w).mono ?_
    rintro e w0 ⟨rfl, hb0⟩
    go_wp2_with fail
    refine (Map_calls _ _ _ b (by omega) hc GA.out (HA.out.below hb0 (Nat.le_refl _))).mono ?_
    rintro e w1 ⟨rfl, q⟩
    rw [Lb.out]
    have hb1 := bl_then hb0 hb0.size q
    clear q hb0
    go_wp2
    go_ret
    exact ⟨rfl, hb1⟩
  | true =>
    have Lb := Lib.hid lb
    clear lb
    have nb := isMap_len Lb.out
    have rb := Lib.hid (ris_iff.2 (rises_srt (isMap_rises Lb.out)))
    cases lo : isMap o with
    | false =>
      have Lo := Lib.hid lo
      clear lo
      go_enter Try.func5, Try.ntmps5
      go_wp2_with fail
      refine (awake12_calls w).mono ?_
      rintro e w0 ⟨rfl, hb0⟩
      go_wp2_with fail
      refine (Map_calls _ _ _ b (by omega) hc GA.out (HA.out.below hb0 (Nat.le_refl _))).mono ?_
      rintro e w1 ⟨rfl, q⟩
      rw [Lb.out]
      have hb1 := bl_then hb0 hb0.size q
      clear q hb0
      go_wp2_with fail
      refine (Map_calls _ _ _ o (by omega) hd GB.out (HB.out.below hb1 (Nat.le_refl _))).mono ?_
      rintro e w2 ⟨rfl, q⟩
      rw [Lo.out]
      have hb2 := bl_then hb1 hb1.size q
      clear q hb1
      go_wp2
      go_ret
      exact ⟨rfl, hb2⟩
    | true =>
      have Lo := Lib.hid lo
      clear lo
      have no := isMap_len Lo.out
      have ro := Lib.hid (ris_iff.2 (rises_srt (isMap_rises Lo.out)))
      cases ls : isMap s with
      | false =>
        have Ls := Lib.hid ls
        clear ls
        go_enter Try.func5, Try.ntmps5
        go_wp2_with fail
        refine (awake12_calls w).mono ?_
        rintro e w0 ⟨rfl, hb0⟩
        go_wp2_with fail
        refine (Map_calls _ _ _ b (by omega) hc GA.out (HA.out.below hb0 (Nat.le_refl _))).mono ?_
        rintro e w1 ⟨rfl, q⟩
        rw [Lb.out]
        have hb1 := bl_then hb0 hb0.size q
        clear q hb0
        go_wp2_with fail
        refine (Map_calls _ _ _ o (by omega) hd GB.out (HB.out.below hb1 (Nat.le_refl _))).mono ?_
        rintro e w2 ⟨rfl, q⟩
        rw [Lo.out]
        have hb2 := bl_then hb1 hb1.size q
        clear q hb1
        go_wp2_with fail
        refine (Map_calls _ _ _ s (by omega) hf GC.out (HC.out.below hb2 (Nat.le_refl _))).mono ?_
        rintro e w3 ⟨rfl, q⟩
        rw [Ls.out]
        have hb3 := bl_then hb2 hb2.size q
        clear q hb2
        go_wp2
        go_ret
        exact ⟨rfl, hb3⟩
      | true =>
        have Ls := Lib.hid ls
        clear ls
        have ns := isMap_len Ls.out
        have rs := Lib.hid (ris_iff.2 (rises_srt (isMap_rises Ls.out)))
        go_enter Try.func5, Try.ntmps5
        go_wp2_with fail
        refine (awake12_calls w).mono ?_
        rintro e w0 ⟨rfl, hb0⟩
        go_wp2_with fail
        refine (Map_calls _ _ _ b (by omega) hc GA.out (HA.out.below hb0 (Nat.le_refl _))).mono ?_
        rintro e w1 ⟨rfl, q⟩
        rw [Lb.out]
        have hb1 := bl_then hb0 hb0.size q
        clear q hb0
        go_wp2_with fail
        refine (Map_calls _ _ _ o (by omega) hd GB.out (HB.out.below hb1 (Nat.le_refl _))).mono ?_
        rintro e w2 ⟨rfl, q⟩
        rw [Lo.out]
        have hb2 := bl_then hb1 hb1.size q
        clear q hb1
        go_wp2_with fail
        refine (Map_calls _ _ _ s (by omega) hf GC.out (HC.out.below hb2 (Nat.le_refl _))).mono ?_
        rintro e w3 ⟨rfl, q⟩
        rw [Ls.out]
        have hb3 := bl_then hb2 hb2.size q
        clear q hb2
        have hb3 := Lib.hid hb3
        have le := Lib.hid (mergeE_len b o s)
        have lc := Lib.hid (mergeC_len b o s)
        go_wp2_with fail
        refine (MergeOf_calls _ A B C c d f b o s (by omega) (by omega) (by omega) GA.out GB.out GC.out (HA.out.below hb3.out (Nat.le_refl _)) (HB.out.below hb3.out (Nat.le_refl _)) (HC.out.below hb3.out (Nat.le_refl _)) (fun h a ha => Nat.lt_of_lt_of_le (KA.out h a ha) hb3.out.size) (fun h a ha => Nat.lt_of_lt_of_le (KB.out h a ha) hb3.out.size) (fun h a ha => Nat.lt_of_lt_of_le (KC.out h a ha) hb3.out.size)).mono ?_
        rintro e w4 ⟨v1, u1, rfl, ov1, ou1, q⟩
        obtain ⟨A1, c1, rfl, i1, i1', e1, -⟩ := ov1.rd Entry.ok
        obtain ⟨B1, d1, rfl, j1, j1', f1, -⟩ := ou1.rd Clash.ok
        have E1 := Lib.hid e1
        have F1 := Lib.hid f1
        clear e1 f1 ov1 ou1
        have hb4 := Lib.hid (bl_then hb3.out hb3.out.size q)
        clear q hb3
        go_wp2_with fail
        refine (RefMerge_calls _ A B C c d f b o s (by omega) (by omega) (by omega) hc hd hf hc' hd' hf' (HA.out.below hb4.out (Nat.le_refl _)) (HB.out.below hb4.out (Nat.le_refl _)) (HC.out.below hb4.out (Nat.le_refl _))).mono ?_
        rintro e w5 ⟨v2, u2, rfl, ov2, ou2, q⟩
        obtain ⟨A2, c2, rfl, i2, i2', e2, -⟩ := ov2.rd Entry.ok
        obtain ⟨B2, d2, rfl, j2, j2', f2, -⟩ := ou2.rd Clash.ok
        have E2 := Lib.hid e2
        have F2 := Lib.hid f2
        clear e2 f2 ov2 ou2
        have hb5 := Lib.hid (bl_then hb4.out hb4.out.size q)
        have E1 := Lib.hid (E1.out.below q (Nat.le_refl _))
        have F1 := Lib.hid (F1.out.below q (Nat.le_refl _))
        clear q hb4
        generalize mergeE b o s = me at *
        generalize mergeC b o s = mc at *
        go_wp2_with fail
        refine (SameEntries_calls _ A1 A2 c1 c2 me me (by have := le.out; omega) (by have := le.out; omega) E1.out E2.out).mono ?_
        rintro e w6 ⟨rfl, q⟩
        rw [show decide (me = me) = true from decide_eq_true rfl]
        have hb6 := Lib.hid (bl_then hb5.out hb5.out.size q)
        have F1 := Lib.hid (F1.out.below q (Nat.le_refl _))
        have F2 := Lib.hid (F2.out.below q (Nat.le_refl _))
        clear q hb5
        go_wp2_with fail
        refine (SameClashes_calls _ B1 B2 d1 d2 mc mc (by have := lc.out; omega) (by have := lc.out; omega) F1.out F2.out).mono ?_
        rintro e w7 ⟨rfl, q⟩
        rw [show decide (mc = mc) = true from decide_eq_true rfl]
        have hb7 := Lib.hid (bl_then hb6.out hb6.out.size q)
        clear q hb6
        go_wp2
        go_ret
        exact ⟨rfl, hb7.out⟩
end Go.Proofs.Ytofdmkglhjpbcaa
