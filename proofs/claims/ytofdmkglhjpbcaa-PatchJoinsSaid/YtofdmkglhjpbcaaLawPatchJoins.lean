/- law28.PatchJoins -/
import Derived.Test.YtofdmkglhjpbcaaRPatchJoin
import Derived.Test.YtofdmkglhjpbcaaAwake28
import Derived.Test.YtofdmkglhjpbcaaSameChanges
import Derived.Test.YtofdmkglhjpbcaaCameR
namespace Go.Proofs.Ytofdmkglhjpbcaa
open Go.RowKit
set_option linter.unusedVariables false
set_option linter.unusedSimpArgs false

theorem flat_len_le' {f : Str → List Change} (h : ∀ k, (f k).length ≤ 1) (ks : List Str) : (ks.flatMap f).length ≤ ks.length := flat_len_le f h ks
set_option maxRecDepth 100000 in
set_option maxHeartbeats 2000000 in
theorem LawPatchJoins_calls (w : World) (v u : Value) (p q0 : List Change) (hv : CameR Change.enc 5 Change.good w v p) (hu : CameR Change.enc 5 Change.good w u q0) :
    Calls Try.prog 11 #[v, u] w fun e w' => e = .returned (.bool true) ∧ Below w.heap.size w w' := by
  obtain ⟨A, c, rfl, hc, hc', hA, gA, hA'⟩ := hv
  have HA := Lib.hid hA
  have GA : Hid (SmallC p) := gA
  have KA := Lib.hid hA'
  clear hA gA hA'
  obtain ⟨B, d, rfl, hd, hd', hB, gB, hB'⟩ := hu
  have HB := Lib.hid hB
  have GB : Hid (SmallC q0) := gB
  have KB := Lib.hid hB'
  clear hB gB hB'
  cases lp : lightCs p with
  | false =>
    have Lp := Lib.hid lp
    clear lp
    go_enter Try.func11, Try.ntmps11
    go_wp2_with fail
    refine (awake28_calls w).mono ?_
    rintro e w0 ⟨rfl, hb0⟩
    go_wp2_with fail
    refine (lightCs_calls _ _ _ p (by omega) GA.out (HA.out.below hb0 (Nat.le_refl _))).mono ?_
    rintro e w1 ⟨rfl, q⟩
    rw [Lp.out]
    have hb1 := bl_then hb0 hb0.size q
    clear q hb0
    go_wp2
    go_ret
    exact ⟨rfl, hb1⟩
  | true =>
    have Lp := Lib.hid lp
    clear lp
    have np := lightCs_len Lp.out
    cases lq0 : lightCs q0 with
    | false =>
      have Lq0 := Lib.hid lq0
      clear lq0
      go_enter Try.func11, Try.ntmps11
      go_wp2_with fail
      refine (awake28_calls w).mono ?_
      rintro e w0 ⟨rfl, hb0⟩
      go_wp2_with fail
      refine (lightCs_calls _ _ _ p (by omega) GA.out (HA.out.below hb0 (Nat.le_refl _))).mono ?_
      rintro e w1 ⟨rfl, q⟩
      rw [Lp.out]
      have hb1 := bl_then hb0 hb0.size q
      clear q hb0
      go_wp2_with fail
      refine (lightCs_calls _ _ _ q0 (by omega) GB.out (HB.out.below hb1 (Nat.le_refl _))).mono ?_
      rintro e w2 ⟨rfl, q⟩
      rw [Lq0.out]
      have hb2 := bl_then hb1 hb1.size q
      clear q hb1
      go_wp2
      go_ret
      exact ⟨rfl, hb2⟩
    | true =>
      have Lq0 := Lib.hid lq0
      clear lq0
      have nq0 := lightCs_len Lq0.out
      go_enter Try.func11, Try.ntmps11
      go_wp2_with fail
      refine (awake28_calls w).mono ?_
      rintro e w0 ⟨rfl, hb0⟩
      go_wp2_with fail
      refine (lightCs_calls _ _ _ p (by omega) GA.out (HA.out.below hb0 (Nat.le_refl _))).mono ?_
      rintro e w1 ⟨rfl, q⟩
      rw [Lp.out]
      have hb1 := bl_then hb0 hb0.size q
      clear q hb0
      go_wp2_with fail
      refine (lightCs_calls _ _ _ q0 (by omega) GB.out (HB.out.below hb1 (Nat.le_refl _))).mono ?_
      rintro e w2 ⟨rfl, q⟩
      rw [Lq0.out]
      have hb2 := bl_then hb1 hb1.size q
      clear q hb1
      have hb2 := Lib.hid hb2
      have hln : Hid ((patchJoin p q0).1.length ≤ 80) := by
        show _ ≤ _
        unfold patchJoin
        split
        · simp
        · split
          · simp
          · split
            · simp
            · have h1 := flat_len_le' (joinL_len p q0) (joinKeys p q0)
              have h2 := joinKeys_len p q0
              show (List.flatMap _ _).length ≤ _
              omega
      go_wp2_with fail
      refine (PJoin_calls _ A B c d p q0 (by omega) (by omega) GA.out GB.out (HA.out.below hb2.out (Nat.le_refl _)) (HB.out.below hb2.out (Nat.le_refl _))).mono ?_
      rintro e w3 ⟨v1, rfl, ov1, q⟩
      obtain ⟨A1, c1, rfl, i1, i1', e1, -⟩ := ov1.rd Change.ok
      have E1 := Lib.hid e1
      clear e1 ov1
      have hb3 := Lib.hid (bl_then hb2.out hb2.out.size q)
      clear q hb2
      go_wp2_with fail
      refine (RJoin_calls _ A B c d p q0 (by omega) (by omega) GA.out GB.out (HA.out.below hb3.out (Nat.le_refl _)) (HB.out.below hb3.out (Nat.le_refl _))).mono ?_
      rintro e w4 ⟨v2, rfl, ov2, q⟩
      obtain ⟨A2, c2, rfl, i2, i2', e2, -⟩ := ov2.rd Change.ok
      have E2 := Lib.hid e2
      clear e2 ov2
      have hb4 := Lib.hid (bl_then hb3.out hb3.out.size q)
      have E1 := Lib.hid (E1.out.below q (Nat.le_refl _))
      clear q hb3
      generalize patchJoin p q0 = pj at *
      obtain ⟨r, er⟩ := pj
      simp only at *
      have hl0 := hln.out
      go_wp2_with fail
      refine (SameChanges_calls _ A1 A2 c1 c2 r r (by omega) (by omega) E1.out E2.out).mono ?_
      rintro e w5 ⟨rfl, q⟩
      rw [show decide (r = r) = true from decide_eq_true rfl]
      have hb5 := Lib.hid (bl_then hb4.out hb4.out.size q)
      clear q hb4
      have hee : (er == er) = true := by simp
      go_wp2
      go_ret
      exact ⟨rfl, hb5.out⟩
end Go.Proofs.Ytofdmkglhjpbcaa
