/- law12.MergeSides -/
import Derived.Test.YtofdmkglhjpbcaaRefMerge
import Derived.Test.YtofdmkglhjpbcaaAwake12
import Derived.Test.YtofdmkglhjpbcaaAwake11
namespace Go.Proofs.Ytofdmkglhjpbcaa
open Go.RowKit
set_option linter.unusedVariables false
set_option linter.unusedSimpArgs false
attribute [local go_sem high] eqSide

set_option maxRecDepth 100000 in
set_option maxHeartbeats 2000000 in
theorem LawMergeSides_calls (w : World) (v u t : Value) (b o s : List Entry) (key : Str) (hkz : key.size ≤ 9223372036854775807) (hv : Came w v b) (hu : Came w u o) (ht : Came w t s) :
    Calls Try.prog 7 #[v, u, t, .string key] w fun e w' => e = .returned (.bool true) ∧ Below w.heap.size w w' := by
  obtain ⟨A, c, rfl, hc, hc', hA, gA, hA'⟩ := hv
  have HA := Lib.hid hA
  have GA := Lib.hid gA
  have KA := Lib.hid hA'
  clear hA gA hA'
  obtain ⟨B, d, rfl, hd, hd', hB, gB, hB'⟩ := hu
  have HB := Lib.hid hB
  have GB := Lib.hid gB
  have KB := Lib.hid hB'
  clear hB gB hB'
  obtain ⟨C, f, rfl, hf, hf', hC, gC, hC'⟩ := ht
  have HC := Lib.hid hC
  have GC := Lib.hid gC
  have KC := Lib.hid hC'
  clear hC gC hC'
  cases lb : isMap b with
  | false =>
    have Lb := Lib.hid lb
    clear lb
    go_enter Try.func7, Try.ntmps7
    go_wp2_with fail
    refine (awake12_calls w).mono ?_
    rintro e w0 ⟨rfl, hb0⟩
    go_wp2_with fail
    refine (Map_calls _ _ _ b (by omega) hc GA.out (HA.out.below hb0 (Nat.le_refl _))).mono ?_
    rintro e w1 ⟨rfl, q⟩
    rw [Lb.out]
    have hb1 := bl_then hb0 hb0.size q
    clear q hb0
    go_wp2
    go_ret
    exact ⟨rfl, hb1⟩
  | true =>
    have Lb := Lib.hid lb
    clear lb
    have nb := isMap_len Lb.out
    have rb := Lib.hid (ris_iff.2 (rises_srt (isMap_rises Lb.out)))
    cases lo : isMap o with
    | false =>
      have Lo := Lib.hid lo
      clear lo
      go_enter Try.func7, Try.ntmps7
      go_wp2_with fail
      refine (awake12_calls w).mono ?_
      rintro e w0 ⟨rfl, hb0⟩
      go_wp2_with fail
      refine (Map_calls _ _ _ b (by omega) hc GA.out (HA.out.below hb0 (Nat.le_refl _))).mono ?_
      rintro e w1 ⟨rfl, q⟩
      rw [Lb.out]
      have hb1 := bl_then hb0 hb0.size q
      clear q hb0
      go_wp2_with fail
      refine (Map_calls _ _ _ o (by omega) hd GB.out (HB.out.below hb1 (Nat.le_refl _))).mono ?_
      rintro e w2 ⟨rfl, q⟩
      rw [Lo.out]
      have hb2 := bl_then hb1 hb1.size q
      clear q hb1
      go_wp2
      go_ret
      exact ⟨rfl, hb2⟩
    | true =>
      have Lo := Lib.hid lo
      clear lo
      have no := isMap_len Lo.out
      have ro := Lib.hid (ris_iff.2 (rises_srt (isMap_rises Lo.out)))
      cases ls : isMap s with
      | false =>
        have Ls := Lib.hid ls
        clear ls
        go_enter Try.func7, Try.ntmps7
        go_wp2_with fail
        refine (awake12_calls w).mono ?_
        rintro e w0 ⟨rfl, hb0⟩
        go_wp2_with fail
        refine (Map_calls _ _ _ b (by omega) hc GA.out (HA.out.below hb0 (Nat.le_refl _))).mono ?_
        rintro e w1 ⟨rfl, q⟩
        rw [Lb.out]
        have hb1 := bl_then hb0 hb0.size q
        clear q hb0
        go_wp2_with fail
        refine (Map_calls _ _ _ o (by omega) hd GB.out (HB.out.below hb1 (Nat.le_refl _))).mono ?_
        rintro e w2 ⟨rfl, q⟩
        rw [Lo.out]
        have hb2 := bl_then hb1 hb1.size q
        clear q hb1
        go_wp2_with fail
        refine (Map_calls _ _ _ s (by omega) hf GC.out (HC.out.below hb2 (Nat.le_refl _))).mono ?_
        rintro e w3 ⟨rfl, q⟩
        rw [Ls.out]
        have hb3 := bl_then hb2 hb2.size q
        clear q hb2
        go_wp2
        go_ret
        exact ⟨rfl, hb3⟩
      | true =>
        have Ls := Lib.hid ls
        clear ls
        have ns := isMap_len Ls.out
        have rs := Lib.hid (ris_iff.2 (rises_srt (isMap_rises Ls.out)))
        by_cases hx : 60 < key.size
        · skip
          go_enter Try.func7, Try.ntmps7
          go_wp2_with fail
          refine (awake12_calls w).mono ?_
          rintro e w0 ⟨rfl, hb0⟩
          go_wp2_with fail
          refine (Map_calls _ _ _ b (by omega) hc GA.out (HA.out.below hb0 (Nat.le_refl _))).mono ?_
          rintro e w1 ⟨rfl, q⟩
          rw [Lb.out]
          have hb1 := bl_then hb0 hb0.size q
          clear q hb0
          go_wp2_with fail
          refine (Map_calls _ _ _ o (by omega) hd GB.out (HB.out.below hb1 (Nat.le_refl _))).mono ?_
          rintro e w2 ⟨rfl, q⟩
          rw [Lo.out]
          have hb2 := bl_then hb1 hb1.size q
          clear q hb1
          go_wp2_with fail
          refine (Map_calls _ _ _ s (by omega) hf GC.out (HC.out.below hb2 (Nat.le_refl _))).mono ?_
          rintro e w3 ⟨rfl, q⟩
          rw [Ls.out]
          have hb3 := bl_then hb2 hb2.size q
          clear q hb2
          go_wp2
          go_ret
          exact ⟨rfl, hb3⟩
        · skip
          go_enter Try.func7, Try.ntmps7
          go_wp2_with fail
          refine (awake12_calls w).mono ?_
          rintro e w0 ⟨rfl, hb0⟩
          go_wp2_with fail
          refine (Map_calls _ _ _ b (by omega) hc GA.out (HA.out.below hb0 (Nat.le_refl _))).mono ?_
          rintro e w1 ⟨rfl, q⟩
          rw [Lb.out]
          have hb1 := bl_then hb0 hb0.size q
          clear q hb0
          go_wp2_with fail
          refine (Map_calls _ _ _ o (by omega) hd GB.out (HB.out.below hb1 (Nat.le_refl _))).mono ?_
          rintro e w2 ⟨rfl, q⟩
          rw [Lo.out]
          have hb2 := bl_then hb1 hb1.size q
          clear q hb1
          go_wp2_with fail
          refine (Map_calls _ _ _ s (by omega) hf GC.out (HC.out.below hb2 (Nat.le_refl _))).mono ?_
          rintro e w3 ⟨rfl, q⟩
          rw [Ls.out]
          have hb3 := bl_then hb2 hb2.size q
          clear q hb2
          have hb3 := Lib.hid hb3
          have le := Lib.hid (mergeE_len b o s)
          have m1 : Hid (get o key = get b key → get (mergeE b o s) key = get s key) := get_same
          have m2 : Hid (get s key = get b key → get (mergeE b o s) key = get o key) := get_own
          go_wp2_with fail
          refine (MergeOf_calls _ A B C c d f b o s (by omega) (by omega) (by omega) GA.out GB.out GC.out (HA.out.below hb3.out (Nat.le_refl _)) (HB.out.below hb3.out (Nat.le_refl _)) (HC.out.below hb3.out (Nat.le_refl _)) (fun h a ha => Nat.lt_of_lt_of_le (KA.out h a ha) hb3.out.size) (fun h a ha => Nat.lt_of_lt_of_le (KB.out h a ha) hb3.out.size) (fun h a ha => Nat.lt_of_lt_of_le (KC.out h a ha) hb3.out.size)).mono ?_
          rintro e w4 ⟨v1, u1, rfl, ov1, ou1, q⟩
          obtain ⟨A1, c1, rfl, i1, i1', e1, -⟩ := ov1.rd Entry.ok
          obtain ⟨B1, d1, rfl, j1, j1', f1, -⟩ := ou1.rd Clash.ok
          have E1 := Lib.hid e1
          have F1 := Lib.hid f1
          clear e1 f1 ov1 ou1
          have hb4 := Lib.hid (bl_then hb3.out hb3.out.size q)
          clear q hb3
          generalize mergeE b o s = me at *
          go_wp2_with fail
          refine (Get_calls' _ A c b key (by have := le.out; omega) (HA.out.below hb4.out (Nat.le_refl _))).mono ?_
          rintro e w5 ⟨rfl, q⟩
          have hb5 := Lib.hid (bl_then hb4.out hb4.out.size q)
          have E1 := Lib.hid (E1.out.below q (Nat.le_refl _))
          clear q hb4
          go_wp2_with fail
          refine (Get_calls' _ B d o key (by have := le.out; omega) (HB.out.below hb5.out (Nat.le_refl _))).mono ?_
          rintro e w6 ⟨rfl, q⟩
          have hb6 := Lib.hid (bl_then hb5.out hb5.out.size q)
          have E1 := Lib.hid (E1.out.below q (Nat.le_refl _))
          clear q hb5
          go_wp2_with fail
          refine (Get_calls' _ C f s key (by have := le.out; omega) (HC.out.below hb6.out (Nat.le_refl _))).mono ?_
          rintro e w7 ⟨rfl, q⟩
          have hb7 := Lib.hid (bl_then hb6.out hb6.out.size q)
          have E1 := Lib.hid (E1.out.below q (Nat.le_refl _))
          clear q hb6
          go_wp2_with fail
          refine (Get_calls' _ A1 c1 me key (by have := le.out; omega) E1.out).mono ?_
          rintro e w8 ⟨rfl, q⟩
          have hb8 := Lib.hid (bl_then hb7.out hb7.out.size q)
          clear q hb7
          generalize get b key = sb at *
          generalize get o key = so at *
          generalize get s key = st at *
          generalize get me key = sl at *
          by_cases h1 : so = sb
          · have e1 : decide (so = sb) = true := decide_eq_true h1
            have e2 : decide (sl = st) = true := decide_eq_true (m1.out h1)
            clear h1
            go_wp2
            go_ret
            exact ⟨rfl, bl_alloc (bl_alloc (bl_alloc (bl_alloc hb8.out _) _) _) _⟩
          · have e1 : decide (so = sb) = false := decide_eq_false h1
            by_cases h2 : st = sb
            · have e2 : decide (st = sb) = true := decide_eq_true h2
              have e3 : decide (sl = so) = true := decide_eq_true (m2.out h2)
              clear h1 h2
              go_wp2
              go_ret
              exact ⟨rfl, bl_alloc (bl_alloc (bl_alloc (bl_alloc hb8.out _) _) _) _⟩
            · have e2 : decide (st = sb) = false := decide_eq_false h2
              clear h1 h2
              go_wp2
              go_ret
              exact ⟨rfl, bl_alloc (bl_alloc (bl_alloc (bl_alloc hb8.out _) _) _) _⟩
end Go.Proofs.Ytofdmkglhjpbcaa
