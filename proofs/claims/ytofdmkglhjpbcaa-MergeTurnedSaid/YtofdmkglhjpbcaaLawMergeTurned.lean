/- law12.MergeTurned -/
import Derived.Test.YtofdmkglhjpbcaaRefMerge
import Derived.Test.YtofdmkglhjpbcaaSameEntries
import Derived.Test.YtofdmkglhjpbcaaSameClashes
import Derived.Test.YtofdmkglhjpbcaaAwake12
import Derived.Test.YtofdmkglhjpbcaaAwake11
namespace Go.Proofs.Ytofdmkglhjpbcaa
open Go.RowKit
set_option linter.unusedVariables false
set_option linter.unusedSimpArgs false


theorem eqClashSame (d : Nat) (w : World) (x : Clash) : (Op.equalIn (d + 3) 47 (.agg #[.string x.key, .bool x.base.has, .string x.base.val, .bool x.ours.has, .string x.ours.val, .bool x.theirs.has, .string x.theirs.val]) (.agg #[.string x.key, .bool x.base.has, .string x.base.val, .bool x.ours.has, .string x.ours.val, .bool x.theirs.has, .string x.theirs.val])).run Try.prog w = .ok true w := by
  have := eqClash d w x x
  rw [decide_eq_true rfl] at this
  exact this

set_option maxRecDepth 100000 in
set_option maxHeartbeats 2000000 in
theorem LawMergeTurned_calls (w : World) (v u t : Value) (b o s : List Entry) (hv : Came w v b) (hu : Came w u o) (ht : Came w t s) :
    Calls Try.prog 6 #[v, u, t] w fun e w' => e = .returned (.bool true) ∧ Below w.heap.size w w' := by
  obtain ⟨A, c, rfl, hc, hc', hA, gA, hA'⟩ := hv
  have HA := Lib.hid hA
  have GA := Lib.hid gA
  have KA := Lib.hid hA'
  clear hA gA hA'
  obtain ⟨B, d, rfl, hd, hd', hB, gB, hB'⟩ := hu
  have HB := Lib.hid hB
  have GB := Lib.hid gB
  have KB := Lib.hid hB'
  clear hB gB hB'
  obtain ⟨C, f, rfl, hf, hf', hC, gC, hC'⟩ := ht
  have HC := Lib.hid hC
  have GC := Lib.hid gC
  have KC := Lib.hid hC'
  clear hC gC hC'
  cases lb : isMap b with
  | false =>
    have Lb := Lib.hid lb
    clear lb
    go_enter Try.func6, Try.ntmps6
    go_wp2_with fail
    refine (awake12_calls w).mono ?_
    rintro e w0 ⟨rfl, hb0⟩
    go_wp2_with fail
    refine (Map_calls _ _ _ b (by omega) hc GA.out (HA.out.below hb0 (Nat.le_refl _))).mono ?_
    rintro e w1 ⟨rfl, q⟩
    rw [Lb.out]
    have hb1 := bl_then hb0 hb0.size q
    clear q hb0
    go_wp2
    go_ret
    exact ⟨rfl, hb1⟩
  | true =>
    have Lb := Lib.hid lb
    clear lb
    have nb := isMap_len Lb.out
    have rb := Lib.hid (ris_iff.2 (rises_srt (isMap_rises Lb.out)))
    cases lo : isMap o with
    | false =>
      have Lo := Lib.hid lo
      clear lo
      go_enter Try.func6, Try.ntmps6
      go_wp2_with fail
      refine (awake12_calls w).mono ?_
      rintro e w0 ⟨rfl, hb0⟩
      go_wp2_with fail
      refine (Map_calls _ _ _ b (by omega) hc GA.out (HA.out.below hb0 (Nat.le_refl _))).mono ?_
      rintro e w1 ⟨rfl, q⟩
      rw [Lb.out]
      have hb1 := bl_then hb0 hb0.size q
      clear q hb0
      go_wp2_with fail
      refine (Map_calls _ _ _ o (by omega) hd GB.out (HB.out.below hb1 (Nat.le_refl _))).mono ?_
      rintro e w2 ⟨rfl, q⟩
      rw [Lo.out]
      have hb2 := bl_then hb1 hb1.size q
      clear q hb1
      go_wp2
      go_ret
      exact ⟨rfl, hb2⟩
    | true =>
      have Lo := Lib.hid lo
      clear lo
      have no := isMap_len Lo.out
      have ro := Lib.hid (ris_iff.2 (rises_srt (isMap_rises Lo.out)))
      cases ls : isMap s with
      | false =>
        have Ls := Lib.hid ls
        clear ls
        go_enter Try.func6, Try.ntmps6
        go_wp2_with fail
        refine (awake12_calls w).mono ?_
        rintro e w0 ⟨rfl, hb0⟩
        go_wp2_with fail
        refine (Map_calls _ _ _ b (by omega) hc GA.out (HA.out.below hb0 (Nat.le_refl _))).mono ?_
        rintro e w1 ⟨rfl, q⟩
        rw [Lb.out]
        have hb1 := bl_then hb0 hb0.size q
        clear q hb0
        go_wp2_with fail
        refine (Map_calls _ _ _ o (by omega) hd GB.out (HB.out.below hb1 (Nat.le_refl _))).mono ?_
        rintro e w2 ⟨rfl, q⟩
        rw [Lo.out]
        have hb2 := bl_then hb1 hb1.size q
        clear q hb1
        go_wp2_with fail
        refine (Map_calls _ _ _ s (by omega) hf GC.out (HC.out.below hb2 (Nat.le_refl _))).mono ?_
        rintro e w3 ⟨rfl, q⟩
        rw [Ls.out]
        have hb3 := bl_then hb2 hb2.size q
        clear q hb2
        go_wp2
        go_ret
        exact ⟨rfl, hb3⟩
      | true =>
        have Ls := Lib.hid ls
        clear ls
        have ns := isMap_len Ls.out
        have rs := Lib.hid (ris_iff.2 (rises_srt (isMap_rises Ls.out)))
        go_enter Try.func6, Try.ntmps6
        go_wp2_with fail
        refine (awake12_calls w).mono ?_
        rintro e w0 ⟨rfl, hb0⟩
        go_wp2_with fail
        refine (Map_calls _ _ _ b (by omega) hc GA.out (HA.out.below hb0 (Nat.le_refl _))).mono ?_
        rintro e w1 ⟨rfl, q⟩
        rw [Lb.out]
        have hb1 := bl_then hb0 hb0.size q
        clear q hb0
        go_wp2_with fail
        refine (Map_calls _ _ _ o (by omega) hd GB.out (HB.out.below hb1 (Nat.le_refl _))).mono ?_
        rintro e w2 ⟨rfl, q⟩
        rw [Lo.out]
        have hb2 := bl_then hb1 hb1.size q
        clear q hb1
        go_wp2_with fail
        refine (Map_calls _ _ _ s (by omega) hf GC.out (HC.out.below hb2 (Nat.le_refl _))).mono ?_
        rintro e w3 ⟨rfl, q⟩
        rw [Ls.out]
        have hb3 := bl_then hb2 hb2.size q
        clear q hb2
        have hb3 := Lib.hid hb3
        have le := Lib.hid (mergeE_len b o s)
        have lc := Lib.hid (mergeC_len b o s)
        have mt : Hid (mergeC b s o = (mergeC b o s).map turnC) := clashes_turn b o s
        have mn : Hid (mergeC b o s = [] → mergeE b s o = mergeE b o s) := merge_turn
        have le2 := Lib.hid (mergeE_len b s o)
        have m3 := merge_bob (b := b) ro.out
        have m4 := merge_bbt (b := b) rs.out
        go_wp2_with fail
        refine (MergeOf_calls _ A B C c d f b o s (by omega) (by omega) (by omega) GA.out GB.out GC.out (HA.out.below hb3.out (Nat.le_refl _)) (HB.out.below hb3.out (Nat.le_refl _)) (HC.out.below hb3.out (Nat.le_refl _)) (fun h a ha => Nat.lt_of_lt_of_le (KA.out h a ha) hb3.out.size) (fun h a ha => Nat.lt_of_lt_of_le (KB.out h a ha) hb3.out.size) (fun h a ha => Nat.lt_of_lt_of_le (KC.out h a ha) hb3.out.size)).mono ?_
        rintro e w4 ⟨v1, u1, rfl, ov1, ou1, q⟩
        obtain ⟨A1, c1, rfl, i1, i1', e1, -⟩ := ov1.rd Entry.ok
        obtain ⟨B1, d1, rfl, j1, j1', f1, -⟩ := ou1.rd Clash.ok
        have E1 := Lib.hid e1
        have F1 := Lib.hid f1
        clear e1 f1 ov1 ou1
        have hb4 := Lib.hid (bl_then hb3.out hb3.out.size q)
        clear q hb3
        go_wp2_with fail
        refine (MergeOf_calls _ A C B c f d b s o (by omega) (by omega) (by omega) GA.out GC.out GB.out (HA.out.below hb4.out (Nat.le_refl _)) (HC.out.below hb4.out (Nat.le_refl _)) (HB.out.below hb4.out (Nat.le_refl _)) (fun h a ha => Nat.lt_of_lt_of_le (KA.out h a ha) hb4.out.size) (fun h a ha => Nat.lt_of_lt_of_le (KC.out h a ha) hb4.out.size) (fun h a ha => Nat.lt_of_lt_of_le (KB.out h a ha) hb4.out.size)).mono ?_
        rintro e w5 ⟨v2, u2, rfl, ov2, ou2, q⟩
        rw [mt.out] at ou2
        obtain ⟨A2, c2, rfl, i2, i2', e2, -⟩ := ov2.rd Entry.ok
        obtain ⟨B2, d2, rfl, j2, j2', f2, -⟩ := ou2.rd Clash.ok
        have E2 := Lib.hid e2
        have F2 := Lib.hid f2
        clear e2 f2 ov2 ou2
        have hb5 := Lib.hid (bl_then hb4.out hb4.out.size q)
        have E1 := Lib.hid (E1.out.below q (Nat.le_refl _))
        have F1 := Lib.hid (F1.out.below q (Nat.le_refl _))
        clear q hb4
        go_wp2_with fail
        refine (MergeOf_calls _ A B A c d c b o b (by omega) (by omega) (by omega) GA.out GB.out GA.out (HA.out.below hb5.out (Nat.le_refl _)) (HB.out.below hb5.out (Nat.le_refl _)) (HA.out.below hb5.out (Nat.le_refl _)) (fun h a ha => Nat.lt_of_lt_of_le (KA.out h a ha) hb5.out.size) (fun h a ha => Nat.lt_of_lt_of_le (KB.out h a ha) hb5.out.size) (fun h a ha => Nat.lt_of_lt_of_le (KA.out h a ha) hb5.out.size)).mono ?_
        rintro e w6 ⟨v3, u3, rfl, ov3, ou3, q⟩
        rw [m3.1] at ov3
        rw [m3.2] at ou3
        obtain ⟨A3, c3, rfl, i3, i3', e3, -⟩ := ov3.rd Entry.ok
        obtain ⟨B3, d3, rfl, j3, j3', f3, -⟩ := ou3.rd Clash.ok
        have E3 := Lib.hid e3
        have F3 := Lib.hid f3
        clear e3 f3 ov3 ou3
        have hb6 := Lib.hid (bl_then hb5.out hb5.out.size q)
        have E1 := Lib.hid (E1.out.below q (Nat.le_refl _))
        have F1 := Lib.hid (F1.out.below q (Nat.le_refl _))
        have E2 := Lib.hid (E2.out.below q (Nat.le_refl _))
        have F2 := Lib.hid (F2.out.below q (Nat.le_refl _))
        clear q hb5
        go_wp2_with fail
        refine (MergeOf_calls _ A A C c c f b b s (by omega) (by omega) (by omega) GA.out GA.out GC.out (HA.out.below hb6.out (Nat.le_refl _)) (HA.out.below hb6.out (Nat.le_refl _)) (HC.out.below hb6.out (Nat.le_refl _)) (fun h a ha => Nat.lt_of_lt_of_le (KA.out h a ha) hb6.out.size) (fun h a ha => Nat.lt_of_lt_of_le (KA.out h a ha) hb6.out.size) (fun h a ha => Nat.lt_of_lt_of_le (KC.out h a ha) hb6.out.size)).mono ?_
        rintro e w7 ⟨v4, u4, rfl, ov4, ou4, q⟩
        rw [m4.1] at ov4
        rw [m4.2] at ou4
        obtain ⟨A4, c4, rfl, i4, i4', e4, -⟩ := ov4.rd Entry.ok
        obtain ⟨B4, d4, rfl, j4, j4', f4, -⟩ := ou4.rd Clash.ok
        have E4 := Lib.hid e4
        have F4 := Lib.hid f4
        clear e4 f4 ov4 ou4
        have hb7 := Lib.hid (bl_then hb6.out hb6.out.size q)
        have E1 := Lib.hid (E1.out.below q (Nat.le_refl _))
        have F1 := Lib.hid (F1.out.below q (Nat.le_refl _))
        have E2 := Lib.hid (E2.out.below q (Nat.le_refl _))
        have F2 := Lib.hid (F2.out.below q (Nat.le_refl _))
        have E3 := Lib.hid (E3.out.below q (Nat.le_refl _))
        clear q hb6
        clear m3 m4 mt F3 F4
        rw [List.length_map] at j2
        generalize mergeE b o s = me at *
        generalize mergeE b s o = me2 at *
        generalize mergeC b o s = mc at *
        have hne : ((mc.length : Int) != (mc.length : Int)) = false := by simp
        go_wp2_with fail
        refine (SameEntries_calls _ A3 B c3 d o o (by omega) (by omega) E3.out (HB.out.below hb7.out (Nat.le_refl _))).mono ?_
        rintro e w8 ⟨rfl, q⟩
        rw [show decide (o = o) = true from decide_eq_true rfl]
        have hb8 := Lib.hid (bl_then hb7.out hb7.out.size q)
        have E1 := Lib.hid (E1.out.below q (Nat.le_refl _))
        have F1 := Lib.hid (F1.out.below q (Nat.le_refl _))
        have E2 := Lib.hid (E2.out.below q (Nat.le_refl _))
        have F2 := Lib.hid (F2.out.below q (Nat.le_refl _))
        have E4 := Lib.hid (E4.out.below q (Nat.le_refl _))
        clear q hb7
        go_wp2_with fail
        refine (SameEntries_calls _ A4 C c4 f s s (by omega) (by omega) E4.out (HC.out.below hb8.out (Nat.le_refl _))).mono ?_
        rintro e w9 ⟨rfl, q⟩
        rw [show decide (s = s) = true from decide_eq_true rfl]
        have hb9 := Lib.hid (bl_then hb8.out hb8.out.size q)
        have E1 := Lib.hid (E1.out.below q (Nat.le_refl _))
        have F1 := Lib.hid (F1.out.below q (Nat.le_refl _))
        have E2 := Lib.hid (E2.out.below q (Nat.le_refl _))
        have F2 := Lib.hid (F2.out.below q (Nat.le_refl _))
        clear q hb8
        go_wp2
        go_loopg [86] mc.length (fun n i wr => ∃ k : Nat, i = .int .i64 k ∧ k + n = mc.length ∧ Hid (Below w9.heap.size w9 wr))
        case atStart => exact ⟨0, rfl, by omega, Below.refl _ _⟩
        case round =>
          obtain ⟨k, rfl, hk, hb⟩ := hrel
          have hbw := Lib.hid (bl_then hb9.out hb9.out.size hb.out)
          by_cases hlt : k < mc.length
          · obtain ⟨n', hn'⟩ : ∃ n', gk = n' + 1 := ⟨gk - 1, by omega⟩
            subst hn'
            rcases F1.out.below hb.out (Nat.le_refl _) with h0 | ⟨b1, off1, rfl, hbl1, hcell1⟩
            · simp [h0] at hlt
            rcases F2.out.below hb.out (Nat.le_refl _) with h0 | ⟨b2, off2, rfl, hbl2, hcell2⟩
            · simp at h0; simp [h0] at hlt
            have hx := List.getElem?_eq_getElem hlt
            have hx2 : (mc.map turnC)[k]? = some (turnC mc[k]) := by rw [List.getElem?_map, hx]; rfl
            have c0 : wr.cell? ⟨b1, off1 + k * 7, none⟩ = some (.string mc[k].key) := hcell1 k mc[k] hx 0 _ rfl
            have c1 : wr.cell? ⟨b1, off1 + k * 7 + 1, none⟩ = some (.bool mc[k].base.has) := hcell1 k mc[k] hx 1 _ rfl
            have c2 : wr.cell? ⟨b1, off1 + k * 7 + 2, none⟩ = some (.string mc[k].base.val) := hcell1 k mc[k] hx 2 _ rfl
            have c3 : wr.cell? ⟨b1, off1 + k * 7 + 3, none⟩ = some (.bool mc[k].ours.has) := hcell1 k mc[k] hx 3 _ rfl
            have c4 : wr.cell? ⟨b1, off1 + k * 7 + 4, none⟩ = some (.string mc[k].ours.val) := hcell1 k mc[k] hx 4 _ rfl
            have c5 : wr.cell? ⟨b1, off1 + k * 7 + 5, none⟩ = some (.bool mc[k].theirs.has) := hcell1 k mc[k] hx 5 _ rfl
            have c6 : wr.cell? ⟨b1, off1 + k * 7 + 6, none⟩ = some (.string mc[k].theirs.val) := hcell1 k mc[k] hx 6 _ rfl
            have d0 : wr.cell? ⟨b2, off2 + k * 7, none⟩ = some (.string mc[k].key) := hcell2 k _ hx2 0 _ rfl
            have d1 : wr.cell? ⟨b2, off2 + k * 7 + 1, none⟩ = some (.bool mc[k].base.has) := hcell2 k _ hx2 1 _ rfl
            have d2 : wr.cell? ⟨b2, off2 + k * 7 + 2, none⟩ = some (.string mc[k].base.val) := hcell2 k _ hx2 2 _ rfl
            have d3 : wr.cell? ⟨b2, off2 + k * 7 + 3, none⟩ = some (.bool mc[k].theirs.has) := hcell2 k _ hx2 3 _ rfl
            have d4 : wr.cell? ⟨b2, off2 + k * 7 + 4, none⟩ = some (.string mc[k].theirs.val) := hcell2 k _ hx2 4 _ rfl
            have d5 : wr.cell? ⟨b2, off2 + k * 7 + 5, none⟩ = some (.bool mc[k].ours.has) := hcell2 k _ hx2 5 _ rfl
            have d6 : wr.cell? ⟨b2, off2 + k * 7 + 6, none⟩ = some (.string mc[k].ours.val) := hcell2 k _ hx2 6 _ rfl
            generalize mc[k] = x at *
            obtain ⟨key, ⟨bh, bv⟩, ⟨oh, ov⟩, ⟨th, tv⟩⟩ := x
            simp only at c0 c1 c2 c3 c4 c5 c6 d0 d1 d2 d3 d4 d5 d6
            clear hcell1 hcell2 hx hx2 hbw F1 F2 E1 E2
            have EQ : ∀ (d : Nat) (W : World), (Op.equalIn (d + 3) 47 (.agg #[.string key, .bool bh, .string bv, .bool th, .string tv, .bool oh, .string ov]) (.agg #[.string key, .bool bh, .string bv, .bool th, .string tv, .bool oh, .string ov])).run Try.prog W = .ok true W := fun d W => eqClashSame d W ⟨key, ⟨bh, bv⟩, ⟨th, tv⟩, ⟨oh, ov⟩⟩
            go_wp2
            go_quiet (fail)
            go_wp2
            go_roundg n'
            case measure => omega
            case rel =>
              refine ⟨k + 1, by go_num, by omega, ?_⟩
              show Below _ _ _
              exact bl_drewN hb.out _
          · have E1w := Lib.hid (E1.out.below hb.out (Nat.le_refl _))
            have E2w := Lib.hid (E2.out.below hb.out (Nat.le_refl _))
            by_cases hz : mc = []
            · have hm := mn.out hz
              subst hz hm
              go_wp2_with fail
              refine (SameEntries_calls _ A1 A2 c1 c2 me2 me2 (by have := le2.out; omega) (by have := le2.out; omega) E1w.out E2w.out).mono ?_
              rintro e wz ⟨rfl, q⟩
              rw [show decide (me2 = me2) = true from decide_eq_true rfl]
              have hbz := Lib.hid (bl_then hbw.out hbw.out.size q)
              go_wp2
              go_ret
              exact ⟨rfl, hbz.out⟩
            · have hp : 0 < mc.length := List.length_pos_iff.2 hz
              clear hz
              go_wp2
              go_ret
              exact ⟨rfl, hbw.out⟩
end Go.Proofs.Ytofdmkglhjpbcaa
