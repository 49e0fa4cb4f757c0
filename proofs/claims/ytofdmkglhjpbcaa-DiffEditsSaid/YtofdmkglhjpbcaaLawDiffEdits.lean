/- law11.DiffEdits -/
import Derived.Test.YtofdmkglhjpbcaaTurnsLaw
import Derived.Test.YtofdmkglhjpbcaaSortE
import Derived.Test.YtofdmkglhjpbcaaSameEntries
import Derived.Test.YtofdmkglhjpbcaaAwake11
import Derived.Test.YtofdmkglhjpbcaaCameR
namespace Go.Proofs.Ytofdmkglhjpbcaa
open Go.RowKit
set_option linter.unusedVariables false
set_option linter.unusedSimpArgs false

theorem eqEdit (d : Nat) (w : World) (x y : EditE) : (Op.equalIn (d + 2) 37 (.agg #[.string x.key, .string x.val, .bool x.gone]) (.agg #[.string y.key, .string y.val, .bool y.gone])).run Try.prog w = .ok (decide (x = y)) w := by
  have e : decide (x = y) = (x.key.toList == y.key.toList && (x.val.toList == y.val.toList && (x.gone == y.gone && true))) := by
    simp only [toList_beq]
    cases x; cases y; simp [Bool.beq_eq_decide_eq]
  rw [e]
  refine eq_struct Try.underlying37 (by kernel_rfl) ?_
  refine eqf_more (by decide) (by go_simp; rfl) (by go_simp; rfl) (by go_simp) ?_
  refine eqf_more (by decide) (by go_simp; rfl) (by go_simp; rfl) (by go_simp) ?_
  refine eqf_more (by decide) (by go_simp; rfl) (by go_simp; rfl) (by go_simp) ?_
  exact eqf_none
theorem eqEditSame (d : Nat) (w : World) (k v : Str) (g : Bool) : (Op.equalIn (d + 2) 37 (.agg #[.string k, .string v, .bool g]) (.agg #[.string k, .string v, .bool g])).run Try.prog w = .ok true w := by
  have := eqEdit d w ⟨k, v, g⟩ ⟨k, v, g⟩
  rw [decide_eq_true rfl] at this
  exact this
theorem eqChangeSame (d : Nat) (w : World) (k x y : Str) (g h : Bool) : (Op.equalIn (d + 2) 35 (.agg #[.string k, .bool g, .string x, .bool h, .string y]) (.agg #[.string k, .bool g, .string x, .bool h, .string y])).run Try.prog w = .ok true w := by
  have := eqChange d w ⟨k, g, x, h, y⟩ ⟨k, g, x, h, y⟩
  rw [decide_eq_true rfl] at this
  exact this

attribute [local go_sem high] eqEditSame eqChangeSame

theorem lightEds_len {l : List EditE} (h : lightEds l = true) : l.length ≤ 20 := by
  unfold lightEds at h
  simp only [Bool.and_eq_true, decide_eq_true_eq] at h
  exact h.2

set_option maxRecDepth 100000 in
set_option maxHeartbeats 1000000 in
theorem LawDiffEdits_calls (w : World) (v u t : Value) (a : List Entry) (l : List Change) (m : List EditE) (hl : Came w v a) (hm : CameR Change.enc 5 Change.good w u l) (hn : CameR EditE.enc 3 EditE.good w t m) :
    Calls Try.prog 4 #[v, u, t] w fun e w' => e = .returned (.bool true) ∧ Below w.heap.size w w' := by
  obtain ⟨A, c, rfl, hc, hc', hA, gA, hA'⟩ := hl
  obtain ⟨B, d, rfl, hd, hd', hB, gB, hB'⟩ := hm
  obtain ⟨E, f, rfl, hf, hf', hE, gE, hE'⟩ := hn
  have hA1 := Lib.hid hA
  have hB1 := Lib.hid hB
  have hE1 := Lib.hid hE
  have GA := Lib.hid gA
  have GE : Hid (∀ x ∈ m, x.key.size ≤ 9223372036854775807 ∧ x.val.size ≤ 9223372036854775807) := gE
  clear hA hB hE gA gB gE hA' hB' hE'
  cases ha : isMap a with
  | false =>
    have HL := Lib.hid ha
    clear ha
    go_enter Try.func4, Try.ntmps4
    go_wp2_with fail
    refine (awake11_calls w).mono ?_
    rintro e w1 ⟨rfl, hb1⟩
    go_wp2_with fail
    refine (Map_calls _ _ _ a (by omega) hc GA.out (hA1.out.below hb1 (Nat.le_refl _))).mono ?_
    rintro e w2 ⟨rfl, hb2⟩
    rw [HL.out]
    go_wp2
    go_ret
    exact ⟨rfl, bl_then hb1 hb1.size hb2⟩
  | true =>
    have HL := Lib.hid ha
    clear ha
    have n1 := isMap_len HL.out
    by_cases h30 : 30 < l.length
    · go_enter Try.func4, Try.ntmps4
      go_wp2_with fail
      refine (awake11_calls w).mono ?_
      rintro e w1 ⟨rfl, hb1⟩
      go_wp2_with fail
      refine (Map_calls _ _ _ a (by omega) hc GA.out (hA1.out.below hb1 (Nat.le_refl _))).mono ?_
      rintro e w2 ⟨rfl, hb2⟩
      rw [HL.out]
      have hb3 := bl_then hb1 hb1.size hb2
      go_wp2
      go_ret
      exact ⟨rfl, hb3⟩
    · cases hm : lightEds m with
      | false =>
        have HM := Lib.hid hm
        clear hm
        go_enter Try.func4, Try.ntmps4
        go_wp2_with fail
        refine (awake11_calls w).mono ?_
        rintro e w1 ⟨rfl, hb1⟩
        go_wp2_with fail
        refine (Map_calls _ _ _ a (by omega) hc GA.out (hA1.out.below hb1 (Nat.le_refl _))).mono ?_
        rintro e w2 ⟨rfl, hb2⟩
        rw [HL.out]
        have hb3 := bl_then hb1 hb1.size hb2
        clear hb1 hb2
        go_wp2_with fail
        refine (lawEdits_calls _ _ _ m (by omega) GE.out (hE1.out.below hb3 (Nat.le_refl _))).mono ?_
        rintro e w3 ⟨rfl, hb4⟩
        rw [HM.out]
        go_wp2
        go_ret
        exact ⟨rfl, bl_then hb3 hb3.size hb4⟩
      | true =>
        have HM := Lib.hid hm
        clear hm
        have n2 := lightEds_len HM.out
        have hEq := Lib.hid (fun (r : List Entry) => applied_eq (r := r) (l := m) (isMap_rises HL.out))
        go_enter Try.func4, Try.ntmps4
        go_wp2_with fail
        refine (awake11_calls w).mono ?_
        rintro e w1 ⟨rfl, hb1⟩
        go_wp2_with fail
        refine (Map_calls _ _ _ a (by omega) hc GA.out (hA1.out.below hb1 (Nat.le_refl _))).mono ?_
        rintro e w2 ⟨rfl, hb2⟩
        rw [HL.out]
        have hb3 := bl_then hb1 hb1.size hb2
        clear hb1 hb2
        go_wp2_with fail
        refine (lawEdits_calls _ _ _ m (by omega) GE.out (hE1.out.below hb3 (Nat.le_refl _))).mono ?_
        rintro e w3 ⟨rfl, hb4⟩
        rw [HM.out]
        have hb5 := Lib.hid (bl_then hb3 hb3.size hb4)
        clear hb3 hb4
        go_wp2_with fail
        refine (Edits_calls _ _ _ l (by omega) (hB1.out.below hb5.out (Nat.le_refl _))).mono ?_
        rintro e w4 ⟨v1, rfl, ho1, hb6⟩
        obtain ⟨A1, c1, rfl, k1, k2, k3, k4⟩ := ho1.rd EditE.ok
        have hb7 := Lib.hid (bl_then hb5.out hb5.out.size hb6)
        have K3 := Lib.hid k3
        clear ho1 k3 k4 hb6
        go_wp2_with fail
        refine (Turn_calls _ _ _ l (by omega) (hB1.out.below hb7.out (Nat.le_refl _))).mono ?_
        rintro e w5 ⟨v2, rfl, ho2, hb8⟩
        obtain ⟨A2, c2, rfl, l1, l2, l3, l4⟩ := ho2.rd Change.ok
        have hb9 := Lib.hid (bl_then hb7.out hb7.out.size hb8)
        have K4 := Lib.hid (K3.out.below hb8 (Nat.le_refl _))
        have L3 := Lib.hid l3
        clear ho2 l3 l4 hb8 K3
        rw [List.length_map] at k1 l1
        have hne : ((l.length : Int) != (l.length : Int)) = false := by simp
        go_wp2
        go_loopg [45] l.length (fun n i wr => ∃ k : Nat, i = .int .i64 k ∧ k + n = l.length ∧ Hid (Below w5.heap.size w5 wr))
        case atStart => exact ⟨0, rfl, by omega, Below.refl _ _⟩
        case round =>
          obtain ⟨k, rfl, hk, hb⟩ := hrel
          have hbw := Lib.hid (bl_then hb9.out hb9.out.size hb.out)
          by_cases hlt : k < l.length
          · obtain ⟨n', hn'⟩ : ∃ n', gk = n' + 1 := ⟨gk - 1, by omega⟩
            subst hn'
            rcases hB1.out.below hbw.out (Nat.le_refl _) with h0 | ⟨b, off, rfl, hbl, hcell⟩
            · simp [h0] at hlt
            rcases K4.out.below hb.out (Nat.le_refl _) with h0 | ⟨b1, off1, rfl, hbl1, hcell1⟩
            · simp at h0; simp [h0] at hlt
            rcases L3.out.below hb.out (Nat.le_refl _) with h0 | ⟨b2, off2, rfl, hbl2, hcell2⟩
            · simp at h0; simp [h0] at hlt
            have hx := List.getElem?_eq_getElem hlt
            have hx1 : (l.map editOf)[k]? = some (editOf l[k]) := by rw [List.getElem?_map, hx]; rfl
            have hx2 : (l.map turned)[k]? = some (turned l[k]) := by rw [List.getElem?_map, hx]; rfl
            have c0 : wr.cell? ⟨b, off + k * 5, none⟩ = some (.string l[k].key) := hcell k l[k] hx 0 _ rfl
            have c1 : wr.cell? ⟨b, off + k * 5 + 1, none⟩ = some (.bool l[k].had) := hcell k l[k] hx 1 _ rfl
            have c2 : wr.cell? ⟨b, off + k * 5 + 2, none⟩ = some (.string l[k].was) := hcell k l[k] hx 2 _ rfl
            have c3 : wr.cell? ⟨b, off + k * 5 + 3, none⟩ = some (.bool l[k].has) := hcell k l[k] hx 3 _ rfl
            have c4 : wr.cell? ⟨b, off + k * 5 + 4, none⟩ = some (.string l[k].now) := hcell k l[k] hx 4 _ rfl
            have d0 : wr.cell? ⟨b1, off1 + k * 3, none⟩ = some (.string (editOf l[k]).key) := hcell1 k _ hx1 0 _ rfl
            have d1 : wr.cell? ⟨b1, off1 + k * 3 + 1, none⟩ = some (.string (editOf l[k]).val) := hcell1 k _ hx1 1 _ rfl
            have d2 : wr.cell? ⟨b1, off1 + k * 3 + 2, none⟩ = some (.bool (editOf l[k]).gone) := hcell1 k _ hx1 2 _ rfl
            have e0 : wr.cell? ⟨b2, off2 + k * 5, none⟩ = some (.string l[k].key) := hcell2 k _ hx2 0 _ rfl
            have e1 : wr.cell? ⟨b2, off2 + k * 5 + 1, none⟩ = some (.bool l[k].has) := hcell2 k _ hx2 1 _ rfl
            have e2 : wr.cell? ⟨b2, off2 + k * 5 + 2, none⟩ = some (.string l[k].now) := hcell2 k _ hx2 2 _ rfl
            have e3 : wr.cell? ⟨b2, off2 + k * 5 + 3, none⟩ = some (.bool l[k].had) := hcell2 k _ hx2 3 _ rfl
            have e4 : wr.cell? ⟨b2, off2 + k * 5 + 4, none⟩ = some (.string l[k].was) := hcell2 k _ hx2 4 _ rfl
            generalize hxx : l[k] = x at *
            obtain ⟨key, had, was, has, now⟩ := x
            clear hcell hcell1 hcell2 hx hx1 hx2 hxx hbw hB1 K4 L3
            have hz := hb.out.size
            cases has
            · simp only [editOf, Bool.false_eq_true, if_false] at d0 d1 d2
              go_wp2
              go_quiet (fail)
              go_wp2
              go_roundg n'
              case measure => omega
              case rel =>
                refine ⟨k + 1, by go_num, by omega, ?_⟩
                show Below _ _ _
                exact bl_drewN (bl_alloc (bl_alloc hb.out _) _) _
            · simp only [editOf, if_true] at d0 d1 d2
              go_wp2
              go_quiet (fail)
              go_wp2
              go_roundg n'
              case measure => omega
              case rel =>
                refine ⟨k + 1, by go_num, by omega, ?_⟩
                show Below _ _ _
                exact bl_drewN (bl_alloc (bl_alloc hb.out _) _) _
          · go_wp2_with fail
            refine (Apply_calls sortOk _ A E c f a m (by omega) (by omega) GA.out GE.out (hA1.out.below hbw.out (Nat.le_refl _)) (hE1.out.below hbw.out (Nat.le_refl _))).mono ?_
            rintro e w6 ⟨v3, r, rfl, ho3, hr1, hr2, hb10⟩
            obtain ⟨A3, c3, rfl, m1, m2, m3, m4⟩ := ho3.rd Entry.ok
            have hrm := Lib.hid (hEq.out r hr1 hr2)
            have hb11 := Lib.hid (bl_then hbw.out hbw.out.size hb10)
            have M3 := Lib.hid m3
            clear hr1 hr2 ho3 m3 m4 hb10
            go_wp2_with fail
            refine (refApply_calls _ A E c f a m (by omega) hc hc' (hA1.out.below hb11.out (Nat.le_refl _)) (hE1.out.below hb11.out (Nat.le_refl _))).mono ?_
            rintro e w7 ⟨A4, c4, rfl, p1, p2, p3, hb12⟩
            have hb13 := Lib.hid (bl_then hb11.out hb11.out.size hb12)
            have M4 := Lib.hid (M3.out.below hb12 (Nat.le_refl _))
            have P3 := Lib.hid p3
            clear p3 hb12 M3
            go_wp2_with fail
            refine (SameEntries_calls _ A3 A4 c3 c4 r (refApply a m) (by omega) (by omega) M4.out P3.out).mono ?_
            rintro e w8 ⟨rfl, hb14⟩
            have hdt : decide (r = refApply a m) = true := by rw [decide_eq_true_iff]; exact hrm.out
            rw [hdt]
            have hb15 := Lib.hid (bl_then hb13.out hb13.out.size hb14)
            clear hb14
            go_wp2
            go_ret
            exact ⟨rfl, hb15.out⟩
end Go.Proofs.Ytofdmkglhjpbcaa
