/- law11.awake, law11.DiffOf -/
import Derived.Test.YtglpckdmiohciaaDiffOf
import Derived.Test.YtglpckdmiohciaaRefDiff
import Derived.Test.YtglpckdmiohciaaOfSpec
import Derived.Test.YtglpckdmiohciaaSameChanges
import Derived.Test.YtglpckdmiohciaaMapA
namespace Go.Proofs.Ytglpckdmiohciaa
open Go.RowKit
set_option linter.unusedVariables false
set_option linter.unusedSimpArgs false

def sA : Str := ⟨#[97]⟩
def s1 : Str := ⟨#[49]⟩
def s2 : Str := ⟨#[50]⟩
theorem awake11_of : ofL 2 [⟨sA, s1⟩] [⟨sA, s2⟩] = [⟨sA, true, s1, true, s2⟩] := by decide +kernel

set_option maxRecDepth 100000 in
theorem awake11_calls (w : World) : Calls Try.prog 18 #[] w fun e w' => e = .returned (.bool true) ∧ Below w.heap.size w w' := by
  have hA : Hid (Rd Entry.enc 2 ((w.alloc (.cells #[.string sA, .string s1] 109)).alloc (.cells #[.string sA, .string s2] 109)) (some ⟨w.heap.size, 0, none⟩) [⟨sA, s1⟩]) := Rd.lit (cs := #[.string sA, .string s1]) (blk_alloc (blk_new _ _) _) rfl
  have hB : Hid (Rd Entry.enc 2 ((w.alloc (.cells #[.string sA, .string s1] 109)).alloc (.cells #[.string sA, .string s2] 109)) (some ⟨w.heap.size + 1, 0, none⟩) [⟨sA, s2⟩]) := by
    have := Rd.lit (enc := Entry.enc) (sz := 2) (x := ⟨sA, s2⟩) (cs := #[.string sA, .string s2]) (blk_new (w.alloc (.cells #[.string sA, .string s1] 109)) (.cells #[.string sA, .string s2] 109)) rfl
    simpa [Hid] using this
  go_enter Try.func18, Try.ntmps18
  go_wp2_with fail
  refine (DiffOf_calls _ _ _ 1 1 [⟨sA, s1⟩] [⟨sA, s2⟩] hA.out hB.out (by simp) (by simp) (by omega) (by omega) (fun _ a ha => by cases ha; simp; omega) (fun _ a ha => by cases ha; simp) (by simp)).mono ?_
  rintro e w1 ⟨v, rfl, ho, hb⟩
  have ho' : Own Change.enc 5 111 _ w1 v [⟨sA, true, s1, true, s2⟩] := awake11_of ▸ ho
  obtain ⟨A, c, rfl, hc, hm, hr, hba⟩ := ho'.rd Change.ok
  rcases hr with h0 | ⟨b, off, rfl, hbl, hcell⟩
  · cases h0
  have c2 : w1.cell? ⟨b, off + 2, none⟩ = some (.string s1) := by have := hcell 0 _ rfl 2 _ rfl; simpa using this
  have c4 : w1.cell? ⟨b, off + 4, none⟩ = some (.string s2) := by have := hcell 0 _ rfl 4 _ rfl; simpa using this
  have q1 : (s1.toList == ([49] : List UInt8)) = true := by decide +kernel
  have q2 : (s2.toList == ([50] : List UInt8)) = true := by decide +kernel
  have hb1 : Hid (Below w.heap.size w w1) := bl_then (bl_alloc (bl_alloc (Below.refl _ _) _) _) (by simp; omega) hb
  clear hcell ho ho' hb hba
  generalize s1 = t1 at *
  generalize s2 = t2 at *
  go_wp2
  go_ret
  exact ⟨rfl, hb1.out⟩

theorem isMap_len {l : List Entry} (h : isMap l = true) : l.length ≤ 60 := by
  simp only [isMap, light, Bool.and_eq_true, decide_eq_true_eq] at h
  exact h.1.2

set_option maxRecDepth 100000 in
theorem LawDiffOf_calls (w : World) (v u : Value) (l m : List Entry) (hl : Came w v l) (hm : Came w u m) :
    Calls Try.prog 4 #[v, u] w fun e w' => e = .returned (.bool true) ∧ Below w.heap.size w w' := by
  obtain ⟨A, c, rfl, hc, hc', hA, gA, hA'⟩ := hl
  obtain ⟨B, d, rfl, hd, hd', hB, gB, hB'⟩ := hm
  have hA1 := Lib.hid hA
  have hB1 := Lib.hid hB
  have GA := Lib.hid gA
  have GB := Lib.hid gB
  have HA' := Lib.hid hA'
  have HB' := Lib.hid hB'
  clear hA hB gA gB hA' hB'
  cases hl : isMap l with
  | false =>
    have HL := Lib.hid hl
    clear hl
    go_enter Try.func4, Try.ntmps4
    go_wp2_with fail
    refine (awake11_calls w).mono ?_
    rintro e w1 ⟨rfl, hb1⟩
    go_wp2_with fail
    refine (Map_calls _ _ _ l (by omega) hc GA.out (hA1.out.below hb1 (Nat.le_refl _))).mono ?_
    rintro e w2 ⟨rfl, hb2⟩
    rw [HL.out]
    go_wp2
    go_ret
    exact ⟨rfl, bl_then hb1 hb1.size hb2⟩
  | true =>
    have HL := Lib.hid hl
    clear hl
    cases hm : isMap m with
    | false =>
      have HM := Lib.hid hm
      clear hm
      go_enter Try.func4, Try.ntmps4
      go_wp2_with fail
      refine (awake11_calls w).mono ?_
      rintro e w1 ⟨rfl, hb1⟩
      go_wp2_with fail
      refine (Map_calls _ _ _ l (by omega) hc GA.out (hA1.out.below hb1 (Nat.le_refl _))).mono ?_
      rintro e w2 ⟨rfl, hb2⟩
      rw [HL.out]
      have hb3 := bl_then hb1 hb1.size hb2
      go_wp2_with fail
      refine (Map_calls _ _ _ m (by omega) hd GB.out (hB1.out.below hb3 (Nat.le_refl _))).mono ?_
      rintro e w3 ⟨rfl, hb4⟩
      rw [HM.out]
      go_wp2
      go_ret
      exact ⟨rfl, bl_then hb3 hb3.size hb4⟩
    | true =>
      have HM := Lib.hid hm
      clear hm
      have n1 := isMap_len HL.out
      have n2 := isMap_len HM.out
      have hlm : l.length + m.length ≤ 1000000 := by omega
      have heq := Lib.hid (ofL_eq (isMap_rises HL.out) (isMap_rises HM.out))
      have hln : Hid ((diffRef l m).length ≤ 1000000) := by
        show _ ≤ _
        have h1 := keys2_len l m
        have h2 : ∀ ks : List Str, (ks.flatMap (changeAt l m)).length ≤ ks.length := by
          intro ks
          induction ks with
          | nil => simp
          | cons k ks ih =>
            rw [List.flatMap_cons, List.length_append, List.length_cons]
            have : (changeAt l m k).length ≤ 1 := by unfold changeAt; split <;> simp
            omega
        have h3 := h2 (keysOf [l, m])
        unfold diffRef
        omega
      go_enter Try.func4, Try.ntmps4
      go_wp2_with fail
      refine (awake11_calls w).mono ?_
      rintro e w1 ⟨rfl, hb1⟩
      go_wp2_with fail
      refine (Map_calls _ _ _ l (by omega) hc GA.out (hA1.out.below hb1 (Nat.le_refl _))).mono ?_
      rintro e w2 ⟨rfl, hb2⟩
      rw [HL.out]
      have hb3 := bl_then hb1 hb1.size hb2
      go_wp2_with fail
      refine (Map_calls _ _ _ m (by omega) hd GB.out (hB1.out.below hb3 (Nat.le_refl _))).mono ?_
      rintro e w3 ⟨rfl, hb4⟩
      rw [HM.out]
      have hb5 := bl_then hb3 hb3.size hb4
      go_wp2_with fail
      refine (DiffOf_calls _ A B c d l m (hA1.out.below hb5 (Nat.le_refl _)) (hB1.out.below hb5 (Nat.le_refl _)) hc hd hc' hd' ?_ ?_ hlm).mono ?_
      · exact fun h a ha => Nat.lt_of_lt_of_le (HA'.out h a ha) hb5.size
      · exact fun h a ha => Nat.lt_of_lt_of_le (HB'.out h a ha) hb5.size
      rintro e w4 ⟨v1, rfl, ho1, hb6⟩
      rw [heq.out] at ho1
      obtain ⟨A1, c1, rfl, k1, k2, k3, k4⟩ := ho1.rd Change.ok
      have hb7 := bl_then hb5 hb5.size hb6
      have K3 := Lib.hid k3
      clear ho1 k3 k4
      go_wp2_with fail
      refine (RefDiff_calls _ A B c d l m (hA1.out.below hb7 (Nat.le_refl _)) (hB1.out.below hb7 (Nat.le_refl _)) hc hd hc' hd' hlm).mono ?_
      rintro e w5 ⟨v2, rfl, ho2, hb8⟩
      obtain ⟨A2, c2, rfl, m1, m2, m3, m4⟩ := ho2.rd Change.ok
      have hb9 := bl_then hb7 hb7.size hb8
      have M3 := Lib.hid m3
      clear ho2 m3 m4
      generalize hdr : diffRef l m = dr at *
      have K4 := Lib.hid (K3.out.below hb8 (Nat.le_refl _))
      clear hdr
      go_wp2_with fail
      refine (SameChanges_calls _ A1 A2 c1 c2 dr dr (by have := hln.out; omega) (by have := hln.out; omega) K4.out M3.out).mono ?_
      rintro e w6 ⟨rfl, hb10⟩
      go_wp2
      go_ret
      exact ⟨ret_bool (by simp), bl_then hb9 hb9.size hb10⟩
end Go.Proofs.Ytglpckdmiohciaa
