/- law11.DiffTurns -/
import Derived.Test.YtofdmkglhjpbcaaTurnsLaw
import Derived.Test.YtofdmkglhjpbcaaSortE
import Derived.Test.YtofdmkglhjpbcaaSameEntries
import Derived.Test.YtofdmkglhjpbcaaAwake11
namespace Go.Proofs.Ytofdmkglhjpbcaa
open Go.RowKit
set_option linter.unusedVariables false
set_option linter.unusedSimpArgs false

def Small (l : List Entry) : Prop := ∀ x ∈ l, x.key.size ≤ 9223372036854775807 ∧ x.val.size ≤ 9223372036854775807
theorem get_small : ∀ {l : List Entry} (h : Small l) (k : Str), (get l k).val.size ≤ 9223372036854775807
  | [], _, k => Nat.zero_le _
  | x :: l, h, k => by
    unfold get
    split
    · exact (h x (by simp)).2
    · exact get_small (fun y hy => h y (by simp [hy])) k
theorem diff_small {a b : List Entry} (ha : Small a) (hb : Small b) : ∀ c ∈ diffRef a b, c.key.size ≤ 9223372036854775807 ∧ c.was.size ≤ 9223372036854775807 ∧ c.now.size ≤ 9223372036854775807 := by
  intro c hc
  unfold diffRef at hc
  obtain ⟨k, hk, hc⟩ := List.mem_flatMap.1 hc
  obtain ⟨l, hl, hkl⟩ := (mem_keysOf _ _).1 hk
  obtain ⟨x, hx, rfl⟩ := List.mem_map.1 hkl
  have hks : x.key.size ≤ 9223372036854775807 := by
    simp only [List.mem_cons, List.not_mem_nil, or_false] at hl
    rcases hl with rfl | rfl
    · exact (ha x hx).1
    · exact (hb x hx).1
  unfold changeAt at hc
  split at hc
  · cases hc
  · simp only [List.mem_singleton] at hc
    subst hc
    exact ⟨hks, get_small ha _, get_small hb _⟩
theorem edit_small {l : List Change} (h : ∀ c ∈ l, c.key.size ≤ 9223372036854775807 ∧ c.was.size ≤ 9223372036854775807 ∧ c.now.size ≤ 9223372036854775807) : ∀ x ∈ l.map editOf, x.key.size ≤ 9223372036854775807 ∧ x.val.size ≤ 9223372036854775807 := by
  intro x hx
  obtain ⟨c, hc, rfl⟩ := List.mem_map.1 hx
  have := h c hc
  unfold editOf
  split
  · exact ⟨this.1, this.2.2⟩
  · exact ⟨this.1, Nat.zero_le _⟩
theorem diff_len (l m : List Entry) : (diffRef l m).length ≤ l.length + m.length := by
  have h1 : (keysOf [l, m]).length ≤ l.length + m.length := by
    have ks : ∀ (l : List Entry) (acc : List Str), (keysIn acc l).length ≤ acc.length + l.length := by
      intro l
      induction l with
      | nil => intro acc; simp [keysIn]
      | cons x l ih =>
        intro acc
        have h2 := insKey_len acc x.key
        have h1 := ih (insKey acc x.key)
        have e : keysIn acc (x :: l) = keysIn (insKey acc x.key) l := rfl
        rw [e]
        simp
        omega
    have h1 := ks m (keysIn [] l)
    have h2 := ks l []
    have e : keysOf [l, m] = keysIn (keysIn [] l) m := rfl
    rw [e]
    simp at h2
    omega
  have h2 : ∀ ks : List Str, (ks.flatMap (changeAt l m)).length ≤ ks.length := by
    intro ks
    induction ks with
    | nil => simp
    | cons k ks ih =>
      rw [List.flatMap_cons, List.length_append, List.length_cons]
      have : (changeAt l m k).length ≤ 1 := by unfold changeAt; split <;> simp
      omega
  have h3 := h2 (keysOf [l, m])
  unfold diffRef
  omega

set_option maxRecDepth 100000 in
set_option maxHeartbeats 1000000 in
theorem LawDiffTurns_calls (w : World) (v u : Value) (l m : List Entry) (hl : Came w v l) (hm : Came w u m) :
    Calls Try.prog 3 #[v, u] w fun e w' => e = .returned (.bool true) ∧ Below w.heap.size w w' := by
  obtain ⟨A, c, rfl, hc, hc', hA, gA, hA'⟩ := hl
  obtain ⟨B, d, rfl, hd, hd', hB, gB, hB'⟩ := hm
  have hA1 := Lib.hid hA
  have hB1 := Lib.hid hB
  have GA := Lib.hid gA
  have GB := Lib.hid gB
  have HA' := Lib.hid hA'
  have HB' := Lib.hid hB'
  clear hA hB gA gB hA' hB'
  cases hl : isMap l with
  | false =>
    have HL := Lib.hid hl
    clear hl
    go_enter Try.func3, Try.ntmps3
    go_wp2_with fail
    refine (awake11_calls w).mono ?_
    rintro e w1 ⟨rfl, hb1⟩
    go_wp2_with fail
    refine (Map_calls _ _ _ l (by omega) hc GA.out (hA1.out.below hb1 (Nat.le_refl _))).mono ?_
    rintro e w2 ⟨rfl, hb2⟩
    rw [HL.out]
    go_wp2
    go_ret
    exact ⟨rfl, bl_then hb1 hb1.size hb2⟩
  | true =>
    have HL := Lib.hid hl
    clear hl
    cases hm : isMap m with
    | false =>
      have HM := Lib.hid hm
      clear hm
      go_enter Try.func3, Try.ntmps3
      go_wp2_with fail
      refine (awake11_calls w).mono ?_
      rintro e w1 ⟨rfl, hb1⟩
      go_wp2_with fail
      refine (Map_calls _ _ _ l (by omega) hc GA.out (hA1.out.below hb1 (Nat.le_refl _))).mono ?_
      rintro e w2 ⟨rfl, hb2⟩
      rw [HL.out]
      have hb3 := bl_then hb1 hb1.size hb2
      go_wp2_with fail
      refine (Map_calls _ _ _ m (by omega) hd GB.out (hB1.out.below hb3 (Nat.le_refl _))).mono ?_
      rintro e w3 ⟨rfl, hb4⟩
      rw [HM.out]
      go_wp2
      go_ret
      exact ⟨rfl, bl_then hb3 hb3.size hb4⟩
    | true =>
      have HM := Lib.hid hm
      clear hm
      have n1 := isMap_len HL.out
      have n2 := isMap_len HM.out
      have heq := Lib.hid (ofL_eq (isMap_rises HL.out) (isMap_rises HM.out))
      have heq2 := Lib.hid (ofL_eq (isMap_rises HM.out) (isMap_rises HL.out))
      have hln := Lib.hid (diff_len l m)
      have hln2 := Lib.hid (diff_len m l)
      have hsm := Lib.hid (edit_small (diff_small GA.out GB.out))
      have hsm2 := Lib.hid (edit_small (diff_small GB.out GA.out))
      have htu := Lib.hid (turn_diff l m)
      have hEq := Lib.hid (fun (r : List Entry) => turns_eq (r := r) (isMap_rises HL.out) (isMap_rises HM.out))
      have hEq2 := Lib.hid (fun (r : List Entry) => turns_eq (r := r) (isMap_rises HM.out) (isMap_rises HL.out))
      have hL1 : Hid (((diffRef l m).map editOf).length ≤ 120) := by show _ ≤ _; rw [List.length_map]; have := hln.out; omega
      have hL2 : Hid (((diffRef m l).map editOf).length ≤ 120) := by show _ ≤ _; rw [List.length_map]; have := hln2.out; omega
      have hL3 : Hid ((diffRef l m).length ≤ 120) := by show _ ≤ _; have := hln.out; omega
      have hL4 : Hid ((diffRef m l).length ≤ 120) := by show _ ≤ _; have := hln2.out; omega
      clear hln hln2
      obtain ⟨es, hes⟩ : ∃ es, es = (diffRef l m).map editOf := ⟨_, rfl⟩
      obtain ⟨es2, hes2⟩ : ∃ es2, es2 = (diffRef m l).map editOf := ⟨_, rfl⟩
      rw [← hes] at hsm hEq hL1
      rw [← hes2] at hsm2 hEq2 hL2
      generalize diffRef l m = dr at *
      generalize diffRef m l = dr2 at *
      have HE := Lib.hid hes
      have HE2 := Lib.hid hes2
      clear hes hes2
      go_enter Try.func3, Try.ntmps3
      go_wp2_with fail
      refine (awake11_calls w).mono ?_
      rintro e w1 ⟨rfl, hb1⟩
      go_wp2_with fail
      refine (Map_calls _ _ _ l (by omega) hc GA.out (hA1.out.below hb1 (Nat.le_refl _))).mono ?_
      rintro e w2 ⟨rfl, hb2⟩
      rw [HL.out]
      have hb3 := bl_then hb1 hb1.size hb2
      go_wp2_with fail
      refine (Map_calls _ _ _ m (by omega) hd GB.out (hB1.out.below hb3 (Nat.le_refl _))).mono ?_
      rintro e w3 ⟨rfl, hb4⟩
      rw [HM.out]
      have hb5 := Lib.hid (bl_then hb3 hb3.size hb4)
      clear hb1 hb2 hb3 hb4
      go_wp2_with fail
      refine (DiffOf_calls _ A B c d l m (hA1.out.below hb5.out (Nat.le_refl _)) (hB1.out.below hb5.out (Nat.le_refl _)) hc hd hc' hd' (fun h a ha => Nat.lt_of_lt_of_le (HA'.out h a ha) hb5.out.size) (fun h a ha => Nat.lt_of_lt_of_le (HB'.out h a ha) hb5.out.size) (by omega)).mono ?_
      rintro e w4 ⟨v1, rfl, ho1, hb6⟩
      rw [heq.out] at ho1
      obtain ⟨A1, c1, rfl, k1, k2, k3, k4⟩ := ho1.rd Change.ok
      have hb7 := Lib.hid (bl_then hb5.out hb5.out.size hb6)
      have K3 := Lib.hid k3
      clear ho1 k3 k4 hb6
      go_wp2_with fail
      refine (Edits_calls _ A1 c1 dr (by have := hL3.out; omega) K3.out).mono ?_
      rintro e w5 ⟨v2, rfl, ho2, hb8⟩
      rw [← HE.out] at ho2
      obtain ⟨A2, c2, rfl, l1, l2, l3, l4⟩ := ho2.rd EditE.ok
      have hb9 := Lib.hid (bl_then hb7.out hb7.out.size hb8)
      have K5 := Lib.hid (K3.out.below hb8 (Nat.le_refl _))
      have L3 := Lib.hid l3
      clear ho2 l3 l4 hb8 K3
      go_wp2_with fail
      refine (Apply_calls sortOk _ A A2 c c2 l es (by omega) (by have := hL1.out; omega) GA.out hsm.out (hA1.out.below hb9.out (Nat.le_refl _)) L3.out).mono ?_
      rintro e w6 ⟨v3, r, rfl, ho3, hr1, hr2, hb10⟩
      obtain ⟨A3, c3, rfl, m1, m2, m3, m4⟩ := ho3.rd Entry.ok
      have hrm := Lib.hid (hEq.out r hr1 hr2)
      have hb11 := Lib.hid (bl_then hb9.out hb9.out.size hb10)
      have M3 := Lib.hid m3
      have K6 := Lib.hid (K5.out.below hb10 (Nat.le_refl _))
      clear hr1 hr2 ho3 m3 m4 hb10 K5 L3
      go_wp2_with fail
      refine (SameEntries_calls _ A3 B c3 d r m (by omega) (by omega) M3.out (hB1.out.below hb11.out (Nat.le_refl _))).mono ?_
      rintro e w7 ⟨rfl, hb12⟩
      have hb13 := Lib.hid (bl_then hb11.out hb11.out.size hb12)
      have K7 := Lib.hid (K6.out.below hb12 (Nat.le_refl _))
      have hdt : decide (r = m) = true := by rw [decide_eq_true_iff]; exact hrm.out
      rw [hdt]
      clear hb12 K6 M3
      go_wp2_with fail
      refine (Turn_calls _ A1 c1 dr (by have := hL3.out; omega) K7.out).mono ?_
      rintro e w8 ⟨v4, rfl, ho4, hb14⟩
      rw [htu.out] at ho4
      obtain ⟨A4, c4, rfl, p1, p2, p3, p4⟩ := ho4.rd Change.ok
      have hb15 := Lib.hid (bl_then hb13.out hb13.out.size hb14)
      have K8 := Lib.hid (K7.out.below hb14 (Nat.le_refl _))
      have P3 := Lib.hid p3
      clear ho4 p3 p4 hb14 K7
      go_wp2_with fail
      refine (DiffOf_calls _ B A d c m l (hB1.out.below hb15.out (Nat.le_refl _)) (hA1.out.below hb15.out (Nat.le_refl _)) hd hc hd' hc' (fun h a ha => Nat.lt_of_lt_of_le (HB'.out h a ha) hb15.out.size) (fun h a ha => Nat.lt_of_lt_of_le (HA'.out h a ha) hb15.out.size) (by omega)).mono ?_
      rintro e w9 ⟨v5, rfl, ho5, hb16⟩
      rw [heq2.out] at ho5
      obtain ⟨A5, c5, rfl, q1, q2, q3, q4⟩ := ho5.rd Change.ok
      have hb17 := Lib.hid (bl_then hb15.out hb15.out.size hb16)
      have K9 := Lib.hid (K8.out.below hb16 (Nat.le_refl _))
      have P4 := Lib.hid (P3.out.below hb16 (Nat.le_refl _))
      have Q3 := Lib.hid q3
      clear ho5 q3 q4 hb16 K8 P3
      go_wp2_with fail
      refine (SameChanges_calls _ A4 A5 c4 c5 dr2 dr2 (by have := hL4.out; omega) (by have := hL4.out; omega) P4.out Q3.out).mono ?_
      rintro e w10 ⟨rfl, hb18⟩
      have hb19 := Lib.hid (bl_then hb17.out hb17.out.size hb18)
      have K10 := Lib.hid (K9.out.below hb18 (Nat.le_refl _))
      have hdt2 : decide (dr2 = dr2) = true := by simp
      rw [hdt2]
      clear hb18 K9 P4 Q3
      go_wp2_with fail
      refine (Turn_calls _ A1 c1 dr (by have := hL3.out; omega) K10.out).mono ?_
      rintro e w11 ⟨v6, rfl, ho6, hb20⟩
      rw [htu.out] at ho6
      obtain ⟨A6, c6, rfl, s1, s2, s3, s4⟩ := ho6.rd Change.ok
      have hb21 := Lib.hid (bl_then hb19.out hb19.out.size hb20)
      have S3 := Lib.hid s3
      clear ho6 s3 s4 hb20 K10
      go_wp2_with fail
      refine (Edits_calls _ A6 c6 dr2 (by have := hL4.out; omega) S3.out).mono ?_
      rintro e w12 ⟨v7, rfl, ho7, hb22⟩
      rw [← HE2.out] at ho7
      obtain ⟨A7, c7, rfl, t1, t2, t3, t4⟩ := ho7.rd EditE.ok
      have hb23 := Lib.hid (bl_then hb21.out hb21.out.size hb22)
      have T3 := Lib.hid t3
      clear ho7 t3 t4 hb22 S3
      go_wp2_with fail
      refine (Apply_calls sortOk _ B A7 d c7 m es2 (by omega) (by have := hL2.out; omega) GB.out hsm2.out (hB1.out.below hb23.out (Nat.le_refl _)) T3.out).mono ?_
      rintro e w13 ⟨v8, r2, rfl, ho8, hr1, hr2, hb24⟩
      obtain ⟨A8, c8, rfl, x1, x2, x3, x4⟩ := ho8.rd Entry.ok
      have hrl := Lib.hid (hEq2.out r2 hr1 hr2)
      have hb25 := Lib.hid (bl_then hb23.out hb23.out.size hb24)
      have X3 := Lib.hid x3
      clear hr1 hr2 ho8 x3 x4 hb24 T3
      go_wp2_with fail
      refine (SameEntries_calls _ A8 A c8 c r2 l (by omega) (by omega) X3.out (hA1.out.below hb25.out (Nat.le_refl _))).mono ?_
      rintro e w14 ⟨rfl, hb26⟩
      have hdt3 : decide (r2 = l) = true := by rw [decide_eq_true_iff]; exact hrl.out
      rw [hdt3]
      have hb27 := Lib.hid (bl_then hb25.out hb25.out.size hb26)
      clear hb26
      go_wp2
      go_ret
      exact ⟨rfl, hb27.out⟩
end Go.Proofs.Ytofdmkglhjpbcaa
