/- patch.Apply, ref27.Apply -/
import Derived.Test.YtofdmkglhjpbcaaPatchR
import Derived.Test.YtofdmkglhjpbcaaPatchQ
import Derived.Test.YtofdmkglhjpbcaaSidesP
import Derived.Test.YtofdmkglhjpbcaaSortE
import Derived.Test.YtofdmkglhjpbcaaMergeOf
import Derived.Test.YtofdmkglhjpbcaaTurnsLaw
namespace Go.Proofs.Ytofdmkglhjpbcaa
open Go.RowKit Go.Maps
set_option linter.unusedVariables false
set_option linter.unusedSimpArgs false

theorem eqSideL' (d : Nat) (w : World) (h1 h2 : Bool) (v1 v2 : Str) : (Op.equalIn (d + 2) 45 (.agg #[.bool h1, .string v1]) (.agg #[.bool h2, .string v2])).run Try.prog w = .ok (decide ((⟨h1, v1⟩ : Side) = ⟨h2, v2⟩)) w := eqSide d w ⟨h1, v1⟩ ⟨h2, v2⟩

/-- A change's old side is what the map has. -/
def fits (a : List Entry) (c : Change) : Bool := decide (get a c.key = ⟨c.had, c.was⟩)
def patchApply (a : List Entry) (l : List Change) : List Entry × Int :=
  if patchErr l ≠ 0 then ([], patchErr l) else if l.all (fits a) = true then (refApply a (l.map editOf), 0) else ([], 170)
def SmallC (l : List Change) : Prop := ∀ x ∈ l, x.key.size ≤ 9223372036854775807 ∧ x.was.size ≤ 9223372036854775807 ∧ x.now.size ≤ 9223372036854775807
theorem patchApply_bad {a : List Entry} {l : List Change} (h : patchErr l ≠ 0) : patchApply a l = ([], patchErr l) := if_pos h
theorem patchApply_170 {a : List Entry} {l : List Change} (h : patchErr l = 0) {c : Change} (hc : c ∈ l) (hf : fits a c = false) : patchApply a l = ([], 170) := by
  unfold patchApply
  rw [if_neg (by simp [h]), if_neg (fun e => by have := List.all_eq_true.1 e c hc; rw [hf] at this; cases this)]
theorem patchApply_ok {a : List Entry} {l : List Change} (h : patchErr l = 0) (hf : l.all (fits a) = true) : patchApply a l = (refApply a (l.map editOf), 0) := by
  unfold patchApply
  rw [if_neg (by simp [h]), if_pos hf]
theorem smallE {l : List Change} (h : SmallC l) : ∀ x ∈ l.map editOf, x.key.size ≤ 9223372036854775807 ∧ x.val.size ≤ 9223372036854775807 := by
  intro x hx
  obtain ⟨c, hc, rfl⟩ := List.mem_map.1 hx
  have := h c hc
  unfold editOf
  split
  · exact ⟨this.1, this.2.2⟩
  · exact ⟨this.1, Nat.zero_le _⟩

set_option maxRecDepth 100000 in
set_option maxHeartbeats 2000000 in
theorem PApply_calls (w : World) (A B : Option Addr) (c d : Nat) (a : List Entry) (l : List Change) (la : a.length ≤ 1000000) (ll : l.length ≤ 1000000) (hr : rises a = true) (za : Small' a) (zl : SmallC l)
    (hA : Rd Entry.enc 2 w A a) (hB : Rd Change.enc 5 w B l) (hA' : a ≠ [] → ∀ x, A = some x → x.block < w.heap.size) :
    Calls Try.prog 31 #[.slice A a.length c, .slice B l.length d] w fun e w' => ∃ v, e = .returned (.tuple #[v, .int .i64 (patchApply a l).2]) ∧ Own Entry.enc 2 72 w.heap.size w' v (patchApply a l).1 ∧ Below w.heap.size w w' := by
  have HA := Lib.hid hA
  have HB := Lib.hid hB
  have HA' := Lib.hid hA'
  have ZA := Lib.hid za
  have ZL := Lib.hid zl
  have HR := Lib.hid hr
  clear hA hB hA' za zl hr
  cases he : decide (patchErr l = 0) with
  | false =>
    have hne : ¬ patchErr l = 0 := by simpa using he
    have hp := Lib.hid (patchApply_bad (a := a) hne)
    have hnb : (patchErr l != 0) = true := by simpa using hne
    clear he hne
    go_enter Try.func31, Try.ntmps31
    go_wp2_with fail
    refine (Right_calls28 _ B d l ll ZL.out HB.out).mono ?_
    rintro e w1 ⟨rfl, hb1⟩
    generalize patchErr l = pe at *
    go_wp2
    go_ret2
    exact ⟨.slice none 0 0, by rw [hp.out]; rfl, by rw [hp.out]; exact Own.nil, hb1⟩
  | true =>
    have hz : patchErr l = 0 := by simpa using he
    have HZ := Lib.hid hz
    clear he hz
    go_enter Try.func31, Try.ntmps31
    go_wp2_with fail
    refine (Right_calls28 _ B d l ll ZL.out HB.out).mono ?_
    rintro e w1 ⟨rfl, hb1⟩
    rw [HZ.out]
    have B1 := Lib.hid hb1
    clear hb1
    go_wp2_with fail
    refine (psides_calls _ A c a la ZA.out (fun h x hx => Nat.lt_of_lt_of_le (HA'.out h x hx) B1.out.size) (HA.out.below B1.out (Nat.le_refl _))).mono ?_
    rintro e w2 ⟨g, rfl, hg, hm, hb2⟩
    have M2 := Lib.hid hm
    have B2 := Lib.hid (bl_then B1.out B1.out.size hb2)
    clear hm hb2 B1
    go_wp2
    go_loopg [19] l.length (fun n i wr => ∃ k : Nat, i = .int .i64 k ∧ k + n = l.length ∧ Hid (∀ j c, j < k → l[j]? = some c → fits a c = true) ∧ Hid (Below w2.heap.size w2 wr))
    case atStart => exact ⟨0, rfl, by omega, fun j c h => by omega, Below.refl _ _⟩
    case round =>
      obtain ⟨k, rfl, hk, hf, hb⟩ := hrel
      have hbw := Lib.hid (bl_then B2.out B2.out.size hb.out)
      by_cases hlt : k < l.length
      · obtain ⟨n', hn'⟩ : ∃ n', gk = n' + 1 := ⟨gk - 1, by omega⟩
        subst hn'
        rcases HB.out.below hbw.out (Nat.le_refl _) with h0 | ⟨b, off, rfl, hbl, hc⟩
        · simp [h0] at hlt
        have hx := List.getElem?_eq_getElem hlt
        have hmem := List.getElem_mem hlt
        have c0 : wr.cell? ⟨b, off + k * 5, none⟩ = some (.string l[k].key) := hc k l[k] hx 0 _ rfl
        have c1 : wr.cell? ⟨b, off + k * 5 + 1, none⟩ = some (.bool l[k].had) := hc k l[k] hx 1 _ rfl
        have c2 : wr.cell? ⟨b, off + k * 5 + 2, none⟩ = some (.string l[k].was) := hc k l[k] hx 2 _ rfl
        have c3 : wr.cell? ⟨b, off + k * 5 + 3, none⟩ = some (.bool l[k].has) := hc k l[k] hx 3 _ rfl
        have c4 : wr.cell? ⟨b, off + k * 5 + 4, none⟩ = some (.string l[k].now) := hc k l[k] hx 4 _ rfl
        obtain ⟨s0, s1, s2⟩ := ZL.out l[k] hmem
        have HX := Lib.hid hx
        have HM := Lib.hid hmem
        generalize l[k] = x at *
        obtain ⟨key, had, was, has, now⟩ := x
        simp only at c0 c1 c2 c3 c4 s0
        have hks : Hid (key.size ≤ maxLen) := by show _ ≤ _; unfold maxLen; exact s0
        have hm3 : Hid (MapG Try.prog 9 sideV (wr.alloc (.cells #[.string key, .bool had, .string was, .bool has, .string now] 35)) g a.length (sidesOf a)) := (M2.out.below hb.out M2.out.lt).kept (World.grownBy_alloc _ _ none) (by simp)
        have lk := look_side hm3.out key hks.out (sidesOf_get a key)
        have hfit : Hid (fits a ⟨key, had, was, has, now⟩ = decide (get a key = ⟨had, was⟩)) := rfl
        generalize get a key = s at *
        obtain ⟨sh, sv⟩ := s
        simp only at lk
        clear hc hx hmem s0 s1 s2 hm3
        have heq := fun (d : Nat) (W : World) => eqSideL' d W sh had sv was
        obtain ⟨q, hq⟩ : ∃ q, q = decide ((⟨sh, sv⟩ : Side) = ⟨had, was⟩) := ⟨_, rfl⟩
        rw [← hq] at heq hfit
        clear hq
        cases q with
        | false =>
          have hp : Hid (patchApply a l = ([], 170)) := patchApply_170 HZ.out HM.out (by rw [hfit.out])
          go_wp2
          go_ret2
          exact ⟨.slice none 0 0, by rw [hp.out]; rfl, by rw [hp.out]; exact Own.nil, bl_alloc hbw.out _⟩
        | true =>
          have hf' : Hid (∀ j c, j < k + 1 → l[j]? = some c → fits a c = true) := fun j c hj hc => by
            by_cases e : j = k
            · subst e
              rw [HX.out] at hc
              cases hc
              rw [hfit.out]
            · exact hf.out j c (by omega) hc
          go_wp2
          go_roundg n'
          case measure => omega
          case rel => exact ⟨k + 1, by go_num, by omega, hf', bl_alloc hb.out _⟩
      · have hp : Hid (patchApply a l = (refApply a (l.map editOf), 0)) := patchApply_ok HZ.out (List.all_eq_true.2 fun x hx => by
          obtain ⟨j, hj⟩ := List.getElem?_of_mem hx
          have := (List.getElem?_eq_some_iff.1 hj).1
          exact hf.out j x (by omega) hj)
        have hEq := Lib.hid (fun (r : List Entry) => applied_eq (r := r) (l := l.map editOf) HR.out)
        have hLE : Hid ((l.map editOf).length ≤ 1000000) := by show _ ≤ _; rw [List.length_map]; exact ll
        have hZE := Lib.hid (smallE ZL.out)
        obtain ⟨es, hes⟩ : ∃ es, es = l.map editOf := ⟨_, rfl⟩
        rw [← hes] at hp hEq hLE hZE
        have HES := Lib.hid hes
        clear hes
        go_wp2_with fail
        refine (Edits_calls _ B d l ll (HB.out.below hbw.out (Nat.le_refl _))).mono ?_
        rintro e w3 ⟨v2, rfl, ho2, hb3⟩
        rw [← HES.out] at ho2
        obtain ⟨A2, c2, rfl, l1, l2, l3, l4⟩ := ho2.rd EditE.ok
        have hbw3 := Lib.hid (bl_then hbw.out hbw.out.size hb3)
        have L3 := Lib.hid l3
        clear ho2 l3 l4 hb3
        go_wp2_with fail
        refine (Apply_calls sortOk _ A A2 c c2 a es la hLE.out ZA.out hZE.out (HA.out.below hbw3.out (Nat.le_refl _)) L3.out).mono ?_
        rintro e w4 ⟨v3, r, rfl, ho3, hr1, hr2, hb4⟩
        have hre := hEq.out r hr1 hr2
        subst hre
        have HO := Lib.hid ho3
        have hbw4 := Lib.hid (bl_then hbw3.out hbw3.out.size hb4)
        clear ho3 hr1 hr2 hb4
        go_wp2
        go_ret2
        exact ⟨_, by rw [hp.out]; rfl, by rw [hp.out]; exact HO.out.mono hbw3.out.size, hbw4.out⟩
end Go.Proofs.Ytofdmkglhjpbcaa
