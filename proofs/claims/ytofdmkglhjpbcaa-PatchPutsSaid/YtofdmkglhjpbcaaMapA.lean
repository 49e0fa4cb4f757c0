/- law09.Light, ref09.Key, Val, Rises, Right, law11.Map -/
import Derived.Test.YtofdmkglhjpbcaaProg
import Derived.Test.YtofdmkglhjpbcaaBase
import Derived.Test.YtofdmkglhjpbcaaPure
import Derived.Deep.QuietTactic
import Derived.BigQuiet
namespace Go.Proofs.Ytofdmkglhjpbcaa
open Go.RowKit
set_option linter.unusedVariables false
set_option linter.unusedSimpArgs false

theorem refKey_calls (w : World) (k : Str) (hk : k.size ≤ 9223372036854775807) :
    Calls Try.prog 73 #[.string k] w fun e w' => e = .returned (.int .i64 (keyErr k)) ∧ w = w' := by
  by_cases h1 : k.size < 1
  · have hv : Hid (keyErr k = 100) := by show _ = _; simp [keyErr, h1]
    go_enter Try.func73, Try.ntmps73
    go_wp2
    go_ret
    exact ⟨by rw [hv.out]; rfl, rfl⟩
  · by_cases h2 : 40 < k.size
    · have hv : Hid (keyErr k = 100) := by show _ = _; simp [keyErr, h2]
      go_enter Try.func73, Try.ntmps73
      go_wp2
      go_ret
      exact ⟨by rw [hv.out]; rfl, rfl⟩
    · have hv : Hid (keyErr k = 0) := by show _ = _; simp [keyErr, h1, h2]
      go_enter Try.func73, Try.ntmps73
      go_wp2
      go_ret
      exact ⟨by rw [hv.out]; rfl, rfl⟩

theorem refVal_calls (w : World) (k : Str) (hk : k.size ≤ 9223372036854775807) :
    Calls Try.prog 78 #[.string k] w fun e w' => e = .returned (.int .i64 (valErr k)) ∧ w = w' := by
  by_cases h2 : 200 < k.size
  · have hv : Hid (valErr k = 101) := by show _ = _; simp [valErr, h2]
    go_enter Try.func78, Try.ntmps78
    go_wp2
    go_ret
    exact ⟨by rw [hv.out]; rfl, rfl⟩
  · have hv : Hid (valErr k = 0) := by show _ = _; simp [valErr, h2]
    go_enter Try.func78, Try.ntmps78
    go_wp2
    go_ret
    exact ⟨by rw [hv.out]; rfl, rfl⟩

theorem Light_calls (w : World) (A : Option Addr) (c : Nat) (l : List Entry) (hm : l.length ≤ 9223372036854775807) (hs : ∀ x ∈ l, x.key.size ≤ 9223372036854775807 ∧ x.val.size ≤ 9223372036854775807) (h : Rd Entry.enc 2 w A l) :
    Calls Try.prog 41 #[.slice A l.length c] w fun e w' => e = .returned (.bool (light l)) ∧ Below w.heap.size w w' := by
  have hs' := Lib.hid hs
  clear hs
  go_enter Try.func41, Try.ntmps41
  go_wp2
  go_loopw [7] (fun i wr => ∃ k : Nat, k ≤ l.length ∧ i = .int .i64 k ∧ Hid (light l = ((l.drop k).all lightE && decide (l.length ≤ 60))) ∧ Below w.heap.size w wr) (fun i _ => l.length - (intOf i).toNat)
  case atStart => exact ⟨0, Nat.zero_le _, rfl, rfl, Below.refl _ _⟩
  case round =>
    obtain ⟨k, hk, rfl, hg, hb⟩ := hrel
    by_cases hlt : k < l.length
    · rcases h.below hb (Nat.le_refl _) with h0 | ⟨b, off, rfl, hbl, hc⟩
      · simp [h0] at hlt
      have c0 : wr.cell? ⟨b, off + k * 2, none⟩ = some (.string l[k].key) := hc k l[k] (by simp [hlt]) 0 _ rfl
      have c1 : wr.cell? ⟨b, off + k * 2 + 1, none⟩ = some (.string l[k].val) := hc k l[k] (by simp [hlt]) 1 _ rfl
      have hd : l.drop k = l[k] :: l.drop (k + 1) := by simp
      obtain ⟨s0, s1⟩ := hs'.out l[k] (List.getElem_mem _)
      clear hc h
      by_cases h1 : 60 < l[k].key.size
      · have hv : Hid (light l = false) := by show _ = _; rw [hg.out, hd, List.all_cons, show lightE l[k] = false from by simp [lightE]; omega]; simp
        clear hd
        go_wp2
        go_ret
        exact ⟨by rw [hv.out]; rfl, bl_alloc hb _⟩
      · by_cases h2 : 250 < l[k].val.size
        · have hv : Hid (light l = false) := by show _ = _; rw [hg.out, hd, List.all_cons, show lightE l[k] = false from by simp [lightE]; omega]; simp
          clear hd
          go_wp2
          go_ret
          exact ⟨by rw [hv.out]; rfl, bl_alloc hb _⟩
        · have hg' : Hid (light l = ((l.drop (k + 1)).all lightE && decide (l.length ≤ 60))) := by show _ = _; rw [hg.out, hd, List.all_cons, show lightE l[k] = true from by simp [lightE]; omega]; simp
          clear hd
          go_wp2
          exact ⟨⟨k + 1, by omega, by go_num, hg', bl_alloc hb _⟩, by simp [intOf]; omega⟩
    · have hv : Hid (light l = decide (l.length ≤ 60)) := by show _ = _; rw [hg.out, List.drop_of_length_le (by omega)]; simp
      go_wp2
      go_ret
      exact ⟨by rw [hv.out]; exact ret_bool (decide_eq_decide.2 (by omega)), hb⟩

theorem Rises_calls (w : World) (A : Option Addr) (c : Nat) (l : List Entry) (hm : l.length ≤ 9223372036854775807) (hcap : l.length ≤ c) (h : Rd Entry.enc 2 w A l) :
    Calls Try.prog 79 #[.slice A l.length c] w fun e w' => e = .returned (.bool (rises l)) ∧ Below w.heap.size w w' := by
  go_enter Try.func79, Try.ntmps79
  go_wp2
  go_loopw [6] (fun i wr => ∃ k : Nat, k ≤ l.length ∧ i = .int .i64 k ∧ Hid (∀ (i : Nat) (h : i + 1 < l.length), i + 1 < k → slt l[i].key l[i + 1].key = true) ∧ Below w.heap.size w wr) (fun i _ => l.length - (intOf i).toNat)
  case atStart => exact ⟨0, Nat.zero_le _, rfl, fun i _ h => by omega, Below.refl _ _⟩
  case round =>
    obtain ⟨k, hk, rfl, hg, hb⟩ := hrel
    by_cases hlt : k < l.length
    · rcases h.below hb (Nat.le_refl _) with h0 | ⟨b, off, rfl, hbl, hc⟩
      · simp [h0] at hlt
      clear h
      cases k with
      | zero =>
        have hg' : Hid (∀ (i : Nat) (h : i + 1 < l.length), i + 1 < 1 → slt l[i].key l[i + 1].key = true) := fun i _ h => by omega
        have h00 : decide ((0 : Int) < ((0 : Nat) : Int)) = false := by simp
        clear hc
        go_wp2
        go_quiet (fail)
        go_wp2
        exact ⟨⟨1, by omega, by go_num, hg', bl_drewN hb _⟩, by show l.length - 1 < l.length - 0; omega⟩
      | succ k =>
        have c0 : wr.cell? ⟨b, off + k * 2, none⟩ = some (.string l[k].key) := hc k l[k] (List.getElem?_eq_getElem (by omega)) 0 _ rfl
        have c1 : wr.cell? ⟨b, off + (k + 1) * 2, none⟩ = some (.string l[k + 1].key) := hc (k + 1) l[k + 1] (by simp) 0 _ rfl
        clear hc
        by_cases hq : slt l[k].key l[k + 1].key = true
        · have hq' : Op.bytesLess l[k].key.toList l[k + 1].key.toList = true := hq
          have hg' : Hid (∀ (i : Nat) (h : i + 1 < l.length), i + 1 < k + 1 + 1 → slt l[i].key l[i + 1].key = true) := fun i hi h => by
            by_cases e : i = k
            · subst e; exact hq
            · exact hg.out i hi (by omega)
          go_wp2
          go_quiet (fail)
          go_wp2
          exact ⟨⟨k + 1 + 1, by omega, by go_num, hg', bl_drewN hb _⟩, by simp [intOf]; omega⟩
        · have hq' : Op.bytesLess l[k].key.toList l[k + 1].key.toList = false := by unfold slt at hq; simpa using hq
          have hv : Hid (rises l = false) := by
            show _ = _
            rw [Bool.eq_false_iff]
            intro e
            exact hq ((rises_iff l).1 e k hlt)
          go_wp2
          go_quiet (fail)
          go_wp2
          go_ret
          exact ⟨by rw [hv.out]; rfl, bl_drewN hb _⟩
    · have hv : Hid (rises l = true) := by show _ = _; rw [rises_iff]; intro i hi; exact hg.out i hi (by omega)
      go_wp2
      go_ret
      exact ⟨by rw [hv.out]; rfl, hb⟩

theorem Right_calls (w : World) (A : Option Addr) (c : Nat) (l : List Entry) (hm : l.length ≤ 9223372036854775807) (hcap : l.length ≤ c) (hs : ∀ x ∈ l, x.key.size ≤ 9223372036854775807 ∧ x.val.size ≤ 9223372036854775807) (h : Rd Entry.enc 2 w A l) :
    Calls Try.prog 42 #[.slice A l.length c] w fun e w' => e = .returned (.int .i64 (right l)) ∧ Below w.heap.size w w' := by
  have hs' := Lib.hid hs
  clear hs
  have h' := Lib.hid h
  go_enter Try.func42, Try.ntmps42
  go_wp2
  go_loopw [9] (fun i wr => ∃ k : Nat, k ≤ l.length ∧ i = .int .i64 k ∧ Hid (textErr l = textErr (l.drop k)) ∧ Below w.heap.size w wr) (fun i _ => l.length - (intOf i).toNat)
  case atStart => exact ⟨0, Nat.zero_le _, rfl, rfl, Below.refl _ _⟩
  case round =>
    obtain ⟨k, hk, rfl, hg, hb⟩ := hrel
    by_cases hlt : k < l.length
    · rcases h.below hb (Nat.le_refl _) with h0 | ⟨b, off, rfl, hbl, hc⟩
      · simp [h0] at hlt
      have c0 : wr.cell? ⟨b, off + k * 2, none⟩ = some (.string l[k].key) := hc k l[k] (by simp [hlt]) 0 _ rfl
      have c1 : wr.cell? ⟨b, off + k * 2 + 1, none⟩ = some (.string l[k].val) := hc k l[k] (by simp [hlt]) 1 _ rfl
      have hd : l.drop k = l[k] :: l.drop (k + 1) := by simp
      obtain ⟨s0, s1⟩ := hs'.out l[k] (List.getElem_mem _)
      clear hc h
      by_cases h1 : keyErr l[k].key = 0
      · by_cases h2 : valErr l[k].val = 0
        · have hg' : Hid (textErr l = textErr (l.drop (k + 1))) := by show _ = _; rw [hg.out, hd]; simp [textErr, h1, h2]
          have H1 := Lib.hid h1
          have H2 := Lib.hid h2
          clear hd h1 h2
          go_wp2_with fail
          refine (refKey_calls _ _ s0).mono ?_
          rintro e w1 ⟨rfl, rfl⟩
          rw [H1.out]
          go_wp2_with fail
          refine (refVal_calls _ _ s1).mono ?_
          rintro e w1 ⟨rfl, rfl⟩
          rw [H2.out]
          go_wp2
          exact ⟨⟨k + 1, by omega, by go_num, hg', bl_alloc hb _⟩, by simp [intOf]; omega⟩
        · have h2' := (valErr_or l[k].val).resolve_left h2
          have hv : Hid (right l = 101) := by
            have : textErr l = 101 := by rw [hg.out, hd]; simp [textErr, h1, h2']
            show _ = _; simp [right, this]
          have H1 := Lib.hid h1
          have H2 := Lib.hid h2'
          clear hd h1 h2 h2'
          go_wp2_with fail
          refine (refKey_calls _ _ s0).mono ?_
          rintro e w1 ⟨rfl, rfl⟩
          rw [H1.out]
          go_wp2_with fail
          refine (refVal_calls _ _ s1).mono ?_
          rintro e w1 ⟨rfl, rfl⟩
          rw [H2.out]
          go_wp2
          go_ret
          exact ⟨by rw [hv.out]; rfl, bl_alloc hb _⟩
      · have h1' := (keyErr_or l[k].key).resolve_left h1
        have hv : Hid (right l = 100) := by
          have : textErr l = 100 := by rw [hg.out, hd]; simp [textErr, h1']
          show _ = _; simp [right, this]
        have H1 := Lib.hid h1'
        clear hd h1 h1'
        go_wp2_with fail
        refine (refKey_calls _ _ s0).mono ?_
        rintro e w1 ⟨rfl, rfl⟩
        rw [H1.out]
        go_wp2
        go_ret
        exact ⟨by rw [hv.out]; rfl, bl_alloc hb _⟩
    · have ht : Hid (textErr l = 0) := by show _ = _; rw [hg.out, List.drop_of_length_le (by omega)]; rfl
      have h2 := h'.out.below hb (Nat.le_refl _)
      have H2 := Lib.hid h2
      clear h h2
      cases hr : rises l with
      | true =>
        have hv : Hid (right l = 0) := by show _ = _; simp [right, ht.out, hr]
        have HR := Lib.hid hr
        clear hr
        go_wp2_with fail
        refine (Rises_calls _ _ _ l hm hcap H2.out).mono ?_
        rintro e w1 ⟨rfl, hb1⟩
        rw [HR.out]
        go_wp2
        go_ret
        exact ⟨by rw [hv.out]; rfl, bl_then hb hb.size hb1⟩
      | false =>
        have hv : Hid (right l = 90) := by show _ = _; simp [right, ht.out, hr]
        have HR := Lib.hid hr
        clear hr
        go_wp2_with fail
        refine (Rises_calls _ _ _ l hm hcap H2.out).mono ?_
        rintro e w1 ⟨rfl, hb1⟩
        rw [HR.out]
        go_wp2
        go_ret
        exact ⟨by rw [hv.out]; rfl, bl_then hb hb.size hb1⟩

theorem Map_calls (w : World) (A : Option Addr) (c : Nat) (l : List Entry) (hm : l.length ≤ 9223372036854775807) (hcap : l.length ≤ c) (hs : ∀ x ∈ l, x.key.size ≤ 9223372036854775807 ∧ x.val.size ≤ 9223372036854775807) (h : Rd Entry.enc 2 w A l) :
    Calls Try.prog 15 #[.slice A l.length c] w fun e w' => e = .returned (.bool (isMap l)) ∧ Below w.heap.size w w' := by
  have hs' := Lib.hid hs
  have h' := Lib.hid h
  clear hs h
  cases hl : light l with
  | false =>
    have hv : Hid (isMap l = false) := by show _ = _; simp [isMap, hl]
    have HL := Lib.hid hl
    clear hl
    go_enter Try.func15, Try.ntmps15
    go_wp2_with fail
    refine (Light_calls _ _ _ l hm hs'.out h'.out).mono ?_
    rintro e w1 ⟨rfl, hb1⟩
    rw [HL.out]
    go_wp2
    go_ret
    exact ⟨by rw [hv.out]; rfl, hb1⟩
  | true =>
    have hv : Hid (isMap l = decide (right l = 0)) := by show _ = _; simp [isMap, hl]
    have HL := Lib.hid hl
    clear hl
    go_enter Try.func15, Try.ntmps15
    go_wp2_with fail
    refine (Light_calls _ _ _ l hm hs'.out h'.out).mono ?_
    rintro e w1 ⟨rfl, hb1⟩
    rw [HL.out]
    go_wp2_with fail
    refine (Right_calls _ _ _ l hm hcap hs'.out (h'.out.below hb1 (Nat.le_refl _))).mono ?_
    rintro e w2 ⟨rfl, hb2⟩
    go_wp2
    go_ret
    exact ⟨by rw [hv.out]; exact ret_bool (by simp [BEq.beq]), bl_then hb1 hb1.size hb2⟩
end Go.Proofs.Ytofdmkglhjpbcaa
