/- node.Key, node.Val, patch.text, ref27.side, law28.Light -/
import Derived.Test.YtofdmkglhjpbcaaPatchP
import Derived.Test.YtofdmkglhjpbcaaMapA
namespace Go.Proofs.Ytofdmkglhjpbcaa
open Go.RowKit
set_option linter.unusedVariables false
set_option linter.unusedSimpArgs false

theorem nodeKey_calls (w : World) (k : Str) (hk : k.size ≤ 9223372036854775807) :
    Calls Try.prog 71 #[.string k] w fun e w' => e = .returned (.int .i64 (keyErr k)) ∧ w = w' := by
  by_cases h1 : k.size < 1
  · have hv : Hid (keyErr k = 100) := by show _ = _; simp [keyErr, h1]
    go_enter Try.func71, Try.ntmps71
    go_wp2
    go_ret
    exact ⟨by rw [hv.out]; rfl, rfl⟩
  · by_cases h2 : 40 < k.size
    · have hv : Hid (keyErr k = 100) := by show _ = _; simp [keyErr, h2]
      go_enter Try.func71, Try.ntmps71
      go_wp2
      go_ret
      exact ⟨by rw [hv.out]; rfl, rfl⟩
    · have hv : Hid (keyErr k = 0) := by show _ = _; simp [keyErr, h1, h2]
      go_enter Try.func71, Try.ntmps71
      go_wp2
      go_ret
      exact ⟨by rw [hv.out]; rfl, rfl⟩
theorem nodeVal_calls (w : World) (k : Str) (hk : k.size ≤ 9223372036854775807) :
    Calls Try.prog 95 #[.string k] w fun e w' => e = .returned (.int .i64 (valErr k)) ∧ w = w' := by
  by_cases h2 : 200 < k.size
  · have hv : Hid (valErr k = 101) := by show _ = _; simp [valErr, h2]
    go_enter Try.func95, Try.ntmps95
    go_wp2
    go_ret
    exact ⟨by rw [hv.out]; rfl, rfl⟩
  · have hv : Hid (valErr k = 0) := by show _ = _; simp [valErr, h2]
    go_enter Try.func95, Try.ntmps95
    go_wp2
    go_ret
    exact ⟨by rw [hv.out]; rfl, rfl⟩
theorem text_calls (w : World) (has : Bool) (v : Str) (hv : v.size ≤ 9223372036854775807) :
    Calls Try.prog 72 #[.bool has, .string v] w fun e w' => e = .returned (.int .i64 (textE has v)) ∧ w = w' := by
  have hc := Lib.hid (fun W => nodeVal_calls W v hv)
  cases has with
  | true =>
    have hv : Hid (textE true v = valErr v) := by show _ = _; simp [textE]
    go_enter Try.func72, Try.ntmps72
    go_wp2_with fail
    refine (hc.out _).mono ?_
    rintro e w1 ⟨rfl, rfl⟩
    go_wp2
    go_ret
    exact ⟨by rw [hv.out]; rfl, rfl⟩
  | false =>
    by_cases he : v = emptyS
    · subst he
      have hv : Hid (textE false emptyS = valErr emptyS) := by show _ = _; simp [textE]
      have q : (emptyS.toList == ([] : List UInt8)) = true := by decide +kernel
      go_enter Try.func72, Try.ntmps72
      generalize emptyS = em at *
      go_wp2_with fail
      refine (hc.out _).mono ?_
      rintro e w1 ⟨rfl, rfl⟩
      go_wp2
      go_ret
      exact ⟨by rw [hv.out]; rfl, rfl⟩
    · have hv : Hid (textE false v = 101) := by show _ = _; simp [textE, he]
      have q : (v.toList == ([] : List UInt8)) = false := by
        have := toList_beq v emptyS
        rw [decide_eq_false he, show emptyS.toList = [] from by decide +kernel] at this
        exact this
      clear he
      go_enter Try.func72, Try.ntmps72
      go_wp2
      go_ret
      exact ⟨by rw [hv.out]; rfl, rfl⟩
theorem rside_calls (w : World) (has : Bool) (v : Str) (hv : v.size ≤ 9223372036854775807) :
    Calls Try.prog 74 #[.bool has, .string v] w fun e w' => e = .returned (.int .i64 (textE has v)) ∧ w = w' := by
  have hc := Lib.hid (fun W => refVal_calls W v hv)
  cases has with
  | true =>
    have hv : Hid (textE true v = valErr v) := by show _ = _; simp [textE]
    go_enter Try.func74, Try.ntmps74
    go_wp2_with fail
    refine (hc.out _).mono ?_
    rintro e w1 ⟨rfl, rfl⟩
    go_wp2
    go_ret
    exact ⟨by rw [hv.out]; rfl, rfl⟩
  | false =>
    by_cases he : v = emptyS
    · subst he
      have hv : Hid (textE false emptyS = valErr emptyS) := by show _ = _; simp [textE]
      have q : (emptyS.toList == ([] : List UInt8)) = true := by decide +kernel
      go_enter Try.func74, Try.ntmps74
      generalize emptyS = em at *
      go_wp2_with fail
      refine (hc.out _).mono ?_
      rintro e w1 ⟨rfl, rfl⟩
      go_wp2
      go_ret
      exact ⟨by rw [hv.out]; rfl, rfl⟩
    · have hv : Hid (textE false v = 101) := by show _ = _; simp [textE, he]
      have q : (v.toList == ([] : List UInt8)) = false := by
        have := toList_beq v emptyS
        rw [decide_eq_false he, show emptyS.toList = [] from by decide +kernel] at this
        exact this
      clear he
      go_enter Try.func74, Try.ntmps74
      go_wp2
      go_ret
      exact ⟨by rw [hv.out]; rfl, rfl⟩

theorem lightCs_calls (w : World) (A : Option Addr) (c : Nat) (l : List Change) (hm : l.length ≤ 9223372036854775807) (hs : ∀ x ∈ l, x.key.size ≤ 9223372036854775807 ∧ x.was.size ≤ 9223372036854775807 ∧ x.now.size ≤ 9223372036854775807) (h : Rd Change.enc 5 w A l) :
    Calls Try.prog 30 #[.slice A l.length c] w fun e w' => e = .returned (.bool (lightCs l)) ∧ Below w.heap.size w w' := by
  have hs' := Lib.hid hs
  clear hs
  go_enter Try.func30, Try.ntmps30
  go_wp2
  go_loopw [7] (fun i wr => ∃ k : Nat, k ≤ l.length ∧ i = .int .i64 k ∧ Hid (lightCs l = ((l.drop k).all lightC && decide (l.length ≤ 40))) ∧ Below w.heap.size w wr) (fun i _ => l.length - (intOf i).toNat)
  case atStart => exact ⟨0, Nat.zero_le _, rfl, rfl, Below.refl _ _⟩
  case round =>
    obtain ⟨k, hk, rfl, hg, hb⟩ := hrel
    by_cases hlt : k < l.length
    · rcases h.below hb (Nat.le_refl _) with h0 | ⟨b, off, rfl, hbl, hc⟩
      · simp [h0] at hlt
      have c0 : wr.cell? ⟨b, off + k * 5, none⟩ = some (.string l[k].key) := hc k l[k] (by simp [hlt]) 0 _ rfl
      have c1 : wr.cell? ⟨b, off + k * 5 + 1, none⟩ = some (.bool l[k].had) := hc k l[k] (by simp [hlt]) 1 _ rfl
      have c2 : wr.cell? ⟨b, off + k * 5 + 2, none⟩ = some (.string l[k].was) := hc k l[k] (by simp [hlt]) 2 _ rfl
      have c3 : wr.cell? ⟨b, off + k * 5 + 3, none⟩ = some (.bool l[k].has) := hc k l[k] (by simp [hlt]) 3 _ rfl
      have c4 : wr.cell? ⟨b, off + k * 5 + 4, none⟩ = some (.string l[k].now) := hc k l[k] (by simp [hlt]) 4 _ rfl
      have hd : l.drop k = l[k] :: l.drop (k + 1) := by simp
      obtain ⟨s0, s1, s2⟩ := hs'.out l[k] (List.getElem_mem _)
      clear hc h
      by_cases h1 : 60 < l[k].key.size
      · have hv : Hid (lightCs l = false) := by show _ = _; rw [hg.out, hd, List.all_cons, show lightC l[k] = false from by simp [lightC]; omega]; simp
        clear hd
        go_wp2
        go_ret
        exact ⟨by rw [hv.out]; rfl, bl_alloc hb _⟩
      · by_cases h2 : 250 < l[k].was.size
        · have hv : Hid (lightCs l = false) := by show _ = _; rw [hg.out, hd, List.all_cons, show lightC l[k] = false from by simp [lightC]; omega]; simp
          clear hd
          go_wp2
          go_ret
          exact ⟨by rw [hv.out]; rfl, bl_alloc hb _⟩
        · by_cases h3 : 250 < l[k].now.size
          · have hv : Hid (lightCs l = false) := by show _ = _; rw [hg.out, hd, List.all_cons, show lightC l[k] = false from by simp [lightC]; omega]; simp
            clear hd
            go_wp2
            go_ret
            exact ⟨by rw [hv.out]; rfl, bl_alloc hb _⟩
          · have hg' : Hid (lightCs l = ((l.drop (k + 1)).all lightC && decide (l.length ≤ 40))) := by show _ = _; rw [hg.out, hd, List.all_cons, show lightC l[k] = true from by simp [lightC]; omega]; simp
            clear hd
            go_wp2
            exact ⟨⟨k + 1, by omega, by go_num, hg', bl_alloc hb _⟩, by simp [intOf]; omega⟩
    · have hv : Hid (lightCs l = decide (l.length ≤ 40)) := by show _ = _; rw [hg.out, List.drop_of_length_le (by omega)]; simp
      go_wp2
      go_ret
      exact ⟨by rw [hv.out]; exact ret_bool (decide_eq_decide.2 (by omega)), hb⟩
end Go.Proofs.Ytofdmkglhjpbcaa
