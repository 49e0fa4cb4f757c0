/- The library's Grow, Clone, Concat at rows of spans. -/
import Derived.Test.YtglpckdmiohciaaExt3
import Derived.Lib.AppendZeros
namespace Go.Proofs.Ytglpckdmiohciaa
open Go.RowKit
set_option linter.unusedVariables false
set_option linter.unusedSimpArgs false

theorem infoSpan : (Try.prog.info? 90).map (fun i => (i.zero, i.size, i.bytes)) = some (some (.agg #[.int .i64 0, .int .i64 0]), 2, 16) := by kernel_rfl
/-- Grow of the nil slice. -/
def GrowR (w w' : World) (e : Ending) : Prop := ∃ v, e = .returned v ∧ Own Span.enc 2 90 w.heap.size w' v [] ∧ Below w.heap.size w w'
set_option maxRecDepth 100000 in
set_option maxHeartbeats 4000000 in
theorem growSpan_calls (w : World) (n : Nat) (hn : n ≤ 1000000000) : Calls Try.prog 120 #[.slice none 0 0, .int .i64 n] w fun e w' => GrowR w w' e := by
  obtain ⟨i0, hi, hz0, hz1, hz2⟩ := info_parts infoSpan
  have h0 : (0 : Int) ≤ (n : Int) := by omega
  rcases Nat.eq_zero_or_pos n with rfl | hp
  · go_enter Try.func120, Try.ntmps120
    go_wp2
    go_ret
    exact ⟨_, rfl, Own.nil, Below.refl _ _⟩
  · have hr := fun ty => Lib.run_append_nil_zeros (P := Try.prog) w 85 3 ty 90 i0 _ .i64 .i64 Try.underlying85 Try.underlying3 hi hz0 n hp (by rw [hz1]; omega) (by omega) (by rw [hz2]; omega)
    have hge := grownCap_ge w n 0 90
    have hcm := grownCap_le_maxLen w n 0 90 (by simp only [maxLen]; omega)
    obtain ⟨G, hG⟩ : ∃ G, G = grownCap w n 0 90 := ⟨_, rfl⟩
    rw [← hG] at hr hge hcm
    unfold maxLen at hcm
    have HG := Lib.hid (show G ≤ 9223372036854775807 from hcm)
    clear hG hi hz0 hz1 hz2
    have hpi : (0 : Int) < (n : Int) := by omega
    have hb : Hid (Below w.heap.size w (w.drew.alloc (.cells (Builtin.zeroCells (Value.agg #[.int .i64 0, .int .i64 0]).cells n ++ Builtin.zeroCells (Value.agg #[.int .i64 0, .int .i64 0]).cells (G - n)) 90))) := ((Below.refl _ w).drew).alloc (Nat.le_refl _) _
    have ho : Hid (Own Span.enc 2 90 w.heap.size (w.drew.alloc (.cells (Builtin.zeroCells (Value.agg #[.int .i64 0, .int .i64 0]).cells n ++ Builtin.zeroCells (Value.agg #[.int .i64 0, .int .i64 0]).cells (G - n)) 90)) (.slice (some ⟨w.heap.size, 0, none⟩) 0 G) []) := by
      refine World.ownsRow_made w.drew _ G (Nat.le_refl _) HG.out ?_
      rw [Array.size_append, size_zeroCells, size_zeroCells]
      have : (Value.agg #[.int .i64 0, .int .i64 0]).cells.size = 2 := rfl
      rw [this]
      omega
    go_enter Try.func120, Try.ntmps120
    go_wp2_with (at_builtin; refine Lib.wpList_append_run _ rfl _ _ _ _ rfl _ _ rfl rfl _ _ (hr _) ?_)
    go_ret
    exact ⟨_, rfl, ho.out, hb.out⟩
set_option maxRecDepth 100000 in
set_option maxHeartbeats 4000000 in
theorem cloneSpan_calls (w : World) (A : Option Addr) (c : Nat) (xs : List Span) (h : Rd Span.enc 2 w A xs) (hl : xs.length ≤ 1000000000) :
    Calls Try.prog 103 #[.slice A xs.length c] w fun e w' => ∃ A' c', e = .returned (.slice A' xs.length c') ∧ Own Span.enc 2 90 w.heap.size w' (.slice A' xs.length c') xs ∧ Below w.heap.size w w' := by
  have q24 : ∀ (w : World) (a : Option Addr) (n c n' c' : Nat), (binOp .eql 85 (.slice a n c) (.slice none n' c')).run Try.prog w = .ok (.bool a.isNone) w := fun w a n c n' c' => Lib.run_eql_slice_nil w _ _ a n c n' c' Try.underlying85
  have HR := Lib.hid h
  clear h
  go_enter Try.func103, Try.ntmps103
  rcases A with _ | a
  · have hx : xs = [] := by
      rcases HR.out with e | ⟨b, off, e, _⟩
      · exact e
      · cases e
    subst hx
    go_wp2
    go_ret
    exact ⟨none, 0, rfl, Own.nil, Below.refl _ _⟩
  · have HO : Hid (Own Span.enc 2 90 w.heap.size (w.alloc (.cells #[] 90)) (.slice (some ⟨w.heap.size, 0, none⟩) 0 0) []) := World.ownsRow_made w #[] 0 (Nat.le_refl _) (Nat.zero_le _) rfl
    have hb1 : Hid (Below w.heap.size w (w.alloc (.cells #[] 90))) := bl_alloc (Below.refl _ w) _
    have HS : Hid (Src Try.prog 2 85 (.slice (some a) xs.length c) xs.length (xs.flatMap Span.enc) (w.alloc (.cells #[] 90))) := Rd.src Span.ok Try.underlying85 c (HR.out.below hb1.out (Nat.le_refl _))
    have hz : Hid (w.heap.size ≤ (w.alloc (.cells #[] 90)).heap.size) := by show _ ≤ _; simp
    have l1 : Hid ((([] : List Span).length + xs.length) * 16 ≤ 140737488355328) := by show _ ≤ _; simp; omega
    have l2 : Hid (([] : List Span).length + xs.length ≤ 140737488355328) := by show _ ≤ _; simp; omega
    have t1 : Hid ((Value.agg #[.int .i64 0, .int .i64 0]).cells.size = 2) := rfl
    go_wp2_with (at_builtin; refine at_list rfl (fun K hK => op_ownS Span.ok _ _ _ _ _ _ _ rfl Try.underlying85 infoSpan t1.out w.heap.size (.slice (some ⟨w.heap.size, 0, none⟩) 0 0) (.slice (some a) xs.length c) [] xs rfl rfl HO.out HS.out hz.out l1.out l2.out (fun v' w' ho hg => hK _ _ ?_)))
    go_ret
    obtain ⟨A', c', e', _⟩ := ho.rd Span.ok
    subst e'
    exact ⟨A', c', rfl, ho, hb1.out.grown hg hz.out (fun k e => by cases e; exact Nat.le_refl _)⟩
/-- Rows that are to be put one behind the other. -/
structure Piece where
  A : Option Addr
  c : Nat
  l : List Span
def Piece.v (p : Piece) : Value := .slice p.A p.l.length p.c
def allP (ps : List Piece) : List Span := ps.flatMap Piece.l
def sumP (ps : List Piece) : Nat := (allP ps).length
theorem sumP_take {ps : List Piece} {k : Nat} {p : Piece} (h : ps[k]? = some p) : allP (ps.take (k + 1)) = allP (ps.take k) ++ p.l := by
  unfold allP
  rw [List.take_add_one, h]
  simp
theorem sumP_le (ps : List Piece) (k : Nat) : sumP (ps.take k) ≤ sumP ps := by
  unfold sumP allP
  conv => rhs; rw [← List.take_append_drop k ps, List.flatMap_append, List.length_append]
  omega
def ConcatR (w w' : World) (xs : List Span) (e : Ending) : Prop := ∃ v, e = .returned v ∧ Own Span.enc 2 90 w.heap.size w' v xs ∧ Below w.heap.size w w'
set_option maxRecDepth 100000 in
set_option maxHeartbeats 8000000 in
theorem concat_calls (w : World) (b off C : Nat) (ps : List Piece) (hcell : ∀ (k : Nat) p, ps[k]? = some p → w.cell? ⟨b, off + k, none⟩ = some p.v) (hb : b < w.heap.size) (hr : ∀ p ∈ ps, Rd Span.enc 2 w p.A p.l) (hC : ps.length ≤ C) (hC2 : C ≤ 1000) (hs : sumP ps ≤ 1000000000) :
    Calls Try.prog 116 #[.slice (some ⟨b, off, none⟩) ps.length C] w fun e w' => ConcatR w w' (allP ps) e := by
  have HC := Lib.hid hcell
  have HR := Lib.hid hr
  have t1 : Hid ((Value.agg #[.int .i64 0, .int .i64 0]).cells.size = 2) := rfl
  clear hcell hr
  go_enter Try.func116, Try.ntmps116
  go_wp2
  go_loopg [3, 5, 11] ps.length (fun m sz s5 i wr => ∃ k : Nat, i = .int .i64 k ∧ sz = .int .i64 (sumP (ps.take k)) ∧ k + m = ps.length ∧ wr = w)
  case atStart => exact ⟨0, rfl, by simp [sumP, allP], by omega, rfl⟩
  case round =>
    obtain ⟨k, rfl, rfl, hk, rfl⟩ := hrel
    rcases Nat.lt_or_ge k ps.length with hlt | hge
    · have hx : ps[k]? = some ps[k] := List.getElem?_eq_getElem hlt
      have x0 := HC.out k _ hx
      unfold Piece.v at x0
      have hsum := sumP_take hx
      have hle := sumP_le ps (k + 1)
      have e1 : sumP (ps.take (k + 1)) = sumP (ps.take k) + (ps[k]).l.length := by unfold sumP; rw [hsum]; simp
      have HE := Lib.hid e1
      have h1 : sumP (ps.take k) + (ps[k]).l.length ≤ 1000000000 := by omega
      generalize ps[k] = p at *
      generalize sumP (ps.take k) = sk at *
      have i0 : (0 : Int) ≤ (k : Int) := by omega
      have i1 : (k : Int) < (ps.length : Int) := by omega
      clear hx hsum e1
      go_wp2
      go_roundg (gk - 1)
      case measure => omega
      case rel => exact ⟨k + 1, by go_num, by rw [HE.out]; go_num, by omega, rfl⟩
    · have hke : Hid (sumP (ps.take k) = sumP ps) := by show _ = _; rw [List.take_of_length_le (by omega)]
      rw [hke.out]
      go_wp2_with fail
      refine (growSpan_calls wr (sumP ps) hs).mono ?_
      rintro e w1 ⟨v1, rfl, ho1, hb1⟩
      have HO1 := Lib.hid ho1
      have HB1 := Lib.hid hb1
      clear ho1 hb1
      go_wp2
      go_loopg [6, 8, 27] ps.length (fun m v s8 i w2 => ∃ (k : Nat) (v6 : Value) (W2 : World), i = .int .i64 k ∧ v6 = v ∧ W2 = w2 ∧ k + m = ps.length ∧ Hid (Own Span.enc 2 90 wr.heap.size W2 v6 (allP (ps.take k))) ∧ Hid (Below wr.heap.size wr W2))
      case atStart => exact ⟨0, _, _, rfl, rfl, rfl, by omega, by simpa [allP] using HO1, HB1⟩
      case round =>
        obtain ⟨j, v6, w2, rfl, rfl, rfl, hj, ho, hb2⟩ := hrel
        rcases Nat.lt_or_ge j ps.length with hlt | hge
        · have hx : ps[j]? = some ps[j] := List.getElem?_eq_getElem hlt
          have x0 := (hb2.out.cell (by exact hb)).trans (HC.out j _ hx)
          unfold Piece.v at x0
          have HS := Lib.hid (Rd.src (P := Try.prog) Span.ok Try.underlying85 (ps[j]).c ((HR.out _ (List.getElem_mem hlt)).below hb2.out (Nat.le_refl _)))
          have hsum := sumP_take hx
          have hle := sumP_le ps (j + 1)
          have e1 : sumP (ps.take (j + 1)) = (allP (ps.take j)).length + (ps[j]).l.length := by unfold sumP; rw [hsum]; simp
          have HE := Lib.hid hsum
          have l1 : Hid (((allP (ps.take j)).length + (ps[j]).l.length) * 16 ≤ 140737488355328) := by show _ ≤ _; omega
          have l2 : Hid ((allP (ps.take j)).length + (ps[j]).l.length ≤ 140737488355328) := by show _ ≤ _; omega
          generalize ps[j] = p at *
          generalize allP (ps.take j) = xs at *
          have i0 : (0 : Int) ≤ (j : Int) := by omega
          have i1 : (j : Int) < (ps.length : Int) := by omega
          have hz : Hid (wr.heap.size ≤ w2.heap.size) := hb2.out.size
          clear hx hsum hle e1
          go_wp2_with (at_builtin; refine at_list rfl (fun K hK => op_ownS Span.ok _ _ _ _ _ _ _ rfl Try.underlying85 infoSpan t1.out wr.heap.size v6 (.slice p.A p.l.length p.c) xs p.l rfl rfl ho.out HS.out hz.out l1.out l2.out (fun v' w' ho' hg => hK _ _ ?_)))
          have HO' := Lib.hid ho'
          have HB' : Hid (Below wr.heap.size wr w') := hb2.out.grown hg hz.out (fun q e => (ho.out.lt q e).1)
          clear ho' hg
          go_wp2
          go_roundg (gk - 1)
          case measure => omega
          case rel => exact ⟨j + 1, _, _, by go_num, rfl, rfl, by omega, by rw [HE.out]; exact HO', HB'⟩
        · have hje : Hid (allP (ps.take j) = allP ps) := by show _ = _; rw [List.take_of_length_le (by omega)]
          rw [hje.out] at ho
          go_wp2
          go_ret
          exact ⟨_, rfl, ho.out, hb2.out⟩
end Go.Proofs.Ytglpckdmiohciaa
