/- ref04.Free: Spans. -/
import Derived.Test.YtglpckdmiohciaaExtV
namespace Go.Proofs.Ytglpckdmiohciaa
open Go.RowKit
set_option linter.unusedVariables false
set_option linter.unusedSimpArgs false

def RSpansR (w w' : World) (L : List Bool) (e : Ending) : Prop := ∃ xs v, e = .returned v ∧ Own Span.enc 2 90 w.heap.size w' v xs ∧ Below w.heap.size w w' ∧ SpR L L.length xs
theorem SpR.len {L : List Bool} {k : Nat} {xs : List Span} (h : SpR L k xs) : xs.length ≤ k := by
  by_cases e : xs = []
  · simp [e]
  · have := h.1.len e
    omega
section
variable {w : World} {g : Nat} {G : Nat → Prop} {X : Rf}
/-- The last row's cells. -/
theorem own_last {base : Nat} {W : World} {v : Value} {xs : List Span} {y : Span} (ho : Own Span.enc 2 90 base W v xs) (hy : xs.getLast? = some y) : ∃ b c, v = .slice (some ⟨b, 0, none⟩) xs.length c ∧ base ≤ b ∧ b < W.heap.size ∧ 0 < xs.length ∧ xs.length ≤ c ∧ c ≤ 9223372036854775807 ∧ W.cell? ⟨b, (xs.length - 1) * 2 + 1, none⟩ = some (.int .i64 y.pages) ∧ ∀ j, W.frozen? ⟨b, j, none⟩ = false := by
  have h0 : 0 < xs.length := by cases xs with | nil => cases hy | cons a l => simp
  obtain ⟨y', e1, e2⟩ := last_at h0
  rw [hy] at e1
  cases e1
  obtain ⟨A, c, rfl, h1, h2, h3, -⟩ := ho.rd Span.ok
  rcases ho.2 with ⟨e0, _⟩ | ⟨b, cap, cur, e0, hbb, hh, _⟩
  · injection e0 with e1 e2 e3; omega
  · injection e0 with e1 _ e3
    subst e1
    have := (Rd.span h3 e2).2
    rw [Nat.zero_add] at this
    exact ⟨b, c, rfl, hbb, blk_lt hh, h0, h1, h2, this, fun j => blk_free hh j⟩
set_option maxRecDepth 100000 in
set_option maxHeartbeats 8000000 in
theorem rspans_calls (h : RfAt w g G X) : Calls Try.prog 67 #[.pointer (some ⟨g, 0, none⟩)] w fun e w' => RSpansR w w' X.L e := by
  have hlen := h.okX.len
  have hgl := h.glt
  obtain ⟨A, c, -, c1, -, -, hr, hc, -, -⟩ := h.cells
  have hC : Hid (∀ W, Below w.heap.size w W → W.cell? ⟨g, 1, none⟩ = some (.slice A X.L.length c) ∧ Rd bEnc 1 W A X.L) := fun W hW => ⟨(hW.cell (by exact hgl)).trans c1, hr.below hW (Nat.le_refl _)⟩
  have t1 : Hid ((Value.agg #[.int .i64 0, .int .i64 0]).cells.size = 2) := rfl
  have c1' := c1
  generalize X.L = L at *
  clear h c1 hr
  go_enter Try.func67, Try.ntmps67
  go_wp2
  go_loopg [3, 11] L.length (fun m s3 i wr => ∃ (k : Nat) (v : Value) (W : World) (xs : List Span), i = .int .i64 k ∧ v = s3 ∧ W = wr ∧ k + m = L.length ∧ Hid (Own Span.enc 2 90 w.heap.size W v xs) ∧ Hid (Below w.heap.size w W) ∧ Hid (SpR L k xs))
  case atStart => exact ⟨0, _, _, [], rfl, rfl, rfl, by omega, Own.nil, Below.refl _ _, spR_zero L⟩
  case round =>
    obtain ⟨k, v3, wo, xs, rfl, rfl, rfl, hk, hO, hB, hS⟩ := hrel
    rcases Nat.lt_or_ge k L.length with hlt | hge
    · obtain ⟨d1, dr⟩ := hC.out wo hB.out
      have hx : L[k]? = some L[k] := List.getElem?_eq_getElem hlt
      obtain ⟨b, off, rfl⟩ : ∃ b off, A = some ⟨b, off, none⟩ := by
        rcases dr with h0 | ⟨b, off, e, _⟩
        · rw [h0] at hlt; simp at hlt
        · exact ⟨b, off, e⟩
      have d2 := Rd.bool dr hx
      have i0 : (0 : Int) ≤ (k : Int) := by omega
      have i1 : (k : Int) < (L.length : Int) := by omega
      rcases hv : L[k] with _ | _
      · rw [hv] at d2 hx
        have hS' := Lib.hid (spR_no hS.out hx)
        clear hx dr
        go_wp2
        go_roundg (gk - 1)
        case measure => omega
        case rel => exact ⟨k + 1, _, _, xs, by go_num, rfl, rfl, by omega, hO.out, hB.out, hS'.out⟩
      · rw [hv] at d2 hx
        have hS' := Lib.hid (spR_join hS.out hx)
        have hxl := hS.out.len
        have hcond : (k = 0 ∨ L[k - 1]? = some false) ∨ (0 < k ∧ L[k - 1]? = some true) := by
          rcases Nat.eq_zero_or_pos k with e | e
          · exact .inl (.inl e)
          · have hx2 : L[k - 1]? = some L[k - 1] := List.getElem?_eq_getElem (by omega)
            rcases hv2 : L[k - 1] with _ | _
            · rw [hv2] at hx2; exact .inl (.inr hx2)
            · rw [hv2] at hx2; exact .inr ⟨e, hx2⟩
        rcases hcond with hcond | ⟨hp, hcond⟩
        · have hj : Hid (joinR xs ⟨(k : Int), 1⟩ = xs ++ [⟨(k : Int), 1⟩]) := joinR_snoc (spR_nolast hS.out hcond)
          have nn : Hid ([(⟨(k : Int), 1⟩ : Span)] ≠ []) := by show _ ≠ _; simp
          have q1 : Hid (xs.length + 1 ≤ 140737488355328) := by show _ ≤ _; omega
          have q2 : Hid ((xs.length + 1) * 16 ≤ 140737488355328) := by show _ ≤ _; omega
          have hz : Hid (w.heap.size ≤ (wo.alloc (.cells #[.int .i64 k, .int .i64 1] 90)).heap.size) := by have := hB.out.size; show _ ≤ _; simp; omega
          have hOa : Hid (Own Span.enc 2 90 w.heap.size (wo.alloc (.cells #[.int .i64 k, .int .i64 1] 90)) v3 xs) := hO.out.alloc _
          have hBa : Hid (Below w.heap.size w (wo.alloc (.cells #[.int .i64 k, .int .i64 1] 90))) := hB.out.alloc hB.out.size _
          rw [hj.out] at hS'
          rcases Nat.eq_zero_or_pos k with hk0 | hk0
          case' inl =>
            have g1 : decide ((0 : Int) < (k : Int)) = false := by simp; omega
            have g2 : decide (0 < k) = false := by simp; omega
            clear hk0
          case' inr =>
            have hcf := hcond.resolve_left (by omega)
            have d3 := Rd.bool dr hcf
            have g1 : (0 : Int) < (k : Int) := by omega
            have g3 : wrap64 ((k : Int) - 1) = (k : Int) - 1 := wrap64I (by omega)
            have g4 : ((k : Int) - 1).toNat = k - 1 := by omega
            have g5 : (1 : Int) ≤ (k : Int) := by omega
            have g6 : (k : Int) - 1 < (L.length : Int) := by omega
            have g7 : (0 : Int) ≤ (k : Int) - 1 := by omega
            clear hcf hk0
          all_goals
            clear hx dr hcond
            go_wp2_with (at_builtin; refine at_list rfl (fun K hK => op_ownN Span.ok _ _ _ _ _ _ rfl Try.underlying85 infoSpan t1.out w.heap.size v3 xs (some ⟨wo.heap.size, 0, none⟩) 1 [⟨(k : Int), 1⟩] 1 rfl nn.out rfl rfl hOa.out (Rd.lit (blk_new wo _) rfl) hz.out q2.out q1.out (fun g7 cap w7 ho7 hg7 hat7 hlt7 => hK _ _ ?_)))
            have hB7 : Hid (Below w.heap.size w w7) := hBa.out.grown hg7 hz.out (fun j e => (hOa.out.lt j e).1)
            have hO7 := Lib.hid ho7
            clear ho7 hg7 hat7
            go_wp2
            go_roundg (gk - 1)
            case measure => omega
            case rel => exact ⟨k + 1, _, _, xs ++ [(⟨(k : Int), 1⟩ : Span)], by go_num, rfl, rfl, by omega, hO7.out, hB7.out, hS'.out⟩
        · obtain ⟨y, hy, hye⟩ := spR_last hS.out hp hcond
          have hj : Hid (joinR xs ⟨(k : Int), 1⟩ = lastPages xs (y.pages + 1)) := joinR_last hy hye
          have d3 := Rd.bool dr hcond
          obtain ⟨b3, c3, rfl, hb3, hl3, hx0, hc3, hm3, e1, e2⟩ := own_last hO.out hy
          have hyn := hS.out.1.mem y (List.mem_of_getLast? hy)
          have hO7 := Lib.hid (hO.out.lastPages hx0 (y.pages + 1))
          have hB7 : Hid (Below w.heap.size w (wo.setCell ⟨b3, (xs.length - 1) * 2 + 1, none⟩ (.int .i64 (y.pages + 1)))) := hB.out.setCell hb3 _
          have hll : Hid ((lastPages xs (y.pages + 1)).length = xs.length) := lastPages_len _
          rw [hj.out] at hS'
          have e3 := e2 ((xs.length - 1) * 2 + 1)
          have g1 : (0 : Int) < (k : Int) := by omega
          have g3 : wrap64 ((k : Int) - 1) = (k : Int) - 1 := wrap64I (by omega)
          have g4 : ((k : Int) - 1).toNat = k - 1 := by omega
          have g5 : (1 : Int) ≤ (k : Int) := by omega
          have g6 : (k : Int) - 1 < (L.length : Int) := by omega
          have g7 : (0 : Int) ≤ (k : Int) - 1 := by omega
          have h3 : wrap64 ((xs.length : Int) - 1) = (xs.length : Int) - 1 := wrap64I (by omega)
          have h4 : ((xs.length : Int) - 1).toNat = xs.length - 1 := by omega
          have h5 : (1 : Int) ≤ (xs.length : Int) := by omega
          have h6 : (xs.length : Int) - 1 < (xs.length : Int) := by omega
          have h7 : (0 : Int) ≤ (xs.length : Int) - 1 := by omega
          have h8 : xs.length - 1 < xs.length := by omega
          have h9 : wrap64 (y.pages + 1) = y.pages + 1 := wrap64I (by omega)
          clear hx dr hcond hy hye e2
          go_wp2
          go_roundg (gk - 1)
          case measure => omega
          case rel => exact ⟨k + 1, _, _, lastPages xs (y.pages + 1), by go_num, rfl, rfl, by omega, hO7.out, hB7.out, hS'.out⟩
    · have hke : k = L.length := by omega
      have hS' : Hid (SpR L L.length xs) := by have := hS.out; rwa [hke] at this
      have i1 : ¬ (k : Int) < (L.length : Int) := by omega
      go_wp2
      go_ret
      exact ⟨xs, _, rfl, hO.out, hB.out, hS'.out⟩
end
end Go.Proofs.Ytglpckdmiohciaa
