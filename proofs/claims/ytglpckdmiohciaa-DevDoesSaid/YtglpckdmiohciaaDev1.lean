/- The device's small functions. -/
import Derived.Test.YtglpckdmiohciaaDev0
namespace Go.Proofs.Ytglpckdmiohciaa
open Go.RowKit
set_option linter.unusedVariables false
set_option linter.unusedSimpArgs false

section
variable {w : World} {g : Nat} {F : Nat → Prop} {D : Dv}
set_option maxRecDepth 100000 in
theorem ok_calls (h : DevAt w g F D) : Calls Try.prog 85 #[.pointer (some ⟨g, 0, none⟩)] w fun e w' => e = .returned (.bool true) ∧ w = w' := by
  obtain ⟨km, bm, A, c, c0, c1, c2, c3, c4, c5, c6, fz, hk, hm, ho, hr, hl⟩ := h.cells
  clear hk hm ho hr hl fz h
  have q : ∀ (w : World) (r : Option Nat), (binOp .neq 133 (.map r) (.map none)).run Try.prog w = .ok (.bool (!r.isNone)) w := fun w r => run_neq_map_nil w _ _ _ r Try.underlying133
  go_enter Try.func85, Try.ntmps85
  go_wp2
  go_ret
  exact ⟨rfl, rfl⟩
set_option maxRecDepth 100000 in
theorem ok_none (w : World) : Calls Try.prog 85 #[.pointer none] w fun e w' => e = .returned (.bool false) ∧ w = w' := by
  go_enter Try.func85, Try.ntmps85
  go_wp2
  go_ret
  exact ⟨rfl, rfl⟩
set_option maxRecDepth 100000 in
theorem dead_calls (h : DevAt w g F D) : Calls Try.prog 34 #[.pointer (some ⟨g, 0, none⟩)] w fun e w' => e = .returned (.bool D.dead) ∧ w = w' := by
  have hok := Lib.hid (ok_calls h)
  obtain ⟨km, bm, A, c, c0, c1, c2, c3, c4, c5, c6, fz, hk, hm, ho, hr, hl⟩ := h.cells
  clear hk hm ho hr hl fz h
  go_enter Try.func34, Try.ntmps34
  go_wp2_with fail
  refine hok.out.mono ?_
  rintro e w' ⟨rfl, rfl⟩
  go_wp2
  go_ret
  exact ⟨rfl, rfl⟩
set_option maxRecDepth 100000 in
theorem dead_none (w : World) : Calls Try.prog 34 #[.pointer none] w fun e w' => e = .returned (.bool false) ∧ w = w' := by
  go_enter Try.func34, Try.ntmps34
  go_wp2_with fail
  refine (ok_none w).mono ?_
  rintro e w' ⟨rfl, rfl⟩
  go_wp2
  go_ret
  exact ⟨rfl, rfl⟩
set_option maxRecDepth 100000 in
theorem cached_calls (h : DevAt w g F D) : Calls Try.prog 39 #[.pointer (some ⟨g, 0, none⟩)] w fun e w' => e = .returned (.int .i64 D.cache.length) ∧ w = w' := by
  have hok := Lib.hid (ok_calls h)
  obtain ⟨km, bm, A, c, c0, c1, c2, c3, c4, c5, c6, fz, hk, hm, ho, hr, hl⟩ := h.cells
  clear hk hm ho hr hl fz h
  go_enter Try.func39, Try.ntmps39
  go_wp2_with fail
  refine hok.out.mono ?_
  rintro e w' ⟨rfl, rfl⟩
  go_wp2
  go_ret
  exact ⟨rfl, rfl⟩
set_option maxRecDepth 100000 in
theorem cached_none (w : World) : Calls Try.prog 39 #[.pointer none] w fun e w' => e = .returned (.int .i64 0) ∧ w = w' := by
  go_enter Try.func39, Try.ntmps39
  go_wp2_with fail
  refine (ok_none w).mono ?_
  rintro e w' ⟨rfl, rfl⟩
  go_wp2
  go_ret
  exact ⟨rfl, rfl⟩
set_option maxRecDepth 100000 in
theorem size_calls (h : DevAt w g F D) : Calls Try.prog 37 #[.pointer (some ⟨g, 0, none⟩)] w fun e w' => e = .returned (.int .i64 D.n) ∧ w = w' := by
  have hok := Lib.hid (ok_calls h)
  obtain ⟨km, bm, A, c, c0, c1, c2, c3, c4, c5, c6, fz, hk, hm, ho, hr, hl⟩ := h.cells
  clear hk hm ho hr hl fz h
  go_enter Try.func37, Try.ntmps37
  go_wp2_with fail
  refine hok.out.mono ?_
  rintro e w' ⟨rfl, rfl⟩
  go_wp2
  go_ret
  exact ⟨rfl, rfl⟩
set_option maxRecDepth 100000 in
theorem size_none (w : World) : Calls Try.prog 37 #[.pointer none] w fun e w' => e = .returned (.int .i64 0) ∧ w = w' := by
  go_enter Try.func37, Try.ntmps37
  go_wp2_with fail
  refine (ok_none w).mono ?_
  rintro e w' ⟨rfl, rfl⟩
  go_wp2
  go_ret
  exact ⟨rfl, rfl⟩
/-- Whether there is a sector, of a device of n. -/
theorem has_of (g : Option Addr) (p : Int) (n : Nat) (hs : Calls Try.prog 37 #[.pointer g] w fun e w' => e = .returned (.int .i64 n) ∧ w = w') :
    Calls Try.prog 86 #[.pointer g, .int .i64 p] w fun e w' => e = .returned (.bool (decide (0 ≤ p ∧ p < n))) ∧ w = w' := by
  have hs := Lib.hid hs
  go_enter Try.func86, Try.ntmps86
  by_cases hp : 0 ≤ p
  · go_wp2_with fail
    refine hs.out.mono ?_
    rintro e w' ⟨rfl, rfl⟩
    go_wp2
    go_ret
    exact ⟨ret_bool (by by_cases h2 : p < (n : Int) <;> simp [hp, h2] <;> omega), rfl⟩
  · go_wp2
    go_ret
    exact ⟨ret_bool (by simp <;> omega), rfl⟩
theorem has_calls (h : DevAt w g F D) (p : Int) : Calls Try.prog 86 #[.pointer (some ⟨g, 0, none⟩), .int .i64 p] w fun e w' => e = .returned (.bool (D.has p)) ∧ w = w' := has_of _ p D.n (size_calls h)
theorem has_none (w : World) (p : Int) : Calls Try.prog 86 #[.pointer none, .int .i64 p] w fun e w' => e = .returned (.bool false) ∧ w = w' :=
  (has_of (w := w) none p 0 (size_none w)).mono (by
    rintro e w' ⟨rfl, rfl⟩
    exact ⟨ret_bool (by simp), rfl⟩)

/-- Stores into the flat cells. -/
theorem DevAt.set6 (h : DevAt w g F D) (v : Bool) : Did F w (w.setCell ⟨g, 6, none⟩ (.bool v)) g { D with dead := v } :=
  h.flat (grown_set _ _ _ _) ⟨rfl, rfl, rfl⟩ h.left0 fun km bm cv hb => .inl ⟨rfl, blk_set' hb 6 _ rfl⟩
theorem DevAt.set4 (h : DevAt w g F D) (v : Int) (h0 : 0 ≤ v) (h1 : v ≤ 9223372036854775807) : Did F w (w.setCell ⟨g, 4, none⟩ (.int .i64 v)) g { D with left := v } :=
  h.flat (grown_set _ _ _ _) ⟨rfl, rfl, rfl⟩ ⟨h0, h1⟩ fun km bm cv hb => .inl ⟨rfl, blk_set' hb 4 _ rfl⟩
theorem DevAt.set5 (h : DevAt w g F D) (v : Bool) : Did F w (w.setCell ⟨g, 5, none⟩ (.bool v)) g { D with armed := v } :=
  h.flat (grown_set _ _ _ _) ⟨rfl, rfl, rfl⟩ h.left0 fun km bm cv hb => .inl ⟨rfl, blk_set' hb 5 _ rfl⟩
theorem DevAt.set2 (h : DevAt w g F D) : Did F w (w.setCell ⟨g, 2, none⟩ (.slice none 0 0)) g { D with cache := [] } :=
  h.flat (grown_set _ _ _ _) ⟨rfl, rfl, rfl⟩ h.left0 fun km bm cv hb => .inr ⟨rfl, blk_set' hb 2 _ rfl⟩

set_option maxRecDepth 100000 in
theorem act_calls (h : DevAt w g F D) : Calls Try.prog 87 #[.pointer (some ⟨g, 0, none⟩)] w fun e w' => e = .returned (.bool D.act.1) ∧ Did F w w' g D.act.2 := by
  have h6 := Lib.hid (h.set6 true)
  have h4 := Lib.hid (fun l0 l1 => h.set4 (D.left - 1) l0 l1)
  have hD := Lib.hid (Did.refl h)
  obtain ⟨l0, l1⟩ := h.left0
  obtain ⟨km, bm, A, c, c0, c1, c2, c3, c4, c5, c6, fz, hk, hm, ho, hr, hl⟩ := h.cells
  have f4 := fz 4
  have f6 := fz 6
  clear hk hm ho hr hl fz h
  go_enter Try.func87, Try.ntmps87
  rcases hd : D.dead with _ | _
  · rcases ha : D.armed with _ | _
    · rw [hd] at c6
      rw [ha] at c5
      go_wp2
      go_ret
      exact ⟨ret_bool (by simp [Dv.act, hd, ha]), by simpa [Dv.act, hd, ha] using hD.out⟩
    · rw [hd] at c6
      rw [ha] at c5
      by_cases hz : D.left = 0
      · have hz' : (D.left == 0) = true := by simpa using hz
        rw [hz] at c4
        go_wp2
        go_ret
        exact ⟨ret_bool (by simp [Dv.act, hd, ha, hz]), by simpa [Dv.act, hd, ha, hz] using h6.out⟩
      · have hw : wrap64 (D.left - 1) = D.left - 1 := by unfold wrap64; omega
        go_wp2
        go_ret
        exact ⟨ret_bool (by simp [Dv.act, hd, ha, hz]), by simpa [Dv.act, hd, ha, hz] using h4.out (by omega) (by omega)⟩
  · rw [hd] at c6
    go_wp2
    go_ret
    exact ⟨ret_bool (by simp [Dv.act, hd]), by simpa [Dv.act, hd] using hD.out⟩
end
end Go.Proofs.Ytglpckdmiohciaa
