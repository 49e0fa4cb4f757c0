/- The reference's device: has, act, Arm, Fault. -/
import Derived.Test.YtglpckdmiohciaaRef0
namespace Go.Proofs.Ytglpckdmiohciaa
open Go.RowKit
set_option linter.unusedVariables false
set_option linter.unusedSimpArgs false

section
variable {w : World} {g : Nat} {F G : Nat → Prop} {X : Rv}
set_option maxRecDepth 100000 in
theorem refHas_calls (h : RefAt w g F G X) (p : Int) : Calls Try.prog 93 #[.pointer (some ⟨g, 0, none⟩), .int .i64 p] w fun e w' => e = .returned (.bool (X.has p)) ∧ w = w' := by
  obtain ⟨A, a, B, b, C, c, xs, cs, c0, c1, c2, c3, c4, fz, -, -, -, -, -, -, -⟩ := h.cells
  clear h fz
  unfold Rv.has
  go_enter Try.func93, Try.ntmps93
  by_cases hp : 0 ≤ p
  · go_wp2
    go_ret
    exact ⟨ret_bool (by by_cases h2 : p < (X.S.length : Int) <;> simp [hp, h2] <;> omega), rfl⟩
  · go_wp2
    go_ret
    exact ⟨ret_bool (by simp <;> omega), rfl⟩
theorem RefAt.set4 (h : RefAt w g F G X) (v : Bool) : RefDid F G w (w.setCell ⟨g, 4, none⟩ (.bool v)) g { X with dead := v } :=
  h.flat (grown_set _ _ _ _) ⟨rfl, rfl⟩ h.left fun sv cv bv hb => .inl ⟨rfl, blk_set' hb 4 _ rfl⟩
theorem RefAt.set3 (h : RefAt w g F G X) (v : Int) (h0 : -1 ≤ v) (h1 : v ≤ 9223372036854775807) : RefDid F G w (w.setCell ⟨g, 3, none⟩ (.int .i64 v)) g { X with left := v } :=
  h.flat (grown_set _ _ _ _) ⟨rfl, rfl⟩ ⟨h0, h1⟩ fun sv cv bv hb => .inl ⟨rfl, blk_set' hb 3 _ rfl⟩
theorem RefAt.set1 (h : RefAt w g F G X) : RefDid F G w (w.setCell ⟨g, 1, none⟩ (.slice none 0 0)) g { X with cache := [] } :=
  h.flat (grown_set _ _ _ _) ⟨rfl, rfl⟩ h.left fun sv cv bv hb => .inr ⟨rfl, blk_set' hb 1 _ rfl⟩
theorem RefAt.setCrash (h : RefAt w g F G X) : RefDid F G w (((w.setCell ⟨g, 1, none⟩ (.slice none 0 0)).setCell ⟨g, 4, none⟩ (.bool false)).setCell ⟨g, 3, none⟩ (.int .i64 (-1))) g { X with cache := [], dead := false, left := -1 } :=
  h.flat (grown_trans (grown_trans (grown_set _ _ _ _) (grown_set _ _ _ _)) (grown_set _ _ _ _)) ⟨rfl, rfl⟩ ⟨Int.le_refl _, (by decide : (-1 : Int) ≤ 9223372036854775807)⟩
    fun sv cv bv hb => .inr ⟨rfl, blk_set' (blk_set' (blk_set' hb 1 _ rfl) 4 _ rfl) 3 _ rfl⟩
set_option maxRecDepth 100000 in
theorem refAct_calls (h : RefAt w g F G X) : Calls Try.prog 94 #[.pointer (some ⟨g, 0, none⟩)] w fun e w' => e = .returned (.bool X.act.1) ∧ RefDid F G w w' g X.act.2 := by
  have h4 := Lib.hid (h.set4 true)
  have h3 := Lib.hid (fun l0 l1 => h.set3 (X.left - 1) l0 l1)
  have h0 := Lib.hid (RefDid.refl h)
  obtain ⟨l0, l1⟩ := h.left
  obtain ⟨A, a, B, b, C, c, xs, cs, c0, c1, c2, c3, c4, fz, -, -, -, -, -, -, -⟩ := h.cells
  have f3 := fz 3
  have f4 := fz 4
  clear h fz
  go_enter Try.func94, Try.ntmps94
  rcases hd : X.dead with _ | _
  · rw [hd] at c4
    by_cases hz : X.left = 0
    · rw [hz] at c3
      go_wp2
      go_ret
      exact ⟨ret_bool (by simp [Rv.act, hd, hz]), by simpa [Rv.act, hd, hz] using h4.out⟩
    · have hzb : (X.left == 0) = false := by simpa using hz
      by_cases hp : 0 < X.left
      · have hw : wrap64 (X.left - 1) = X.left - 1 := by unfold wrap64; omega
        go_wp2
        go_ret
        exact ⟨ret_bool (by simp [Rv.act, hd, hz, hp]), by simpa [Rv.act, hd, hz, hp] using h3.out (by omega) (by omega)⟩
      · have ha : Hid (X.act = (true, X)) := by
          show _ = _
          unfold Rv.act
          rw [if_neg (by simp [hd, hz]), if_neg hp]
        go_wp2
        go_ret
        exact ⟨ret_bool (by rw [ha.out]), by rw [ha.out]; exact h0.out⟩
  · rw [hd] at c4
    go_wp2
    go_ret
    exact ⟨ret_bool (by simp [Rv.act, hd]), by simpa [Rv.act, hd] using h4.out⟩
set_option maxRecDepth 100000 in
theorem refArm_calls (h : RefAt w g F G X) (n : Int) (hn : n ≤ 9223372036854775807) : Calls Try.prog 44 #[.pointer (some ⟨g, 0, none⟩), .int .i64 n] w fun e w' => e = .returned (.tuple #[]) ∧ RefDid F G w w' g (X.arm n) := by
  have h1 := Lib.hid (h.set3 (-1) (Int.le_refl _) (by decide))
  have h2 : Hid (0 ≤ n → RefDid F G w ((w.setCell ⟨g, 3, none⟩ (.int .i64 (-1))).setCell ⟨g, 3, none⟩ (.int .i64 n)) g { X with left := n }) := fun h0 =>
    h.flat (grown_trans (grown_set _ _ _ _) (grown_set _ _ _ _)) ⟨rfl, rfl⟩ ⟨by show -1 ≤ n; omega, hn⟩ fun sv cv bv hb => .inl ⟨rfl, blk_set' (blk_set' hb 3 _ rfl) 3 _ rfl⟩
  obtain ⟨A, a, B, b, C, c, xs, cs, c0, c1, c2, c3, c4, fz, -, -, -, -, -, -, -⟩ := h.cells
  have f3 := fz 3
  clear h fz
  go_enter Try.func44, Try.ntmps44
  by_cases hp : 0 ≤ n
  · go_wp2
    go_end0
    refine ⟨rfl, ?_⟩
    unfold Rv.arm
    rw [if_pos hp]
    first | exact h2.out hp | (simpa using h2.out hp)
  · go_wp2
    go_end0
    refine ⟨rfl, ?_⟩
    unfold Rv.arm
    rw [if_neg (by omega)]
    exact h1.out
/-- A store into the row of faults. -/
theorem RefIn.setBad {sv cv bv : Value} {xs : List SV} {cs : List CV} (h : RefIn w g F G X sv cv bv xs cs) {b : Nat} (hv : bv.ownBlock = some b) (k : Nat) (v : Bool) : RefDid F G w (w.setCell ⟨b, k, none⟩ (.bool v)) g { X with bad := X.bad.set k v } := by
  obtain ⟨q, hq⟩ := own_elem h.o3 b hv
  have hg : w.grownBy (w.setCell ⟨b, k, none⟩ (.bool v)) (some b) := grown_set _ _ _ _
  have hc : Chg F w (w.setCell ⟨b, k, none⟩ (.bool v)) := Chg.grown hg (h.f3 b hv)
  have ne : ∀ u : Value, ∀ e, e ≠ 4 → (∀ k, u.ownBlock = some k → ∃ c, w.heap[k]? = some (.cells c e (0, 0))) → u.ownBlock = none ∨ u.ownBlock ≠ some b := fun u e he hu => by
    rcases hh : u.ownBlock with _ | j
    · exact .inl rfl
    · right
      intro ej
      injection ej with ej
      obtain ⟨c, hj⟩ := hu j hh
      rw [ej, hq] at hj
      cases hj
      exact he rfl
  have hgb : g ≠ b := fun e => by
    have := h.blk
    rw [e, hq] at this
    cases this
  refine RefAt.put ⟨sv, cv, bv, xs, cs, h⟩ _ sv cv bv xs cs (blk_far h.blk hgb _) (h.o1.kept hg (ne sv _ (by decide) (own_elem h.o1))) (h.o2.kept hg (ne cv _ (by decide) (own_elem h.o2))) (h.o3.set boolOk hv k v rfl) h.e1 h.e2
    (fun x hx => (h.i1 x hx).own hc (fun i _ hi => hi) (fun _ h => h)) (fun x hx => (h.i2 x hx).own hc (fun i _ hi => hi) (fun _ h => h)) h.f1 h.f2 h.f3 h.f4 h.f5 (fun i hi => by simpa [World.setCell] using h.f6 i hi) h.f7 hc (fun _ h => .inl h) (fun _ h => .inl h)
set_option maxRecDepth 100000 in
theorem refFault_calls (h : RefAt w g F G X) (p : Int) (on : Bool) (hl : X.bad.length = X.S.length) : Calls Try.prog 47 #[.pointer (some ⟨g, 0, none⟩), .int .i64 p, .bool on] w fun e w' => e = .returned (.tuple #[]) ∧ RefDid F G w w' g (X.fault p on) := by
  have hhas := Lib.hid (refHas_calls h p)
  have h0 := Lib.hid (RefDid.refl h)
  obtain ⟨sv, cv, bv, xs, cs, hin⟩ := h
  obtain ⟨C, c, rfl, hlc, hbig, _⟩ := hin.o3.rd boolOk
  have c2 : w.cell? ⟨g, 2, none⟩ = some (.slice C X.bad.length c) := by rw [blk_cell hin.blk]; rfl
  have HI := Lib.hid hin
  clear hin
  go_enter Try.func47, Try.ntmps47
  go_wp2_with fail
  refine hhas.out.mono ?_
  rintro e w1 ⟨rfl, rfl⟩
  rcases hp : X.has p with _ | _
  · go_wp2
    go_end0
    exact ⟨rfl, by unfold Rv.fault; rw [if_neg (by simp [hp])]; exact h0.out⟩
  · have hp' : 0 ≤ p ∧ p < X.S.length := by simpa [Rv.has] using hp
    obtain ⟨k, rfl⟩ : ∃ k : Nat, p = k := ⟨p.toNat, by omega⟩
    have hk : k < X.bad.length := by omega
    rcases HI.out.o3.head with ⟨rfl, e⟩ | ⟨b, rfl⟩
    · rw [e] at hk; simp at hk
    obtain ⟨d1, d2⟩ := HI.out.o3.at boolOk (List.getElem?_eq_getElem hk) rfl
    have hfin := Lib.hid (HI.out.setBad rfl k on)
    have i0 : (0 : Int) ≤ (k : Int) := by omega
    have i1 : (k : Int) < (X.bad.length : Int) := by omega
    go_wp2
    go_end0
    exact ⟨rfl, by unfold Rv.fault; rw [if_pos hp]; exact hfin.out⟩
end
end Go.Proofs.Ytglpckdmiohciaa
