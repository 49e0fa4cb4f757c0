/- ref04.Free: Copy, Spans. -/
import Derived.Test.YtglpckdmiohciaaExtU
namespace Go.Proofs.Ytglpckdmiohciaa
open Go.RowKit
set_option linter.unusedVariables false
set_option linter.unusedSimpArgs false

theorem copyRf_fin {w w2 : World} {X : Rf} {A2 : Option Addr} {c2 : Nat} (hk : X.Ok) (hb : Below w.heap.size w w2) (ho : Own bEnc 1 4 w.heap.size w2 (.slice A2 X.L.length c2) X.L) :
    RFreshR w (w2.alloc (.cells #[.int .i64 X.lo, .slice A2 X.L.length c2] 159)) X (.returned (.pointer (some ⟨w2.heap.size, 0, none⟩))) := by
  refine ⟨w2.heap.size, fun i => w.heap.size ≤ i ∧ i < w2.heap.size + 1, rfl, ⟨_, blk_new w2 _, (ho.alloc _).mono (Nat.zero_le _), (fun k e => ?_), ⟨hb.size, by omega⟩, (fun i hi => by rw [World.size_alloc]; exact hi.2), hk⟩, (fun i hi => hi.1), hb.alloc hb.size _⟩
  have := ho.lt k e
  exact ⟨by omega, this.1, by omega⟩
section
variable {w : World} {g : Nat} {G : Nat → Prop} {X : Rf}
set_option maxRecDepth 100000 in
set_option maxHeartbeats 4000000 in
theorem copyRf_calls (h : RfAt w g G X) : Calls Try.prog 66 #[.pointer (some ⟨g, 0, none⟩)] w fun e w' => RFreshR w w' X e := by
  obtain ⟨A, c, c0, c1, fz, ho, hr, hc, hv, hb⟩ := h.cells
  have hgl := h.glt
  have hok := Lib.hid h.okX
  have hll := h.okX.len
  have hC : Hid (∀ W, Below w.heap.size w W → W.cell? ⟨g, 0, none⟩ = some (.int .i64 X.lo) ∧ W.cell? ⟨g, 1, none⟩ = some (.slice A X.L.length c)) := fun W hW => ⟨(hW.cell (by exact hgl)).trans c0, (hW.cell (by exact hgl)).trans c1⟩
  have hb0 : Hid (Below w.heap.size w w.drew) := (Below.refl _ w).drew
  have hsrc : Hid (Src Try.prog 1 45 (.slice A X.L.length c) X.L.length (X.L.flatMap bEnc) w.drew) := Rd.src bOk Try.underlying45 c (hr.below hb0.out (Nat.le_refl _))
  have hz : Hid (w.heap.size ≤ w.drew.heap.size) := Nat.le_refl _
  have l1 : Hid ((([] : List Bool).length + X.L.length) * 1 ≤ 140737488355328) := by show _ ≤ _; simp; omega
  have l2 : Hid (([] : List Bool).length + X.L.length ≤ 140737488355328) := by show _ ≤ _; simp; omega
  have t1 : Hid ((Value.bool false).cells.size = 1) := rfl
  clear h c0 c1 fz ho hr hv hb
  go_enter Try.func66, Try.ntmps66
  go_wp2_with fail
  refine wp_region_noPanic ?_
  refine wp_region_held_drew (S := fun W => Hid (Below w.heap.size w W)) (by kernel_rfl) (hb0) (fun hHeld => ?_)
  refine wpAnyH_take (i := 0) (oi := ⟨some 3, _, _, _, _, _⟩) (v := ?_) rfl (by kernel_rfl) (by kernel_rfl) (by kernel_rfl) (fun _ _ _ h => h) (Or.inl ⟨by rfl, ?_⟩) (by assumption) ?_
  rotate_left
  · (intro w hSw; (try dsimp only at hSw); obtain ⟨y0, y1⟩ := hC.out _ hSw.out; (go_simp <;> with_reducible rfl))
  try simp only [Act.put, List.setIfInBounds_toArray, List.set_cons_zero, List.set_cons_succ]
  refine wpAnyH_take (i := 1) (oi := ⟨some 4, _, _, _, _, _⟩) (v := ?_) rfl (by kernel_rfl) (by kernel_rfl) (by kernel_rfl) (fun _ _ _ h => h) (Or.inl ⟨by rfl, ?_⟩) (by assumption) ?_
  rotate_left
  · (intro w hSw; (try dsimp only at hSw); obtain ⟨y0, y1⟩ := hC.out _ hSw.out; (go_simp <;> with_reducible rfl))
  try simp only [Act.put, List.setIfInBounds_toArray, List.set_cons_zero, List.set_cons_succ]
  refine wpAnyH_take (i := 2) (oi := ⟨some 5, _, _, _, _, _⟩) (v := ?_) rfl (by kernel_rfl) (by kernel_rfl) (by kernel_rfl) (fun _ _ _ h => h) (Or.inl ⟨by rfl, ?_⟩) (by assumption) ?_
  rotate_left
  · (intro w hSw; (try dsimp only at hSw); obtain ⟨y0, y1⟩ := hC.out _ hSw.out; (go_simp <;> with_reducible rfl))
  try simp only [Act.put, List.setIfInBounds_toArray, List.set_cons_zero, List.set_cons_succ]
  refine wpAnyH_take (i := 3) (oi := ⟨some 6, _, _, _, _, _⟩) (v := ?_) rfl (by kernel_rfl) (by kernel_rfl) (by kernel_rfl) (fun _ _ _ h => h) (Or.inl ⟨by rfl, ?_⟩) (by assumption) ?_
  rotate_left
  · (intro w hSw; (try dsimp only at hSw); obtain ⟨y0, y1⟩ := hC.out _ hSw.out; (go_simp <;> with_reducible rfl))
  try simp only [Act.put, List.setIfInBounds_toArray, List.set_cons_zero, List.set_cons_succ]
  refine wpAnyH_take (i := 4) (oi := ⟨some 7, _, _, _, _, _⟩) (v := ?_) rfl (by kernel_rfl) (by kernel_rfl) (by kernel_rfl) (fun _ _ _ h => h) (Or.inl ⟨by rfl, ?_⟩) (by assumption) ?_
  rotate_left
  · (intro w hSw; (try dsimp only at hSw); obtain ⟨y0, y1⟩ := hC.out _ hSw.out; (go_simp <;> with_reducible rfl))
  try simp only [Act.put, List.setIfInBounds_toArray, List.set_cons_zero, List.set_cons_succ]
  refine wpAnyH_take (i := 5) (oi := ⟨some 8, _, _, _, _, _⟩) (v := ?_) rfl (by kernel_rfl) (by kernel_rfl) (by kernel_rfl) (fun _ _ _ h => h) (Or.inl ⟨by rfl, ?_⟩) (by assumption) ?_
  rotate_left
  · (intro w hSw; (try dsimp only at hSw); obtain ⟨y0, y1⟩ := hC.out _ hSw.out; (go_simp <;> with_reducible rfl))
  try simp only [Act.put, List.setIfInBounds_toArray, List.set_cons_zero, List.set_cons_succ]
  refine wpAnyH_take (i := 6) (oi := ⟨some 9, _, _, _, _, _⟩) (v := ?_) rfl (by kernel_rfl) (by kernel_rfl) (by kernel_rfl) (fun _ _ _ h => h) (Or.inl ⟨by rfl, ?_⟩) (by assumption) ?_
  rotate_left
  · (intro w hSw; (try dsimp only at hSw); obtain ⟨y0, y1⟩ := hC.out _ hSw.out; (go_simp <;> with_reducible rfl))
  try simp only [Act.put, List.setIfInBounds_toArray, List.set_cons_zero, List.set_cons_succ]
  refine wpAnyH_take (i := 7) (oi := ⟨some 10, _, _, _, _, _⟩) (v := ?_) rfl (by kernel_rfl) (by kernel_rfl) (by kernel_rfl) (fun _ _ _ h => h) (Or.inl ⟨by rfl, ?_⟩) (by assumption) ?_
  rotate_left
  · (intro w hSw; (try dsimp only at hSw); obtain ⟨y0, y1⟩ := hC.out _ hSw.out; (go_simp <;> with_reducible rfl))
  try simp only [Act.put, List.setIfInBounds_toArray, List.set_cons_zero, List.set_cons_succ]
  refine wpAnyH_ready (rs := [8]) (by kernel_rfl) (by simp) ?_
  refine AllReadyH.cons rfl (fun K hK => ?_) AllReadyH.nil
  refine at_step rfl (op_ownS bOk _ _ _ _ _ _ _ rfl Try.underlying45 infoB t1.out w.heap.size (.slice none 0 0) (.slice A X.L.length c) [] X.L rfl rfl Own.nil hsrc.out hz.out l1.out l2.out ?_)
  intro v2 w2 o2 hg2
  have B2 : Hid (Below w.heap.size w w2) := hb0.out.grown hg2 hz.out (fun k e => by cases e)
  obtain ⟨A2, c2, rfl, -, -, -, -⟩ := o2.rd bOk
  have O2 := Lib.hid o2
  clear o2 hg2
  refine hK.out _ _ (by assumption) (fun _ => ?_)
  clear hK K
  try simp only [Act.put, List.setIfInBounds_toArray, List.set_cons_zero, List.set_cons_succ]
  refine wpAnyH_take (i := 9) (oi := ⟨some 12, _, _, _, _, _⟩) (v := ?_) rfl (by kernel_rfl) (by kernel_rfl) (by kernel_rfl) (fun _ _ _ h => h) (Or.inl ⟨by rfl, ?_⟩) (by assumption) ?_
  rotate_left
  · (intro w hSw; (try dsimp only at hSw); obtain ⟨y0, y1⟩ := hC.out _ hSw.out; (go_simp <;> with_reducible rfl))
  try simp only [Act.put, List.setIfInBounds_toArray, List.set_cons_zero, List.set_cons_succ]
  refine wpAnyH_ready (rs := [10]) (by kernel_rfl) (by simp) ?_
  refine AllReadyH.cons rfl (fun K hK => ?_) AllReadyH.nil
  go_simp
  have B3 : Hid (Below w.heap.size w (w2.alloc (.cells #[.int .i64 X.lo, .slice A2 X.L.length c2] 159))) := B2.out.alloc B2.out.size _
  refine hK.out _ _ (by assumption) (fun _ => ?_)
  clear hK K
  try simp only [Act.put, List.setIfInBounds_toArray, List.set_cons_zero, List.set_cons_succ]
  refine wpAnyH_take (i := 11) (oi := ⟨some 2, _, _, _, _, _⟩) (v := ?_) rfl (by kernel_rfl) (by kernel_rfl) (by kernel_rfl) (fun _ _ _ h => h) (Or.inl ⟨by rfl, ?_⟩) (by assumption) ?_
  rotate_left
  · (intro w hSw; (try dsimp only at hSw); obtain ⟨y0, y1⟩ := hC.out _ hSw.out; (go_simp <;> with_reducible rfl))
  try simp only [Act.put, List.setIfInBounds_toArray, List.set_cons_zero, List.set_cons_succ]
  refine wpAnyH_done (by kernel_rfl) ?_ _
  refine NoPanic.normal ?_
  go_wp2
  go_ret
  exact copyRf_fin hok.out B2.out O2.out
/-- The rows of the first k marks. -/
def SpR (L : List Bool) (k : Nat) (xs : List Span) : Prop := Norm 0 (k : Int) xs ∧ ∀ j, inL xs j ↔ 0 ≤ j ∧ j < k ∧ L[j.toNat]? = some true
theorem spR_zero (L : List Bool) : SpR L 0 [] := ⟨trivial, fun j => by simp [inL]; omega⟩
theorem spR_no {L : List Bool} {k : Nat} {xs : List Span} (h : SpR L k xs) (hk : L[k]? = some false) : SpR L (k + 1) xs := by
  refine ⟨h.1.up (by omega), fun j => ?_⟩
  rw [h.2]
  constructor
  · rintro ⟨a, b, c⟩
    exact ⟨a, by omega, c⟩
  · rintro ⟨a, b, c⟩
    refine ⟨a, ?_, c⟩
    rcases Int.lt_or_le j k with q | q
    · exact q
    · have : j.toNat = k := by omega
      rw [this, hk] at c
      cases c
theorem spR_join {L : List Bool} {k : Nat} {xs : List Span} (h : SpR L k xs) (hk : L[k]? = some true) : SpR L (k + 1) (joinR xs ⟨(k : Int), 1⟩) := by
  have h1 := join_norm (x := ⟨(k : Int), 1⟩) h.1 (Int.le_refl _) (by dsimp only; omega) (by dsimp only; omega)
  refine ⟨h1.up (by dsimp only; omega), fun j => ?_⟩
  rw [join_in (by dsimp only; omega) (fun y hy => (h.1.mem y hy).2.1), h.2]
  dsimp only
  constructor
  · rintro (⟨a, b, c⟩ | q)
    · exact ⟨a, by omega, c⟩
    · have : j.toNat = k := by omega
      exact ⟨by omega, by omega, by rw [this]; exact hk⟩
  · rintro ⟨a, b, c⟩
    rcases Int.lt_or_le j k with q | q
    · exact .inl ⟨a, q, c⟩
    · exact .inr ⟨by omega, by omega⟩
/-- The page ahead is free: the last row ends here. -/
theorem spR_last {L : List Bool} {k : Nat} {xs : List Span} (h : SpR L k xs) (h0 : 0 < k) (hk : L[k - 1]? = some true) : ∃ y, xs.getLast? = some y ∧ y.start + y.pages = (k : Int) := by
  have hin := (h.2 ((k : Int) - 1)).2 ⟨by omega, by omega, by rw [show ((k : Int) - 1).toNat = k - 1 from by omega]; exact hk⟩
  have hne : xs ≠ [] := fun e => by rw [e] at hin; exact hin
  refine ⟨xs.getLast hne, List.getLast?_eq_some_getLast hne, ?_⟩
  have hs := (List.dropLast_concat_getLast hne).symm
  have hm := h.1.mem _ (List.getLast_mem hne)
  rw [hs, inL_append] at hin
  rcases hin with q | q
  · have hnorm := h.1
    rw [hs] at hnorm
    exact absurd q (norm_pre hnorm (by omega))
  · simp only [inL, or_false] at q
    omega
where
  norm_pre {n : Int} {y : Span} {j : Int} : ∀ {l : List Span} {lo : Int}, Norm lo n (l ++ [y]) → y.start + y.pages ≤ n ∧ n ≤ j + 1 → ¬ inL l j
    | [], _, _, _, h => h
    | x :: l, lo, ⟨h1, h2, h3, h4⟩, hj, h => by
      rcases h with h | h
      · have := h4.mem y (by simp)
        omega
      · exact norm_pre h4 hj h
theorem spR_nolast {L : List Bool} {k : Nat} {xs : List Span} (h : SpR L k xs) (hk : k = 0 ∨ L[k - 1]? = some false) : ∀ y, xs.getLast? = some y → y.start + y.pages ≠ (k : Int) := by
  intro y hy e
  have hm := List.mem_of_getLast? hy
  have hb := h.1.mem y hm
  have hin := (h.2 ((k : Int) - 1)).1 (inL_mem.2 ⟨y, hm, by omega, by omega⟩)
  rcases hk with q | q
  · omega
  · rw [show ((k : Int) - 1).toNat = k - 1 from by omega, q] at hin
    cases hin.2.2
end
end Go.Proofs.Ytglpckdmiohciaa
