/- The reference's device: Copy. -/
import Derived.Test.YtglpckdmiohciaaRefC
namespace Go.Proofs.Ytglpckdmiohciaa
open Go.RowKit
set_option linter.unusedVariables false
set_option linter.unusedSimpArgs false

section
variable {w w' : World} {g : Nat} {F G : Nat → Prop} {X : Rv}
/-- A new device's cells in the making. -/
structure Mk (w W : World) (g2 : Nat) (X : Rv) (a b c : Value) : Prop where
  bl : Below w.heap.size w W
  ge : w.heap.size ≤ g2
  blk : W.heap[g2]? = some (.cells (X.cells a b c) 74 (0, 0))
theorem Mk.cell {W W' : World} {g2 : Nat} {a b c : Value} (h : Mk w W g2 X a b c) (hb : Below W.heap.size W W') : W'.cell? ⟨g2, 0, none⟩ = some a ∧ W'.cell? ⟨g2, 1, none⟩ = some b ∧ W'.cell? ⟨g2, 2, none⟩ = some c ∧ ∀ i, W'.frozen? ⟨g2, i, none⟩ = false := by
  have hh := blk_below hb h.blk (blk_lt h.blk)
  exact ⟨by rw [blk_cell hh]; rfl, by rw [blk_cell hh]; rfl, by rw [blk_cell hh]; rfl, fun i => blk_free hh i⟩
theorem Mk.set {W W' : World} {g2 : Nat} {a b c : Value} (h : Mk w W g2 X a b c) (hb : Below W.heap.size W W') (v : Value) :
    Mk w (W'.setCell ⟨g2, 0, none⟩ v) g2 X v b c ∧ Mk w (W'.setCell ⟨g2, 1, none⟩ v) g2 X a v c ∧ Mk w (W'.setCell ⟨g2, 2, none⟩ v) g2 X a b v := by
  have hh := blk_below hb h.blk (blk_lt h.blk)
  have hw := bl_then h.bl h.bl.size hb
  exact ⟨⟨bl_set hw h.ge _, h.ge, blk_set' hh 0 _ rfl⟩, ⟨bl_set hw h.ge _, h.ge, blk_set' hh 1 _ rfl⟩, ⟨bl_set hw h.ge _, h.ge, blk_set' hh 2 _ rfl⟩⟩
theorem own_step {α : Type} {enc : α → List Value} {sz e base : Nat} {W W' : World} {v u : Value} {xs : List α} {g2 k : Nat} (h : Own enc sz e base W v xs) (hb : Below W.heap.size W W') (hg : g2 < base) : Own enc sz e base (W'.setCell ⟨g2, k, none⟩ u) v xs :=
  (h.below hb).far (p := ⟨g2, k, none⟩) (fun hk => absurd (h.lt _ hk).1 (Nat.not_le_of_lt hg)) u
set_option maxRecDepth 100000 in
set_option maxHeartbeats 8000000 in
theorem refCopy_calls (h : RefAt w g F G X) (hn : X.S.length ≤ 1000000 ∧ X.bad.length ≤ 1000000 ∧ X.cache.length ≤ 1000000) : Calls Try.prog 48 #[.pointer (some ⟨g, 0, none⟩)] w fun e w' => ∃ g2 F2 G2, e = .returned (.pointer (some ⟨g2, 0, none⟩)) ∧ RefAt w' g2 F2 G2 X ∧ (∀ i, F2 i → w.heap.size ≤ i) ∧ (∀ i, G2 i → G i ∨ w.heap.size ≤ i) ∧ Below w.heap.size w w' := by
  obtain ⟨A, a, B, b, C, c, xs, cs, c0, c1, c2, c3, c4, fz, o1, o2, o3, e1, e2, i1, i2⟩ := h.cells
  have hgl := h.glt
  have HR := Lib.hid h
  have r1 := Lib.hid (o1.rd' SV.ok).2.2.2.1
  have r2 := Lib.hid (o2.rd' CV.ok).2.2.2.1
  have r3 := Lib.hid (o3.rd' boolOk).2.2.2.1
  have l1 : Hid (xs.length = X.S.length) := by show _ = _; rw [← e1, List.length_map]
  have l2 : Hid (cs.length = X.cache.length) := by show _ = _; rw [← e2, List.length_map]
  have HC : Hid (∀ W, Below w.heap.size w W → W.cell? ⟨g, 0, none⟩ = some (.slice A X.S.length a) ∧ W.cell? ⟨g, 1, none⟩ = some (.slice B X.cache.length b) ∧ W.cell? ⟨g, 2, none⟩ = some (.slice C X.bad.length c) ∧ W.cell? ⟨g, 3, none⟩ = some (.int .i64 X.left) ∧ W.cell? ⟨g, 4, none⟩ = some (.bool X.dead)) := fun W hW =>
    ⟨(hW.cell (by exact hgl)).trans c0, (hW.cell (by exact hgl)).trans c1, (hW.cell (by exact hgl)).trans c2, (hW.cell (by exact hgl)).trans c3, (hW.cell (by exact hgl)).trans c4⟩
  clear h fz
  go_enter Try.func48, Try.ntmps48
  go_wp2_with fail
  refine wp_region_noPanic ?_
  refine wp_regionZ 10 (fun W => Hid (Below w.heap.size w W)) (by kernel_rfl) ?_
  have hb0 : Hid (Below w.heap.size w w.drew) := (Below.refl _ w).drew
  refine AnyZ.takeU [10, 9, 8, 3, 2, 1] (i := 0) (oi := ⟨some 4, _, _, _, _, _⟩) (v := ?_) rfl (by kernel_rfl) (by kernel_rfl) (by kernel_rfl) (by kernel_rfl) (by kernel_rfl) (by kernel_rfl) (fun _ _ _ h => h) (Or.inl ⟨by rfl, ?_⟩) (by assumption) ?_
  rotate_left
  · (intro w hSw; (try dsimp only at hSw); have kk := HC.out _ hSw.out; have kk3 := kk.2.2.2.1; have kk4 := kk.2.2.2.2; (go_simp <;> with_reducible rfl))
  try simp only [Act.put, List.setIfInBounds_toArray, List.set_cons_zero, List.set_cons_succ]
  refine AnyZ.takeU [10, 9, 8, 3, 2] (i := 1) (oi := ⟨some 5, _, _, _, _, _⟩) (v := ?_) rfl (by kernel_rfl) (by kernel_rfl) (by kernel_rfl) (by kernel_rfl) (by kernel_rfl) (by kernel_rfl) (fun _ _ _ h => h) (Or.inl ⟨by rfl, ?_⟩) (by assumption) ?_
  rotate_left
  · (intro w hSw; (try dsimp only at hSw); have kk := HC.out _ hSw.out; have kk3 := kk.2.2.2.1; have kk4 := kk.2.2.2.2; (go_simp <;> with_reducible rfl))
  try simp only [Act.put, List.setIfInBounds_toArray, List.set_cons_zero, List.set_cons_succ]
  refine AnyZ.takeU [10, 9, 8, 3] (i := 2) (oi := ⟨some 6, _, _, _, _, _⟩) (v := ?_) rfl (by kernel_rfl) (by kernel_rfl) (by kernel_rfl) (by kernel_rfl) (by kernel_rfl) (by kernel_rfl) (fun _ _ _ h => h) (Or.inl ⟨by rfl, ?_⟩) (by assumption) ?_
  rotate_left
  · (intro w hSw; (try dsimp only at hSw); have kk := HC.out _ hSw.out; have kk3 := kk.2.2.2.1; have kk4 := kk.2.2.2.2; (go_simp <;> with_reducible rfl))
  try simp only [Act.put, List.setIfInBounds_toArray, List.set_cons_zero, List.set_cons_succ]
  refine AnyZ.takeU [10, 9, 8] (i := 3) (oi := ⟨some 7, _, _, _, _, _⟩) (v := ?_) rfl (by kernel_rfl) (by kernel_rfl) (by kernel_rfl) (by kernel_rfl) (by kernel_rfl) (by kernel_rfl) (fun _ _ _ h => h) (Or.inl ⟨by rfl, ?_⟩) (by assumption) ?_
  rotate_left
  · (intro w hSw; (try dsimp only at hSw); have kk := HC.out _ hSw.out; have kk3 := kk.2.2.2.1; have kk4 := kk.2.2.2.2; (go_simp <;> with_reducible rfl))
  try simp only [Act.put, List.setIfInBounds_toArray, List.set_cons_zero, List.set_cons_succ]
  refine AnyZ.takeU [10, 9, 8, 7, 6, 5] (i := 4) (oi := ⟨some 8, _, _, _, _, _⟩) (v := ?_) rfl (by kernel_rfl) (by kernel_rfl) (by kernel_rfl) (by kernel_rfl) (by kernel_rfl) (by kernel_rfl) (fun _ _ _ h => h) (Or.inl ⟨by rfl, ?_⟩) (by assumption) ?_
  rotate_left
  · (intro w hSw; (try dsimp only at hSw); have kk := HC.out _ hSw.out; have kk3 := kk.2.2.2.1; have kk4 := kk.2.2.2.2; (go_simp <;> with_reducible rfl))
  try simp only [Act.put, List.setIfInBounds_toArray, List.set_cons_zero, List.set_cons_succ]
  refine AnyZ.takeU [10, 9, 8, 7, 6] (i := 5) (oi := ⟨some 9, _, _, _, _, _⟩) (v := ?_) rfl (by kernel_rfl) (by kernel_rfl) (by kernel_rfl) (by kernel_rfl) (by kernel_rfl) (by kernel_rfl) (fun _ _ _ h => h) (Or.inl ⟨by rfl, ?_⟩) (by assumption) ?_
  rotate_left
  · (intro w hSw; (try dsimp only at hSw); have kk := HC.out _ hSw.out; have kk3 := kk.2.2.2.1; have kk4 := kk.2.2.2.2; (go_simp <;> with_reducible rfl))
  try simp only [Act.put, List.setIfInBounds_toArray, List.set_cons_zero, List.set_cons_succ]
  refine AnyZ.takeU [10, 9, 8, 7] (i := 6) (oi := ⟨some 10, _, _, _, _, _⟩) (v := ?_) rfl (by kernel_rfl) (by kernel_rfl) (by kernel_rfl) (by kernel_rfl) (by kernel_rfl) (by kernel_rfl) (fun _ _ _ h => h) (Or.inl ⟨by rfl, ?_⟩) (by assumption) ?_
  rotate_left
  · (intro w hSw; (try dsimp only at hSw); have kk := HC.out _ hSw.out; have kk3 := kk.2.2.2.1; have kk4 := kk.2.2.2.2; (go_simp <;> with_reducible rfl))
  try simp only [Act.put, List.setIfInBounds_toArray, List.set_cons_zero, List.set_cons_succ]
  refine AnyZ.takeU [10, 9, 8] (i := 7) (oi := ⟨some 11, _, _, _, _, _⟩) (v := ?_) rfl (by kernel_rfl) (by kernel_rfl) (by kernel_rfl) (by kernel_rfl) (by kernel_rfl) (by kernel_rfl) (fun _ _ _ h => h) (Or.inl ⟨by rfl, ?_⟩) (by assumption) ?_
  rotate_left
  · (intro w hSw; (try dsimp only at hSw); have kk := HC.out _ hSw.out; have kk3 := kk.2.2.2.1; have kk4 := kk.2.2.2.2; (go_simp <;> with_reducible rfl))
  try simp only [Act.put, List.setIfInBounds_toArray, List.set_cons_zero, List.set_cons_succ]
  refine AnyZ.takeU [10, 9] (i := 8) (oi := ⟨some 12, _, _, _, _, _⟩) (v := ?_) rfl (by kernel_rfl) (by kernel_rfl) (by kernel_rfl) (by kernel_rfl) (by kernel_rfl) (by kernel_rfl) (fun _ _ _ h => h) (Or.inl ⟨by rfl, ?_⟩) (by assumption) ?_
  rotate_left
  · (intro w hSw; (try dsimp only at hSw); have kk := HC.out _ hSw.out; have kk3 := kk.2.2.2.1; have kk4 := kk.2.2.2.2; (go_simp <;> with_reducible rfl))
  try simp only [Act.put, List.setIfInBounds_toArray, List.set_cons_zero, List.set_cons_succ]
  refine AnyZ.one (i := 9) (by kernel_rfl) rfl (fun K hK => ?_)
  have M1 : Hid (Mk w (w.drew.alloc (.cells (X.cells (.slice none 0 0) (.slice none 0 0) (.slice none 0 0)) 74)) w.heap.size X (.slice none 0 0) (.slice none 0 0) (.slice none 0 0)) := ⟨bl_alloc (Below.refl _ w).drew _, Nat.le_refl _, blk_new w.drew _⟩
  have Z1 : Hid (w.heap.size < (w.drew.alloc (.cells (X.cells (.slice none 0 0) (.slice none 0 0) (.slice none 0 0)) 74)).heap.size) := blk_lt M1.out.blk
  generalize hW1 : w.drew.alloc (.cells (X.cells (.slice none 0 0) (.slice none 0 0) (.slice none 0 0)) 74) = W1 at M1 Z1
  unfold Rv.cells at hW1
  go_simp
  refine hK.out _ _ (.inr M1.out.bl) ?_
  clear hK K
  try simp only [Act.put, List.setIfInBounds_toArray, List.set_cons_zero, List.set_cons_succ]
  refine AnyZ.one (i := 10) (by kernel_rfl) rfl (fun K hK => ?_)
  go_simp
  refine hK.out _ _ (.inr M1.out.bl) ?_
  clear hK K
  try simp only [Act.put, List.setIfInBounds_toArray, List.set_cons_zero, List.set_cons_succ]
  refine AnyZ.done (by kernel_rfl) ?_ _
  refine NoPanic.normal ?_
  clear hW1
  go_wp2_with fail
  refine wp_region_noPanic ?_
  refine wp_regionZ 12 (fun W => Hid (Below W1.heap.size W1 W)) (by kernel_rfl) ?_
  have hb2 : Hid (Below W1.heap.size W1 W1.drew) := (Below.refl _ W1).drew
  refine AnyZ.takeU [12, 11, 10] (i := 0) (oi := ⟨some 14, _, _, _, _, _⟩) (v := ?_) rfl (by kernel_rfl) (by kernel_rfl) (by kernel_rfl) (by kernel_rfl) (by kernel_rfl) (by kernel_rfl) (fun _ _ _ h => h) (Or.inl ⟨by rfl, ?_⟩) (by assumption) ?_
  rotate_left
  · (intro w hSw; (try dsimp only at hSw); have kk := HC.out _ (bl_then M1.out.bl M1.out.bl.size hSw.out); have kk0 := kk.1; have mm := M1.out.cell hSw.out; have mm0 := mm.1; (go_simp <;> with_reducible rfl))
  try simp only [Act.put, List.setIfInBounds_toArray, List.set_cons_zero, List.set_cons_succ]
  refine AnyZ.takeU [12, 9, 4, 3, 2] (i := 1) (oi := ⟨some 15, _, _, _, _, _⟩) (v := ?_) rfl (by kernel_rfl) (by kernel_rfl) (by kernel_rfl) (by kernel_rfl) (by kernel_rfl) (by kernel_rfl) (fun _ _ _ h => h) (Or.inl ⟨by rfl, ?_⟩) (by assumption) ?_
  rotate_left
  · (intro w hSw; (try dsimp only at hSw); have kk := HC.out _ (bl_then M1.out.bl M1.out.bl.size hSw.out); have kk0 := kk.1; have mm := M1.out.cell hSw.out; have mm0 := mm.1; (go_simp <;> with_reducible rfl))
  try simp only [Act.put, List.setIfInBounds_toArray, List.set_cons_zero, List.set_cons_succ]
  refine AnyZ.takeU [12, 9, 4, 3] (i := 2) (oi := ⟨some 16, _, _, _, _, _⟩) (v := ?_) rfl (by kernel_rfl) (by kernel_rfl) (by kernel_rfl) (by kernel_rfl) (by kernel_rfl) (by kernel_rfl) (fun _ _ _ h => h) (Or.inl ⟨by rfl, ?_⟩) (by assumption) ?_
  rotate_left
  · (intro w hSw; (try dsimp only at hSw); have kk := HC.out _ (bl_then M1.out.bl M1.out.bl.size hSw.out); have kk0 := kk.1; have mm := M1.out.cell hSw.out; have mm0 := mm.1; (go_simp <;> with_reducible rfl))
  try simp only [Act.put, List.setIfInBounds_toArray, List.set_cons_zero, List.set_cons_succ]
  refine AnyZ.takeU [12, 9, 4] (i := 3) (oi := ⟨some 17, _, _, _, _, _⟩) (v := ?_) rfl (by kernel_rfl) (by kernel_rfl) (by kernel_rfl) (by kernel_rfl) (by kernel_rfl) (by kernel_rfl) (fun _ _ _ h => h) (Or.inl ⟨by rfl, ?_⟩) (by assumption) ?_
  rotate_left
  · (intro w hSw; (try dsimp only at hSw); have kk := HC.out _ (bl_then M1.out.bl M1.out.bl.size hSw.out); have kk0 := kk.1; have mm := M1.out.cell hSw.out; have mm0 := mm.1; (go_simp <;> with_reducible rfl))
  try simp only [Act.put, List.setIfInBounds_toArray, List.set_cons_zero, List.set_cons_succ]
  refine AnyZ.takeU [12, 9] (i := 4) (oi := ⟨some 18, _, _, _, _, _⟩) (v := ?_) rfl (by kernel_rfl) (by kernel_rfl) (by kernel_rfl) (by kernel_rfl) (by kernel_rfl) (by kernel_rfl) (fun _ _ _ h => h) (Or.inl ⟨by rfl, ?_⟩) (by assumption) ?_
  rotate_left
  · (intro w hSw; (try dsimp only at hSw); have kk := HC.out _ (bl_then M1.out.bl M1.out.bl.size hSw.out); have kk0 := kk.1; have mm := M1.out.cell hSw.out; have mm0 := mm.1; (go_simp <;> with_reducible rfl))
  try simp only [Act.put, List.setIfInBounds_toArray, List.set_cons_zero, List.set_cons_succ]
  refine AnyZ.takeU [12, 9, 8, 7, 6] (i := 5) (oi := ⟨some 19, _, _, _, _, _⟩) (v := ?_) rfl (by kernel_rfl) (by kernel_rfl) (by kernel_rfl) (by kernel_rfl) (by kernel_rfl) (by kernel_rfl) (fun _ _ _ h => h) (Or.inl ⟨by rfl, ?_⟩) (by assumption) ?_
  rotate_left
  · (intro w hSw; (try dsimp only at hSw); have kk := HC.out _ (bl_then M1.out.bl M1.out.bl.size hSw.out); have kk0 := kk.1; have mm := M1.out.cell hSw.out; have mm0 := mm.1; (go_simp <;> with_reducible rfl))
  try simp only [Act.put, List.setIfInBounds_toArray, List.set_cons_zero, List.set_cons_succ]
  refine AnyZ.takeU [12, 9, 8, 7] (i := 6) (oi := ⟨some 20, _, _, _, _, _⟩) (v := ?_) rfl (by kernel_rfl) (by kernel_rfl) (by kernel_rfl) (by kernel_rfl) (by kernel_rfl) (by kernel_rfl) (fun _ _ _ h => h) (Or.inl ⟨by rfl, ?_⟩) (by assumption) ?_
  rotate_left
  · (intro w hSw; (try dsimp only at hSw); have kk := HC.out _ (bl_then M1.out.bl M1.out.bl.size hSw.out); have kk0 := kk.1; have mm := M1.out.cell hSw.out; have mm0 := mm.1; (go_simp <;> with_reducible rfl))
  try simp only [Act.put, List.setIfInBounds_toArray, List.set_cons_zero, List.set_cons_succ]
  refine AnyZ.takeU [12, 9, 8] (i := 7) (oi := ⟨some 21, _, _, _, _, _⟩) (v := ?_) rfl (by kernel_rfl) (by kernel_rfl) (by kernel_rfl) (by kernel_rfl) (by kernel_rfl) (by kernel_rfl) (fun _ _ _ h => h) (Or.inl ⟨by rfl, ?_⟩) (by assumption) ?_
  rotate_left
  · (intro w hSw; (try dsimp only at hSw); have kk := HC.out _ (bl_then M1.out.bl M1.out.bl.size hSw.out); have kk0 := kk.1; have mm := M1.out.cell hSw.out; have mm0 := mm.1; (go_simp <;> with_reducible rfl))
  try simp only [Act.put, List.setIfInBounds_toArray, List.set_cons_zero, List.set_cons_succ]
  refine AnyZ.takeU [12, 9] (i := 8) (oi := ⟨some 22, _, _, _, _, _⟩) (v := ?_) rfl (by kernel_rfl) (by kernel_rfl) (by kernel_rfl) (by kernel_rfl) (by kernel_rfl) (by kernel_rfl) (fun _ _ _ h => h) (Or.inl ⟨by rfl, ?_⟩) (by assumption) ?_
  rotate_left
  · (intro w hSw; (try dsimp only at hSw); have kk := HC.out _ (bl_then M1.out.bl M1.out.bl.size hSw.out); have kk0 := kk.1; have mm := M1.out.cell hSw.out; have mm0 := mm.1; (go_simp <;> with_reducible rfl))
  try simp only [Act.put, List.setIfInBounds_toArray, List.set_cons_zero, List.set_cons_succ]
  have N2 : Hid (Own SV.enc 1 38 W1.heap.size W1.drew (.slice none 0 0) ([] : List _)) := Own.nil
  have S2 : Hid (Src Try.prog 1 71 (.slice A X.S.length a) xs.length (xs.flatMap SV.enc) W1.drew) := by
    have h := Rd.src (P := Try.prog) SV.ok Try.underlying71 a (r1.out.below (bl_then M1.out.bl M1.out.bl.size hb2.out) (Nat.le_refl _))
    rw [l1.out] at h ⊢
    exact h
  have qa2 : Hid ((([] : List SV).length + xs.length) * 24 ≤ 140737488355328) := by show _ ≤ _; have := l1.out; have := l2.out; simp; omega
  have qb2 : Hid (([] : List SV).length + xs.length ≤ 140737488355328) := by show _ ≤ _; have := l1.out; have := l2.out; simp; omega
  have hz2 : Hid (W1.heap.size ≤ W1.drew.heap.size) := Nat.le_refl _
  have ob2 : Hid (∀ k, (Value.slice none 0 0).ownBlock = some k → W1.heap.size ≤ k ∧ k < W1.drew.heap.size) := fun k hk => by cases hk
  refine AnyZ.one (i := 9) (by kernel_rfl) rfl (fun K hK => ?_)
  refine at_step rfl (op_ownS SV.ok (.tmp 18) (.tmp 22) _ _ _ _ _ rfl Try.underlying71 infoBS rfl W1.heap.size (.slice none 0 0) (.slice A X.S.length a) [] xs rfl rfl N2.out S2.out hz2.out qa2.out qb2.out ?_)
  intro v2 w2 ho2 hg2
  have B2 := bl_grownC hb2 hg2 hz2 ob2
  have HO2 : Hid (Own SV.enc 1 38 W1.heap.size w2 v2 xs) := ho2
  clear ho2 hg2 N2 S2 hz2 ob2
  refine hK.out _ _ (.inr B2) ?_
  clear hK K
  try simp only [Act.put, List.setIfInBounds_toArray, List.set_cons_zero, List.set_cons_succ]
  have mm := M1.out.cell B2.out
  have mm0 := mm.1
  have mf := mm.2.2.2
  clear mm
  refine AnyZ.one (i := 10) (by kernel_rfl) rfl (fun K hK => ?_)
  go_simp
  refine hK.out _ _ (.inr B2) ?_
  clear hK K
  try simp only [Act.put, List.setIfInBounds_toArray, List.set_cons_zero, List.set_cons_succ]
  refine AnyZ.one (i := 11) (by kernel_rfl) rfl (fun K hK => ?_)
  go_simp
  refine hK.out _ _ (.inr B2) ?_
  clear hK K
  try simp only [Act.put, List.setIfInBounds_toArray, List.set_cons_zero, List.set_cons_succ]
  refine AnyZ.one (i := 12) (by kernel_rfl) rfl (fun K hK => ?_)
  obtain ⟨A2, c2', e2, _⟩ := HO2.out.rd SV.ok
  subst e2
  have M2 := Lib.hid (M1.out.set B2.out (.slice A2 xs.length c2')).1
  go_simp
  refine hK.out _ _ (.inl rfl) ?_
  clear hK K
  try simp only [Act.put, List.setIfInBounds_toArray, List.set_cons_zero, List.set_cons_succ]
  refine AnyZ.done (by kernel_rfl) ?_ _
  refine NoPanic.normal ?_
  clear mm0 mf
  have own2 : Hid (Own SV.enc 1 38 W1.heap.size (w2.setCell ⟨w.heap.size, 0, none⟩ (.slice A2 xs.length c2')) (.slice A2 xs.length c2') xs) := HO2.out.far (p := ⟨w.heap.size, 0, none⟩) (fun hk => by have := (HO2.out.lt _ hk).1; exact absurd this (Nat.not_le_of_lt Z1.out)) _
  have Zb2 : Hid (w.heap.size < W1.heap.size) := Z1
  have Z2 : Hid (w.heap.size < (w2.setCell ⟨w.heap.size, 0, none⟩ (.slice A2 xs.length c2')).heap.size) := blk_lt M2.out.blk
  generalize hW2 : w2.setCell ⟨w.heap.size, 0, none⟩ (.slice A2 xs.length c2') = W2 at *
  clear hW2
  go_wp2_with fail
  refine wp_region_noPanic ?_
  refine wp_regionZ 12 (fun W => Hid (Below W2.heap.size W2 W)) (by kernel_rfl) ?_
  have hb3 : Hid (Below W2.heap.size W2 W2.drew) := (Below.refl _ W2).drew
  refine AnyZ.takeU [12, 11, 10] (i := 0) (oi := ⟨some 26, _, _, _, _, _⟩) (v := ?_) rfl (by kernel_rfl) (by kernel_rfl) (by kernel_rfl) (by kernel_rfl) (by kernel_rfl) (by kernel_rfl) (fun _ _ _ h => h) (Or.inl ⟨by rfl, ?_⟩) (by assumption) ?_
  rotate_left
  · (intro w hSw; (try dsimp only at hSw); have kk := HC.out _ (bl_then M2.out.bl M2.out.bl.size hSw.out); have kk0 := kk.2.2.1; have mm := M2.out.cell hSw.out; have mm0 := mm.2.2.1; (go_simp <;> with_reducible rfl))
  try simp only [Act.put, List.setIfInBounds_toArray, List.set_cons_zero, List.set_cons_succ]
  refine AnyZ.takeU [12, 9, 4, 3, 2] (i := 1) (oi := ⟨some 27, _, _, _, _, _⟩) (v := ?_) rfl (by kernel_rfl) (by kernel_rfl) (by kernel_rfl) (by kernel_rfl) (by kernel_rfl) (by kernel_rfl) (fun _ _ _ h => h) (Or.inl ⟨by rfl, ?_⟩) (by assumption) ?_
  rotate_left
  · (intro w hSw; (try dsimp only at hSw); have kk := HC.out _ (bl_then M2.out.bl M2.out.bl.size hSw.out); have kk0 := kk.2.2.1; have mm := M2.out.cell hSw.out; have mm0 := mm.2.2.1; (go_simp <;> with_reducible rfl))
  try simp only [Act.put, List.setIfInBounds_toArray, List.set_cons_zero, List.set_cons_succ]
  refine AnyZ.takeU [12, 9, 4, 3] (i := 2) (oi := ⟨some 28, _, _, _, _, _⟩) (v := ?_) rfl (by kernel_rfl) (by kernel_rfl) (by kernel_rfl) (by kernel_rfl) (by kernel_rfl) (by kernel_rfl) (fun _ _ _ h => h) (Or.inl ⟨by rfl, ?_⟩) (by assumption) ?_
  rotate_left
  · (intro w hSw; (try dsimp only at hSw); have kk := HC.out _ (bl_then M2.out.bl M2.out.bl.size hSw.out); have kk0 := kk.2.2.1; have mm := M2.out.cell hSw.out; have mm0 := mm.2.2.1; (go_simp <;> with_reducible rfl))
  try simp only [Act.put, List.setIfInBounds_toArray, List.set_cons_zero, List.set_cons_succ]
  refine AnyZ.takeU [12, 9, 4] (i := 3) (oi := ⟨some 29, _, _, _, _, _⟩) (v := ?_) rfl (by kernel_rfl) (by kernel_rfl) (by kernel_rfl) (by kernel_rfl) (by kernel_rfl) (by kernel_rfl) (fun _ _ _ h => h) (Or.inl ⟨by rfl, ?_⟩) (by assumption) ?_
  rotate_left
  · (intro w hSw; (try dsimp only at hSw); have kk := HC.out _ (bl_then M2.out.bl M2.out.bl.size hSw.out); have kk0 := kk.2.2.1; have mm := M2.out.cell hSw.out; have mm0 := mm.2.2.1; (go_simp <;> with_reducible rfl))
  try simp only [Act.put, List.setIfInBounds_toArray, List.set_cons_zero, List.set_cons_succ]
  refine AnyZ.takeU [12, 9] (i := 4) (oi := ⟨some 30, _, _, _, _, _⟩) (v := ?_) rfl (by kernel_rfl) (by kernel_rfl) (by kernel_rfl) (by kernel_rfl) (by kernel_rfl) (by kernel_rfl) (fun _ _ _ h => h) (Or.inl ⟨by rfl, ?_⟩) (by assumption) ?_
  rotate_left
  · (intro w hSw; (try dsimp only at hSw); have kk := HC.out _ (bl_then M2.out.bl M2.out.bl.size hSw.out); have kk0 := kk.2.2.1; have mm := M2.out.cell hSw.out; have mm0 := mm.2.2.1; (go_simp <;> with_reducible rfl))
  try simp only [Act.put, List.setIfInBounds_toArray, List.set_cons_zero, List.set_cons_succ]
  refine AnyZ.takeU [12, 9, 8, 7, 6] (i := 5) (oi := ⟨some 31, _, _, _, _, _⟩) (v := ?_) rfl (by kernel_rfl) (by kernel_rfl) (by kernel_rfl) (by kernel_rfl) (by kernel_rfl) (by kernel_rfl) (fun _ _ _ h => h) (Or.inl ⟨by rfl, ?_⟩) (by assumption) ?_
  rotate_left
  · (intro w hSw; (try dsimp only at hSw); have kk := HC.out _ (bl_then M2.out.bl M2.out.bl.size hSw.out); have kk0 := kk.2.2.1; have mm := M2.out.cell hSw.out; have mm0 := mm.2.2.1; (go_simp <;> with_reducible rfl))
  try simp only [Act.put, List.setIfInBounds_toArray, List.set_cons_zero, List.set_cons_succ]
  refine AnyZ.takeU [12, 9, 8, 7] (i := 6) (oi := ⟨some 32, _, _, _, _, _⟩) (v := ?_) rfl (by kernel_rfl) (by kernel_rfl) (by kernel_rfl) (by kernel_rfl) (by kernel_rfl) (by kernel_rfl) (fun _ _ _ h => h) (Or.inl ⟨by rfl, ?_⟩) (by assumption) ?_
  rotate_left
  · (intro w hSw; (try dsimp only at hSw); have kk := HC.out _ (bl_then M2.out.bl M2.out.bl.size hSw.out); have kk0 := kk.2.2.1; have mm := M2.out.cell hSw.out; have mm0 := mm.2.2.1; (go_simp <;> with_reducible rfl))
  try simp only [Act.put, List.setIfInBounds_toArray, List.set_cons_zero, List.set_cons_succ]
  refine AnyZ.takeU [12, 9, 8] (i := 7) (oi := ⟨some 33, _, _, _, _, _⟩) (v := ?_) rfl (by kernel_rfl) (by kernel_rfl) (by kernel_rfl) (by kernel_rfl) (by kernel_rfl) (by kernel_rfl) (fun _ _ _ h => h) (Or.inl ⟨by rfl, ?_⟩) (by assumption) ?_
  rotate_left
  · (intro w hSw; (try dsimp only at hSw); have kk := HC.out _ (bl_then M2.out.bl M2.out.bl.size hSw.out); have kk0 := kk.2.2.1; have mm := M2.out.cell hSw.out; have mm0 := mm.2.2.1; (go_simp <;> with_reducible rfl))
  try simp only [Act.put, List.setIfInBounds_toArray, List.set_cons_zero, List.set_cons_succ]
  refine AnyZ.takeU [12, 9] (i := 8) (oi := ⟨some 34, _, _, _, _, _⟩) (v := ?_) rfl (by kernel_rfl) (by kernel_rfl) (by kernel_rfl) (by kernel_rfl) (by kernel_rfl) (by kernel_rfl) (fun _ _ _ h => h) (Or.inl ⟨by rfl, ?_⟩) (by assumption) ?_
  rotate_left
  · (intro w hSw; (try dsimp only at hSw); have kk := HC.out _ (bl_then M2.out.bl M2.out.bl.size hSw.out); have kk0 := kk.2.2.1; have mm := M2.out.cell hSw.out; have mm0 := mm.2.2.1; (go_simp <;> with_reducible rfl))
  try simp only [Act.put, List.setIfInBounds_toArray, List.set_cons_zero, List.set_cons_succ]
  have N3 : Hid (Own boolEnc 1 4 W2.heap.size W2.drew (.slice none 0 0) ([] : List _)) := Own.nil
  have S3 : Hid (Src Try.prog 1 45 (.slice C X.bad.length c) X.bad.length (X.bad.flatMap boolEnc) W2.drew) := by
    have h := Rd.src (P := Try.prog) boolOk Try.underlying45 c (r3.out.below (bl_then M2.out.bl M2.out.bl.size hb3.out) (Nat.le_refl _))
    skip
    exact h
  have qa3 : Hid ((([] : List Bool).length + X.bad.length) * 1 ≤ 140737488355328) := by show _ ≤ _; have := l1.out; have := l2.out; simp; omega
  have qb3 : Hid (([] : List Bool).length + X.bad.length ≤ 140737488355328) := by show _ ≤ _; have := l1.out; have := l2.out; simp; omega
  have hz3 : Hid (W2.heap.size ≤ W2.drew.heap.size) := Nat.le_refl _
  have ob3 : Hid (∀ k, (Value.slice none 0 0).ownBlock = some k → W2.heap.size ≤ k ∧ k < W2.drew.heap.size) := fun k hk => by cases hk
  refine AnyZ.one (i := 9) (by kernel_rfl) rfl (fun K hK => ?_)
  refine at_step rfl (op_ownS boolOk (.tmp 30) (.tmp 34) _ _ _ _ _ rfl Try.underlying45 infoBl rfl W2.heap.size (.slice none 0 0) (.slice C X.bad.length c) [] X.bad rfl rfl N3.out S3.out hz3.out qa3.out qb3.out ?_)
  intro v3 w3 ho3 hg3
  have B3 := bl_grownC hb3 hg3 hz3 ob3
  have HO3 : Hid (Own boolEnc 1 4 W2.heap.size w3 v3 X.bad) := ho3
  clear ho3 hg3 N3 S3 hz3 ob3
  refine hK.out _ _ (.inr B3) ?_
  clear hK K
  try simp only [Act.put, List.setIfInBounds_toArray, List.set_cons_zero, List.set_cons_succ]
  have mm := M2.out.cell B3.out
  have mm0 := mm.2.2.1
  have mf := mm.2.2.2
  clear mm
  refine AnyZ.one (i := 10) (by kernel_rfl) rfl (fun K hK => ?_)
  go_simp
  refine hK.out _ _ (.inr B3) ?_
  clear hK K
  try simp only [Act.put, List.setIfInBounds_toArray, List.set_cons_zero, List.set_cons_succ]
  refine AnyZ.one (i := 11) (by kernel_rfl) rfl (fun K hK => ?_)
  go_simp
  refine hK.out _ _ (.inr B3) ?_
  clear hK K
  try simp only [Act.put, List.setIfInBounds_toArray, List.set_cons_zero, List.set_cons_succ]
  refine AnyZ.one (i := 12) (by kernel_rfl) rfl (fun K hK => ?_)
  obtain ⟨A3, c3', e3, _⟩ := HO3.out.rd boolOk
  subst e3
  have M3 := Lib.hid (M2.out.set B3.out (.slice A3 X.bad.length c3')).2.2
  go_simp
  refine hK.out _ _ (.inl rfl) ?_
  clear hK K
  try simp only [Act.put, List.setIfInBounds_toArray, List.set_cons_zero, List.set_cons_succ]
  refine AnyZ.done (by kernel_rfl) ?_ _
  refine NoPanic.normal ?_
  clear mm0 mf
  have own3 : Hid (Own boolEnc 1 4 W2.heap.size (w3.setCell ⟨w.heap.size, 2, none⟩ (.slice A3 X.bad.length c3')) (.slice A3 X.bad.length c3') X.bad) := HO3.out.far (p := ⟨w.heap.size, 2, none⟩) (fun hk => by have := (HO3.out.lt _ hk).1; exact absurd this (Nat.not_le_of_lt Z2.out)) _
  replace own2 := Lib.hid (own_step (k := 2) (u := (.slice A3 X.bad.length c3')) own2.out B3.out Zb2.out)
  have Zb3 : Hid (w.heap.size < W2.heap.size) := Z2
  have Z3 : Hid (w.heap.size < (w3.setCell ⟨w.heap.size, 2, none⟩ (.slice A3 X.bad.length c3')).heap.size) := blk_lt M3.out.blk
  generalize hW3 : w3.setCell ⟨w.heap.size, 2, none⟩ (.slice A3 X.bad.length c3') = W3 at *
  clear hW3
  go_wp2_with fail
  refine wp_region_noPanic ?_
  refine wp_regionZ 12 (fun W => Hid (Below W3.heap.size W3 W)) (by kernel_rfl) ?_
  have hb4 : Hid (Below W3.heap.size W3 W3.drew) := (Below.refl _ W3).drew
  refine AnyZ.takeU [12, 11, 10] (i := 0) (oi := ⟨some 38, _, _, _, _, _⟩) (v := ?_) rfl (by kernel_rfl) (by kernel_rfl) (by kernel_rfl) (by kernel_rfl) (by kernel_rfl) (by kernel_rfl) (fun _ _ _ h => h) (Or.inl ⟨by rfl, ?_⟩) (by assumption) ?_
  rotate_left
  · (intro w hSw; (try dsimp only at hSw); have kk := HC.out _ (bl_then M3.out.bl M3.out.bl.size hSw.out); have kk0 := kk.2.1; have mm := M3.out.cell hSw.out; have mm0 := mm.2.1; (go_simp <;> with_reducible rfl))
  try simp only [Act.put, List.setIfInBounds_toArray, List.set_cons_zero, List.set_cons_succ]
  refine AnyZ.takeU [12, 9, 4, 3, 2] (i := 1) (oi := ⟨some 39, _, _, _, _, _⟩) (v := ?_) rfl (by kernel_rfl) (by kernel_rfl) (by kernel_rfl) (by kernel_rfl) (by kernel_rfl) (by kernel_rfl) (fun _ _ _ h => h) (Or.inl ⟨by rfl, ?_⟩) (by assumption) ?_
  rotate_left
  · (intro w hSw; (try dsimp only at hSw); have kk := HC.out _ (bl_then M3.out.bl M3.out.bl.size hSw.out); have kk0 := kk.2.1; have mm := M3.out.cell hSw.out; have mm0 := mm.2.1; (go_simp <;> with_reducible rfl))
  try simp only [Act.put, List.setIfInBounds_toArray, List.set_cons_zero, List.set_cons_succ]
  refine AnyZ.takeU [12, 9, 4, 3] (i := 2) (oi := ⟨some 40, _, _, _, _, _⟩) (v := ?_) rfl (by kernel_rfl) (by kernel_rfl) (by kernel_rfl) (by kernel_rfl) (by kernel_rfl) (by kernel_rfl) (fun _ _ _ h => h) (Or.inl ⟨by rfl, ?_⟩) (by assumption) ?_
  rotate_left
  · (intro w hSw; (try dsimp only at hSw); have kk := HC.out _ (bl_then M3.out.bl M3.out.bl.size hSw.out); have kk0 := kk.2.1; have mm := M3.out.cell hSw.out; have mm0 := mm.2.1; (go_simp <;> with_reducible rfl))
  try simp only [Act.put, List.setIfInBounds_toArray, List.set_cons_zero, List.set_cons_succ]
  refine AnyZ.takeU [12, 9, 4] (i := 3) (oi := ⟨some 41, _, _, _, _, _⟩) (v := ?_) rfl (by kernel_rfl) (by kernel_rfl) (by kernel_rfl) (by kernel_rfl) (by kernel_rfl) (by kernel_rfl) (fun _ _ _ h => h) (Or.inl ⟨by rfl, ?_⟩) (by assumption) ?_
  rotate_left
  · (intro w hSw; (try dsimp only at hSw); have kk := HC.out _ (bl_then M3.out.bl M3.out.bl.size hSw.out); have kk0 := kk.2.1; have mm := M3.out.cell hSw.out; have mm0 := mm.2.1; (go_simp <;> with_reducible rfl))
  try simp only [Act.put, List.setIfInBounds_toArray, List.set_cons_zero, List.set_cons_succ]
  refine AnyZ.takeU [12, 9] (i := 4) (oi := ⟨some 42, _, _, _, _, _⟩) (v := ?_) rfl (by kernel_rfl) (by kernel_rfl) (by kernel_rfl) (by kernel_rfl) (by kernel_rfl) (by kernel_rfl) (fun _ _ _ h => h) (Or.inl ⟨by rfl, ?_⟩) (by assumption) ?_
  rotate_left
  · (intro w hSw; (try dsimp only at hSw); have kk := HC.out _ (bl_then M3.out.bl M3.out.bl.size hSw.out); have kk0 := kk.2.1; have mm := M3.out.cell hSw.out; have mm0 := mm.2.1; (go_simp <;> with_reducible rfl))
  try simp only [Act.put, List.setIfInBounds_toArray, List.set_cons_zero, List.set_cons_succ]
  refine AnyZ.takeU [12, 9, 8, 7, 6] (i := 5) (oi := ⟨some 43, _, _, _, _, _⟩) (v := ?_) rfl (by kernel_rfl) (by kernel_rfl) (by kernel_rfl) (by kernel_rfl) (by kernel_rfl) (by kernel_rfl) (fun _ _ _ h => h) (Or.inl ⟨by rfl, ?_⟩) (by assumption) ?_
  rotate_left
  · (intro w hSw; (try dsimp only at hSw); have kk := HC.out _ (bl_then M3.out.bl M3.out.bl.size hSw.out); have kk0 := kk.2.1; have mm := M3.out.cell hSw.out; have mm0 := mm.2.1; (go_simp <;> with_reducible rfl))
  try simp only [Act.put, List.setIfInBounds_toArray, List.set_cons_zero, List.set_cons_succ]
  refine AnyZ.takeU [12, 9, 8, 7] (i := 6) (oi := ⟨some 44, _, _, _, _, _⟩) (v := ?_) rfl (by kernel_rfl) (by kernel_rfl) (by kernel_rfl) (by kernel_rfl) (by kernel_rfl) (by kernel_rfl) (fun _ _ _ h => h) (Or.inl ⟨by rfl, ?_⟩) (by assumption) ?_
  rotate_left
  · (intro w hSw; (try dsimp only at hSw); have kk := HC.out _ (bl_then M3.out.bl M3.out.bl.size hSw.out); have kk0 := kk.2.1; have mm := M3.out.cell hSw.out; have mm0 := mm.2.1; (go_simp <;> with_reducible rfl))
  try simp only [Act.put, List.setIfInBounds_toArray, List.set_cons_zero, List.set_cons_succ]
  refine AnyZ.takeU [12, 9, 8] (i := 7) (oi := ⟨some 45, _, _, _, _, _⟩) (v := ?_) rfl (by kernel_rfl) (by kernel_rfl) (by kernel_rfl) (by kernel_rfl) (by kernel_rfl) (by kernel_rfl) (fun _ _ _ h => h) (Or.inl ⟨by rfl, ?_⟩) (by assumption) ?_
  rotate_left
  · (intro w hSw; (try dsimp only at hSw); have kk := HC.out _ (bl_then M3.out.bl M3.out.bl.size hSw.out); have kk0 := kk.2.1; have mm := M3.out.cell hSw.out; have mm0 := mm.2.1; (go_simp <;> with_reducible rfl))
  try simp only [Act.put, List.setIfInBounds_toArray, List.set_cons_zero, List.set_cons_succ]
  refine AnyZ.takeU [12, 9] (i := 8) (oi := ⟨some 46, _, _, _, _, _⟩) (v := ?_) rfl (by kernel_rfl) (by kernel_rfl) (by kernel_rfl) (by kernel_rfl) (by kernel_rfl) (by kernel_rfl) (fun _ _ _ h => h) (Or.inl ⟨by rfl, ?_⟩) (by assumption) ?_
  rotate_left
  · (intro w hSw; (try dsimp only at hSw); have kk := HC.out _ (bl_then M3.out.bl M3.out.bl.size hSw.out); have kk0 := kk.2.1; have mm := M3.out.cell hSw.out; have mm0 := mm.2.1; (go_simp <;> with_reducible rfl))
  try simp only [Act.put, List.setIfInBounds_toArray, List.set_cons_zero, List.set_cons_succ]
  have N4 : Hid (Own CV.enc 2 148 W3.heap.size W3.drew (.slice none 0 0) ([] : List _)) := Own.nil
  have S4 : Hid (Src Try.prog 2 72 (.slice B X.cache.length b) cs.length (cs.flatMap CV.enc) W3.drew) := by
    have h := Rd.src (P := Try.prog) CV.ok Try.underlying72 b (r2.out.below (bl_then M3.out.bl M3.out.bl.size hb4.out) (Nat.le_refl _))
    rw [l2.out] at h ⊢
    exact h
  have qa4 : Hid ((([] : List CV).length + cs.length) * 32 ≤ 140737488355328) := by show _ ≤ _; have := l1.out; have := l2.out; simp; omega
  have qb4 : Hid (([] : List CV).length + cs.length ≤ 140737488355328) := by show _ ≤ _; have := l1.out; have := l2.out; simp; omega
  have hz4 : Hid (W3.heap.size ≤ W3.drew.heap.size) := Nat.le_refl _
  have ob4 : Hid (∀ k, (Value.slice none 0 0).ownBlock = some k → W3.heap.size ≤ k ∧ k < W3.drew.heap.size) := fun k hk => by cases hk
  refine AnyZ.one (i := 9) (by kernel_rfl) rfl (fun K hK => ?_)
  refine at_step rfl (op_ownS CV.ok (.tmp 42) (.tmp 46) _ _ _ _ _ rfl Try.underlying72 infoCW rfl W3.heap.size (.slice none 0 0) (.slice B X.cache.length b) [] cs rfl rfl N4.out S4.out hz4.out qa4.out qb4.out ?_)
  intro v4 w4 ho4 hg4
  have B4 := bl_grownC hb4 hg4 hz4 ob4
  have HO4 : Hid (Own CV.enc 2 148 W3.heap.size w4 v4 cs) := ho4
  clear ho4 hg4 N4 S4 hz4 ob4
  refine hK.out _ _ (.inr B4) ?_
  clear hK K
  try simp only [Act.put, List.setIfInBounds_toArray, List.set_cons_zero, List.set_cons_succ]
  have mm := M3.out.cell B4.out
  have mm0 := mm.2.1
  have mf := mm.2.2.2
  clear mm
  refine AnyZ.one (i := 10) (by kernel_rfl) rfl (fun K hK => ?_)
  go_simp
  refine hK.out _ _ (.inr B4) ?_
  clear hK K
  try simp only [Act.put, List.setIfInBounds_toArray, List.set_cons_zero, List.set_cons_succ]
  refine AnyZ.one (i := 11) (by kernel_rfl) rfl (fun K hK => ?_)
  go_simp
  refine hK.out _ _ (.inr B4) ?_
  clear hK K
  try simp only [Act.put, List.setIfInBounds_toArray, List.set_cons_zero, List.set_cons_succ]
  refine AnyZ.one (i := 12) (by kernel_rfl) rfl (fun K hK => ?_)
  obtain ⟨A4, c4', e4, _⟩ := HO4.out.rd CV.ok
  subst e4
  have M4 := Lib.hid (M3.out.set B4.out (.slice A4 cs.length c4')).2.1
  go_simp
  refine hK.out _ _ (.inl rfl) ?_
  clear hK K
  try simp only [Act.put, List.setIfInBounds_toArray, List.set_cons_zero, List.set_cons_succ]
  refine AnyZ.done (by kernel_rfl) ?_ _
  refine NoPanic.normal ?_
  clear mm0 mf
  have own4 : Hid (Own CV.enc 2 148 W3.heap.size (w4.setCell ⟨w.heap.size, 1, none⟩ (.slice A4 cs.length c4')) (.slice A4 cs.length c4') cs) := HO4.out.far (p := ⟨w.heap.size, 1, none⟩) (fun hk => by have := (HO4.out.lt _ hk).1; exact absurd this (Nat.not_le_of_lt Z3.out)) _
  replace own2 := Lib.hid (own_step (k := 1) (u := (.slice A4 cs.length c4')) own2.out B4.out Zb2.out)
  replace own3 := Lib.hid (own_step (k := 1) (u := (.slice A4 cs.length c4')) own3.out B4.out Zb3.out)
  have Zb4 : Hid (w.heap.size < W3.heap.size) := Z3
  have Z4 : Hid (w.heap.size < (w4.setCell ⟨w.heap.size, 1, none⟩ (.slice A4 cs.length c4')).heap.size) := blk_lt M4.out.blk
  generalize hW4 : w4.setCell ⟨w.heap.size, 1, none⟩ (.slice A4 cs.length c4') = W4 at *
  clear hW4
  go_wp2_with fail
  go_ret
  have hlt : ∀ i, G i → i < w.heap.size := HR.out.lt
  have own : ∀ {A : Option Addr} {c : Nat} {s : Sec}, Inn w F G A c s → Inn W4 (fun i => w.heap.size ≤ i ∧ i < W4.heap.size) (fun i => G i ∨ (w.heap.size ≤ i ∧ i < W4.heap.size)) A c s := fun {A c s} hi => by
    obtain ⟨b, off, rfl, h1, h2, h3, h4, h5⟩ := hi
    exact ⟨b, off, rfl, Nat.lt_of_lt_of_le h1 M4.out.bl.size, h2.below M4.out.bl (Nat.le_refl _), fun q => by omega, .inl h4, h5⟩
  have fr : ∀ {β : Type} {e : β → List Value} {sz t base : Nat} {v : Value} {ys : List β}, Own e sz t base W4 v ys → w.heap.size ≤ base → ∀ k, v.ownBlock = some k → w.heap.size ≤ k ∧ k < W4.heap.size := fun h hb k hk => ⟨Nat.le_trans hb (h.lt k hk).1, (h.lt k hk).2⟩
  have hz := M4.out.bl.size
  exact ⟨w.heap.size, fun i => w.heap.size ≤ i ∧ i < W4.heap.size, fun i => G i ∨ (w.heap.size ≤ i ∧ i < W4.heap.size), rfl, ⟨_, _, _, xs, cs, ⟨M4.out.blk, own2.out.mono (Nat.zero_le _), own4.out.mono (Nat.zero_le _), own3.out.mono (Nat.zero_le _), e1, e2, fun x hx => own (i1 x hx), fun x hx => own (i2 x hx), fr own2.out (Nat.le_of_lt Zb2.out), fr own4.out (Nat.le_of_lt Zb4.out), fr own3.out (Nat.le_of_lt Zb3.out), ⟨Nat.le_refl _, blk_lt M4.out.blk⟩, fun i hi => .inr hi, fun i hi => hi.elim (fun q => Nat.lt_of_lt_of_le (hlt i q) hz) And.right, HR.out.left⟩⟩, fun i hi => hi.1, fun i hi => hi.imp_right And.left, M4.out.bl⟩
end
end Go.Proofs.Ytglpckdmiohciaa
