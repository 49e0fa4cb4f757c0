/- ref04.Free: set, Has, Claim, Give, Take. -/
import Derived.Test.YtglpckdmiohciaaExtR
namespace Go.Proofs.Ytglpckdmiohciaa
open Go.RowKit
set_option linter.unusedVariables false
set_option linter.unusedSimpArgs false

section
variable {w : World} {g : Nat} {G : Nat → Prop} {X : Rf}
theorem RfAt.ownAt (h : RfAt w g G X) (h0 : 0 < X.L.length) : ∃ b c, w.cell? ⟨g, 1, none⟩ = some (.slice (some ⟨b, 0, none⟩) X.L.length c) ∧ X.L.length ≤ c ∧ b ≠ g ∧ G b ∧ b < w.heap.size ∧ (∀ i x, X.L[i]? = some x → w.cell? ⟨b, i, none⟩ = some (.bool x)) ∧ (∀ i, w.frozen? ⟨b, i, none⟩ = false) ∧
    ∀ i v, i < X.L.length → RfAt (w.setCell ⟨b, i, none⟩ (.bool v)) g G { X with L := X.L.set i v } := by
  have hk := h.okX
  have hlt := h.lt
  obtain ⟨A, c, c0, c1, fz, ho, hr, hc, hv, hb⟩ := h.cells
  have hfg := h.fg
  rcases ho.2 with ⟨e0, _⟩ | ⟨b, cap, cur, e0, hbb, hh, _⟩
  · injection e0 with e1 e2 e3; omega
  · injection e0 with e1 e2 e3
    subst e1
    obtain ⟨v1, v2⟩ := hv b rfl
    refine ⟨b, c, c1, hc, v1, v2, blk_lt hh, fun i x hx => by have := Rd.bool hr hx; rwa [Nat.zero_add] at this, fun i => blk_free hh i, fun i v hi => ?_⟩
    refine ⟨_, blk_far hb (fun e => v1 e.symm) _, ho.setB i hi v, hv, hfg, fun j hj => by have := hlt j hj; simpa [World.setCell] using this, ⟨hk.lo0, hk.lo1, by simpa using hk.len⟩⟩
set_option maxRecDepth 100000 in
set_option maxHeartbeats 8000000 in
theorem set_calls (h : RfAt w g G X) (s : Span) (v : Bool) (hs : X.Fit s) : Calls Try.prog 106 #[.pointer (some ⟨g, 0, none⟩), .agg #[.int .i64 s.start, .int .i64 s.pages], .bool v] w fun e w' => e = .returned (.tuple #[]) ∧ RfDid G w w' g (X.set s v) := by
  have hlo := h.okX.lo0
  have hlen := h.okX.len
  have hglt := Lib.hid h.lt
  obtain ⟨a, b⟩ := s
  obtain ⟨s1, s2, s3, s4⟩ := hs
  dsimp only at s1 s2 s3 s4
  have hH := Lib.hid (h.alloc (.cells #[.int .i64 a, .int .i64 b] 90))
  obtain ⟨W1, hW1⟩ : ∃ W, W = w.alloc (.cells #[.int .i64 a, .int .i64 b] 90) := ⟨_, rfl⟩
  rw [← hW1] at hH
  have hc1 : Hid (Chg G w W1) := by show Chg _ _ _; rw [hW1]; exact Chg.alloc w _ G
  have hx1 : Hid (W1.heap[w.heap.size]? = some (.cells (⟨a, b⟩ : Span).cells 90 (0, 0))) := hW1 ▸ blk_new w _
  have hbox : Hid (∀ W, Chg G W1 W → W.cell? ⟨w.heap.size, 0, none⟩ = some (.int .i64 a) ∧ W.cell? ⟨w.heap.size, 1, none⟩ = some (.int .i64 b)) := fun W hW =>
    span_at (hW.blk hx1.out (fun hg => Nat.lt_irrefl _ (hglt.out _ hg)))
  have hfin : Hid (∀ W, Chg G W1 W → RfAt W g G (X.set ⟨a, b⟩ v) → RfDid G w W g (X.set ⟨a, b⟩ v)) := fun W hW hA => ⟨G, hA, hc1.out.trans hW (fun _ _ q => q), fun i hi => .inl hi⟩
  obtain ⟨y0, y1⟩ := hbox.out W1 (Chg.refl _ _)
  have hw2 : wrap64 (a + b) = a + b := wrap64I (by omega)
  clear h hx1 hc1
  go_enter Try.func106, Try.ntmps106
  go_wp2_with fail
  rw [← hW1]
  clear hW1
  go_wp2
  go_loopg [6] b.toNat (fun m i wr => ∃ (k : Nat) (W : World), i = .int .i64 (a + k) ∧ W = wr ∧ k + m = b.toNat ∧ Hid (RfAt W g G { X with L := setN X.L a.toNat k v }) ∧ Hid (Chg G W1 W))
  case atStart => exact ⟨0, _, by simp, rfl, by omega, hH.out, Chg.refl _ _⟩
  case round =>
    obtain ⟨k, wo, rfl, rfl, hk, hA, hC⟩ := hrel
    obtain ⟨e0, e1⟩ := hbox.out wo hC.out
    rcases Nat.lt_or_ge k b.toNat with hlt | hge
    · have hln : (setN X.L a.toNat k v).length = X.L.length := setN_len _ _ _ _
      obtain ⟨bo, c, d1, d2, d3, d4, d5, d6, d7, d8⟩ := hA.out.ownAt (by dsimp only; rw [hln]; omega)
      dsimp only at d1 d2 d6 d8
      have hst := Lib.hid (d8 (a.toNat + k) v (by rw [hln]; omega))
      rw [← setN_succ] at hst
      have hC2 : Hid (Chg G W1 (wo.setCell ⟨bo, a.toNat + k, none⟩ (.bool v))) := hC.out.trans (Chg.set wo _ d4) (fun _ _ q => q)
      rw [hln] at d1 d2
      obtain ⟨x, hx⟩ : ∃ x, (setN X.L a.toNat k v)[a.toNat + k]? = some x := ⟨_, List.getElem?_eq_getElem (by rw [hln]; omega)⟩
      have d9 := d6 _ _ hx
      have d10 := d7 (a.toNat + k)
      have i0 : 0 ≤ a + (k : Int) := by omega
      have i1 : a + (k : Int) < (X.L.length : Int) := by omega
      have i2 : (a + (k : Int)).toNat = a.toNat + k := by omega
      have i3 : a + (k : Int) < a + b := by omega
      clear d6 d7 d8 hx hln
      go_wp2
      go_roundg (gk - 1)
      case measure => omega
      case rel => exact ⟨k + 1, _, by simp; try omega, rfl, by omega, hst.out, hC2.out⟩
    · have hke : k = b.toNat := by omega
      have hF := Lib.hid (hfin.out wo hC.out (by have := hA.out; rw [hke] at this; exact this))
      have i3 : ¬ a + (k : Int) < a + b := by omega
      go_wp2
      go_end0
      exact ⟨rfl, hF.out⟩
noncomputable def Rf.claim (X : Rf) (s : Span) : Bool × Rf := if X.all s true = true then (true, X.set s false) else (false, X)
noncomputable def Rf.give (X : Rf) (s : Span) : Bool × Rf := if X.all s false = true then (true, X.set s true) else (false, X)
set_option maxRecDepth 100000 in
set_option maxHeartbeats 4000000 in
theorem rhas_calls (h : RfAt w g G X) (s : Span) : Calls Try.prog 64 #[.pointer (some ⟨g, 0, none⟩), .agg #[.int .i64 s.start, .int .i64 s.pages]] w fun e w' => e = .returned (.bool (X.all s true)) ∧ Below w.heap.size w w' := by
  have h1 := Lib.hid (all_calls (h.alloc (.cells #[.int .i64 s.start, .int .i64 s.pages] 90)) s true)
  clear h
  go_enter Try.func64, Try.ntmps64
  go_wp2_with fail
  refine h1.out.mono ?_
  rintro e w1 ⟨rfl, b1⟩
  have B1 := Lib.hid (bl_then (bl_alloc (Below.refl _ w) _) (bl_alloc (Below.refl _ w) _).size b1)
  clear b1
  go_wp2
  go_ret
  exact ⟨rfl, B1.out⟩
set_option maxRecDepth 100000 in
set_option maxHeartbeats 4000000 in
theorem rclaim_calls (h : RfAt w g G X) (s : Span) : Calls Try.prog 62 #[.pointer (some ⟨g, 0, none⟩), .agg #[.int .i64 s.start, .int .i64 s.pages]] w fun e w' => e = .returned (.bool (X.claim s).1) ∧ RfDid G w w' g (X.claim s).2 := by
  have h1 := Lib.hid (all_calls (h.alloc (.cells #[.int .i64 s.start, .int .i64 s.pages] 90)) s true)
  have HH := Lib.hid h
  have hs1 : Hid (∀ W, Below (w.alloc (.cells #[.int .i64 s.start, .int .i64 s.pages] 90)).heap.size (w.alloc (.cells #[.int .i64 s.start, .int .i64 s.pages] 90)) W → W.cell? ⟨w.heap.size, 0, none⟩ = some (.int .i64 s.start) ∧ W.cell? ⟨w.heap.size, 1, none⟩ = some (.int .i64 s.pages)) := fun W hW =>
    span_at (blk_below hW (blk_new w (.cells s.cells 90)) (by simp))
  clear h
  go_enter Try.func62, Try.ntmps62
  go_wp2_with fail
  refine h1.out.mono ?_
  rintro e w1 ⟨rfl, b1⟩
  obtain ⟨y0, y1⟩ := hs1.out w1 b1
  have B1 : Hid (Below w.heap.size w w1) := bl_then (bl_alloc (Below.refl _ w) _) (bl_alloc (Below.refl _ w) _).size b1
  clear b1
  rcases ha : X.all s true with _ | _
  · have he : Hid (X.claim s = (false, X)) := by show _ = _; unfold Rf.claim; rw [ha]; rfl
    go_wp2
    go_ret
    rw [he.out]
    exact ⟨rfl, RfDid.of_below HH.out B1.out⟩
  · have he : Hid (X.claim s = (true, X.set s false)) := by show _ = _; unfold Rf.claim; rw [ha]; rfl
    have hfit := Lib.hid (Rf.all_iff.1 ha).1
    go_wp2_with fail
    refine (set_calls (HH.out.below B1.out) s false hfit.out).mono ?_
    rintro e w2 ⟨rfl, hd⟩
    have HD := Lib.hid (hd.after (Below.chg B1.out G) (fun i hi => .inl hi))
    clear hd
    go_wp2
    go_ret
    rw [he.out]
    exact ⟨rfl, HD.out⟩
set_option maxRecDepth 100000 in
set_option maxHeartbeats 4000000 in
theorem rgive_calls (h : RfAt w g G X) (s : Span) : Calls Try.prog 63 #[.pointer (some ⟨g, 0, none⟩), .agg #[.int .i64 s.start, .int .i64 s.pages]] w fun e w' => e = .returned (.bool (X.give s).1) ∧ RfDid G w w' g (X.give s).2 := by
  have h1 := Lib.hid (all_calls (h.alloc (.cells #[.int .i64 s.start, .int .i64 s.pages] 90)) s false)
  have HH := Lib.hid h
  have hs1 : Hid (∀ W, Below (w.alloc (.cells #[.int .i64 s.start, .int .i64 s.pages] 90)).heap.size (w.alloc (.cells #[.int .i64 s.start, .int .i64 s.pages] 90)) W → W.cell? ⟨w.heap.size, 0, none⟩ = some (.int .i64 s.start) ∧ W.cell? ⟨w.heap.size, 1, none⟩ = some (.int .i64 s.pages)) := fun W hW =>
    span_at (blk_below hW (blk_new w (.cells s.cells 90)) (by simp))
  clear h
  go_enter Try.func63, Try.ntmps63
  go_wp2_with fail
  refine h1.out.mono ?_
  rintro e w1 ⟨rfl, b1⟩
  obtain ⟨y0, y1⟩ := hs1.out w1 b1
  have B1 : Hid (Below w.heap.size w w1) := bl_then (bl_alloc (Below.refl _ w) _) (bl_alloc (Below.refl _ w) _).size b1
  clear b1
  rcases ha : X.all s false with _ | _
  · have he : Hid (X.give s = (false, X)) := by show _ = _; unfold Rf.give; rw [ha]; rfl
    go_wp2
    go_ret
    rw [he.out]
    exact ⟨rfl, RfDid.of_below HH.out B1.out⟩
  · have he : Hid (X.give s = (true, X.set s true)) := by show _ = _; unfold Rf.give; rw [ha]; rfl
    have hfit := Lib.hid (Rf.all_iff.1 ha).1
    go_wp2_with fail
    refine (set_calls (HH.out.below B1.out) s true hfit.out).mono ?_
    rintro e w2 ⟨rfl, hd⟩
    have HD := Lib.hid (hd.after (Below.chg B1.out G) (fun i hi => .inl hi))
    clear hd
    go_wp2
    go_ret
    rw [he.out]
    exact ⟨rfl, HD.out⟩
end
end Go.Proofs.Ytglpckdmiohciaa
