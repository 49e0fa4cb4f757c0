/- extent.Free: Take, Claim. -/
import Derived.Test.YtglpckdmiohciaaExt5a
namespace Go.Proofs.Ytglpckdmiohciaa
open Go.RowKit
set_option linter.unusedVariables false
set_option linter.unusedSimpArgs false

def Fr.take (D : Fr) (n : Int) : (Int × Bool) × Fr :=
  if n < 1 then ((0, false), D) else if place (room ⟨0, n⟩) D.l < 0 then ((0, false), D) else
    (((D.l.getD (place (room ⟨0, n⟩) D.l).toNat default).start, true), { D with l := cutL D.l (place (room ⟨0, n⟩) D.l).toNat ⟨(D.l.getD (place (room ⟨0, n⟩) D.l).toNat default).start, n⟩ })
def Fr.claim (D : Fr) (s : Span) : Bool × Fr := if D.has s then (true, { D with l := cutL D.l (place (within s) D.l).toNat s }) else (false, D)
section
variable {w : World} {g : Nat} {F : Nat → Prop} {D : Fr}
set_option maxRecDepth 100000 in
set_option maxHeartbeats 4000000 in
theorem take_calls (h : FrAt w g F D) (n : Int) : Calls Try.prog 54 #[.pointer (some ⟨g, 0, none⟩), .int .i64 n] w fun e w' => e = .returned (.tuple #[.int .i64 (D.take n).1.1, .bool (D.take n).1.2]) ∧ FrDid F w w' g (D.take n).2 := by
  have HD := Lib.hid (FrDid.refl h)
  have HH := Lib.hid h
  rcases (Decidable.em (n < 1)) with hn | hn
  · have he : Hid (D.take n = ((0, false), D)) := by show _ = _; unfold Fr.take; rw [if_pos hn]
    go_enter Try.func54, Try.ntmps54
    go_wp2
    go_ret2
    rw [he.out]
    exact ⟨rfl, HD.out⟩
  have hrow := Lib.hid (row_room h ⟨0, n⟩)
  rcases (Decidable.em (place (room ⟨0, n⟩) D.l < 0)) with hp | hp
  · have he : Hid (D.take n = ((0, false), D)) := by show _ = _; unfold Fr.take; rw [if_neg hn, if_pos hp]
    clear h
    go_enter Try.func54, Try.ntmps54
    go_wp2_with fail
    refine hrow.out.mono ?_
    rintro e w1 ⟨rfl, b1⟩
    have B1 := Lib.hid b1
    clear b1
    go_wp2
    go_ret2
    rw [he.out]
    exact ⟨rfl, FrDid.of_below HH.out B1.out⟩
  · have he : Hid (D.take n = (((D.l.getD (place (room ⟨0, n⟩) D.l).toNat default).start, true), { D with l := cutL D.l (place (room ⟨0, n⟩) D.l).toNat ⟨(D.l.getD (place (room ⟨0, n⟩) D.l).toNat default).start, n⟩ })) := by show _ = _; unfold Fr.take; rw [if_neg hn, if_neg hp]
    obtain ⟨i, r, hpl, hir, hrm, _⟩ := place_some hp
    have hgd : D.l.getD i default = r := by rw [List.getD_eq_getElem?_getD, hir]; rfl
    have hwr : Hid (within ⟨r.start, n⟩ r = true) := by
      show _ = _
      simp only [room, decide_eq_true_eq] at hrm
      simp only [within, decide_eq_true_eq]
      omega
    rw [hpl] at he hrow hp
    rw [show ((i : Int)).toNat = i from rfl, hgd] at he
    have HI := Lib.hid hir
    have hil : i < D.l.length := (List.getElem?_eq_some_iff.1 hir).1
    have hgl := h.glt
    have hll := h.okD.len
    obtain ⟨A, c, c0, c1, c2, fz, ho, hr, hc, hv, hb⟩ := h.cells
    obtain ⟨bA, off, rfl, hbl, x0⟩ : ∃ bA off, A = some ⟨bA, off, none⟩ ∧ bA < w.heap.size ∧ w.cell? ⟨bA, off + i * 2, none⟩ = some (.int .i64 r.start) := by
      rcases hr with e | ⟨bA, off, rfl, hlt, hcell⟩
      · rw [e] at hir; simp at hir
      · exact ⟨bA, off, rfl, hlt, (Rd.span (.inr ⟨bA, off, rfl, hlt, hcell⟩) hir).1⟩
    have i0 : (0 : Int) ≤ (i : Int) := by omega
    have i1 : (i : Int) < (D.l.length : Int) := by omega
    have hK : Hid (∀ W, Below w.heap.size w W → W.cell? ⟨g, 2, none⟩ = some (.slice (some ⟨bA, off, none⟩) D.l.length c) ∧ W.cell? ⟨bA, off + i * 2, none⟩ = some (.int .i64 r.start)) := fun W hW => ⟨(hW.cell (by exact hgl)).trans c2, (hW.cell (by exact hbl)).trans x0⟩
    have hN : Hid (1 ≤ n) := by show _ ≤ _; omega
    clear h hr hv hb c0 c1 c2 fz ho hgd hpl hir hrm hp x0
    go_enter Try.func54, Try.ntmps54
    go_wp2_with fail
    refine hrow.out.mono ?_
    rintro e w1 ⟨rfl, b1⟩
    have B1 := Lib.hid b1
    obtain ⟨k2, k3⟩ := hK.out w1 b1
    clear b1
    go_wp2_with fail
    refine (cut_calls (HH.out.below B1.out) i ⟨r.start, n⟩ r HI.out hN.out hwr.out).mono ?_
    rintro e w2 ⟨rfl, hd⟩
    have HD2 := Lib.hid (hd.after (Below.chg B1.out F) (fun i hi => .inl hi))
    clear hd
    go_wp2
    go_ret2
    rw [he.out]
    exact ⟨rfl, HD2.out⟩
set_option maxRecDepth 100000 in
set_option maxHeartbeats 4000000 in
theorem claim_calls (h : FrAt w g F D) (s : Span) : Calls Try.prog 61 #[.pointer (some ⟨g, 0, none⟩), .agg #[.int .i64 s.start, .int .i64 s.pages]] w fun e w' => e = .returned (.bool (D.claim s).1) ∧ FrDid F w w' g (D.claim s).2 := by
  have hh1 := Lib.hid (h.alloc (.cells #[.int .i64 s.start, .int .i64 s.pages] 90))
  have hb1 : Hid (Below w.heap.size w (w.alloc (.cells #[.int .i64 s.start, .int .i64 s.pages] 90))) := bl_alloc (Below.refl _ w) _
  have hs1 : Hid (∀ W, Below (w.alloc (.cells #[.int .i64 s.start, .int .i64 s.pages] 90)).heap.size (w.alloc (.cells #[.int .i64 s.start, .int .i64 s.pages] 90)) W → W.cell? ⟨w.heap.size, 0, none⟩ = some (.int .i64 s.start) ∧ W.cell? ⟨w.heap.size, 1, none⟩ = some (.int .i64 s.pages)) := fun W hW =>
    span_at (blk_below hW (blk_new w (.cells s.cells 90)) (by simp))
  have HH := Lib.hid h
  clear h
  go_enter Try.func61, Try.ntmps61
  go_wp2_with fail
  refine (fhas_calls hh1.out s).mono ?_
  rintro e w1 ⟨rfl, b1⟩
  have B1 : Hid (Below w.heap.size w w1) := bl_then hb1.out hb1.out.size b1
  have hS1 : Hid (∀ W, Below w1.heap.size w1 W → W.cell? ⟨w.heap.size, 0, none⟩ = some (.int .i64 s.start) ∧ W.cell? ⟨w.heap.size, 1, none⟩ = some (.int .i64 s.pages)) := fun W hW => hs1.out W (bl_then b1 b1.size hW)
  clear b1
  rcases ht : D.has s with _ | _
  · have he : Hid (D.claim s = (false, D)) := by show _ = _; unfold Fr.claim; rw [ht]; rfl
    go_wp2
    go_ret
    rw [he.out]
    exact ⟨rfl, FrDid.of_below HH.out B1.out⟩
  · have ht2 := ht
    simp only [Fr.has, Bool.and_eq_true, decide_eq_true_eq] at ht2
    have hF := Lib.hid (Fr.there_fits (s := s) HH.out.okD ht2.1)
    have hpg : Hid (1 ≤ s.pages) := by have := ht2.1; simp only [Fr.there, decide_eq_true_eq] at this; exact this.1
    obtain ⟨i, r, hpl, hir, hrm, _⟩ := place_some (show ¬ place (within s) D.l < 0 by omega)
    have he : Hid (D.claim s = (true, { D with l := cutL D.l i s })) := by show _ = _; unfold Fr.claim; rw [ht, hpl]; rfl
    have hpl := Lib.hid hpl
    have hir := Lib.hid hir
    have hwr := Lib.hid hrm
    have h1 := Lib.hid (HH.out.below B1.out)
    have hb0 : Hid (Below w1.heap.size w1 w1.drew) := (Below.refl _ w1).drew
    clear ht2 hrm
    go_wp2_with fail
    refine wp_region_noPanic ?_
    refine wp_regionZ 7 (fun W => Hid (Below w1.heap.size w1 W)) (by kernel_rfl) ?_
    refine AnyZ.takeU [7] (i := 0) (oi := ⟨some 9, _, _, _, _, _⟩) (v := ?_) rfl (by kernel_rfl) (by kernel_rfl) (by kernel_rfl) (by kernel_rfl) (by kernel_rfl) (by kernel_rfl) (fun _ _ _ h => h) (Or.inl ⟨by rfl, ?_⟩) (by assumption) ?_
    rotate_left
    · (intro w hSw; (try dsimp only at hSw); obtain ⟨y0, y1⟩ := hS1.out _ hSw.out; (go_simp <;> with_reducible rfl))
    try simp only [Act.put, List.setIfInBounds_toArray, List.set_cons_zero, List.set_cons_succ]
    refine AnyZ.takeU [7, 5] (i := 1) (oi := ⟨some 10, _, _, _, _, _⟩) (v := ?_) rfl (by kernel_rfl) (by kernel_rfl) (by kernel_rfl) (by kernel_rfl) (by kernel_rfl) (by kernel_rfl) (fun _ _ _ h => h) (Or.inl ⟨by rfl, ?_⟩) (by assumption) ?_
    rotate_left
    · (intro w hSw; (try dsimp only at hSw); obtain ⟨y0, y1⟩ := hS1.out _ hSw.out; (go_simp <;> with_reducible rfl))
    try simp only [Act.put, List.setIfInBounds_toArray, List.set_cons_zero, List.set_cons_succ]
    refine AnyZ.takeU [7, 5, 4, 3] (i := 2) (oi := ⟨some 11, _, _, _, _, _⟩) (v := ?_) rfl (by kernel_rfl) (by kernel_rfl) (by kernel_rfl) (by kernel_rfl) (by kernel_rfl) (by kernel_rfl) (fun _ _ _ h => h) (Or.inl ⟨by rfl, ?_⟩) (by assumption) ?_
    rotate_left
    · (intro w hSw; (try dsimp only at hSw); obtain ⟨y0, y1⟩ := hS1.out _ hSw.out; (go_simp <;> with_reducible rfl))
    try simp only [Act.put, List.setIfInBounds_toArray, List.set_cons_zero, List.set_cons_succ]
    refine AnyZ.takeU [7, 5, 4] (i := 3) (oi := ⟨some 12, _, _, _, _, _⟩) (v := ?_) rfl (by kernel_rfl) (by kernel_rfl) (by kernel_rfl) (by kernel_rfl) (by kernel_rfl) (by kernel_rfl) (fun _ _ _ h => h) (Or.inl ⟨by rfl, ?_⟩) (by assumption) ?_
    rotate_left
    · (intro w hSw; (try dsimp only at hSw); obtain ⟨y0, y1⟩ := hS1.out _ hSw.out; (go_simp <;> with_reducible rfl))
    try simp only [Act.put, List.setIfInBounds_toArray, List.set_cons_zero, List.set_cons_succ]
    refine AnyZ.takeU [7, 5] (i := 4) (oi := ⟨some 13, _, _, _, _, _⟩) (v := ?_) rfl (by kernel_rfl) (by kernel_rfl) (by kernel_rfl) (by kernel_rfl) (by kernel_rfl) (by kernel_rfl) (fun _ _ _ h => h) (Or.inl ⟨by rfl, ?_⟩) (by assumption) ?_
    rotate_left
    · (intro w hSw; (try dsimp only at hSw); obtain ⟨y0, y1⟩ := hS1.out _ hSw.out; (go_simp <;> with_reducible rfl))
    try simp only [Act.put, List.setIfInBounds_toArray, List.set_cons_zero, List.set_cons_succ]
    refine AnyZ.takeU [7] (i := 6) (oi := ⟨some 15, _, _, _, _, _⟩) (v := ?_) rfl (by kernel_rfl) (by kernel_rfl) (by kernel_rfl) (by kernel_rfl) (by kernel_rfl) (by kernel_rfl) (fun _ _ _ h => h) (Or.inl ⟨by rfl, ?_⟩) (by assumption) ?_
    rotate_left
    · (intro w hSw; (try dsimp only at hSw); obtain ⟨y0, y1⟩ := hS1.out _ hSw.out; (go_simp <;> with_reducible rfl))
    try simp only [Act.put, List.setIfInBounds_toArray, List.set_cons_zero, List.set_cons_succ]
    refine AnyZ.one (i := 5) (by kernel_rfl) rfl (fun K hK => ?_)
    go_simp
    go_at_call 95
    with_reducible refine (row_within (h1.out.below hb0.out) s hF.out).mono ?_
    rintro e w2 ⟨rfl, b2⟩
    have B2 : Hid (Below w1.heap.size w1 w2) := bl_then hb0.out hb0.out.size b2
    clear b2
    refine hK.out _ _ (.inr (by assumption)) ?_
    clear hK K
    try simp only [Act.put, List.setIfInBounds_toArray, List.set_cons_zero, List.set_cons_succ]
    refine AnyZ.one (i := 7) (by kernel_rfl) rfl (fun K hK => ?_)
    go_simp
    go_at_call 97
    refine (cut_calls (h1.out.below B2.out) i s r hir.out hpg.out hwr.out).mono ?_
    rintro e w3 ⟨rfl, hd3⟩
    have HD3 := Lib.hid (hd3.after (Below.chg B2.out F) (fun i hi => .inl hi))
    clear hd3
    refine hK.out _ _ (.inl rfl) ?_
    clear hK K
    try simp only [Act.put, List.setIfInBounds_toArray, List.set_cons_zero, List.set_cons_succ]
    refine AnyZ.done (by kernel_rfl) ?_ _
    refine NoPanic.normal ?_
    go_wp2
    go_ret
    rw [he.out]
    exact ⟨rfl, HD3.out.after (Below.chg B1.out F) (fun i hi => .inl hi)⟩
end
end Go.Proofs.Ytglpckdmiohciaa
