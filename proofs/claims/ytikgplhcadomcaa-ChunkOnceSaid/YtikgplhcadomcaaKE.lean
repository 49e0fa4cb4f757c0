/- extent.Free: Give. -/
import Derived.Test.YtikgplhcadomcaaKD
namespace Go.Proofs.Ytikgplhcadomcaa
open Go.RowKit
set_option linter.unusedVariables false
set_option linter.unusedSimpArgs false

section
variable {w : World} {g : Nat} {F : Nat → Prop} {D : Fr}
/-- What the loop is given: the rows, in blocks of the call's own, and the set without any. -/
theorem GiveA.go {wa w5 : World} {s : Span} {v : Value} {xs : List Span} (h : GiveA w wa g F D s) (ho : Own Span.enc 2 33 wa.heap.size w5 v xs) (hb : Below wa.heap.size wa w5) : ∃ A c, v = .slice A xs.length c ∧ xs.length ≤ c ∧ c ≤ 9223372036854775807 ∧ GiveI w (w5.setCell ⟨g, 2, none⟩ (.slice none 0 0)) g F { D with l := [] } A xs := by
  obtain ⟨A, c, rfl, h1, h2, h3, h4⟩ := ho.rd Span.ok
  have a5 := h.h.below hb
  have hg := a5.glt
  have hga := h.h.glt
  obtain ⟨B, cc, c0, c1, c2, fz, _, hr, hc, hv, hbk⟩ := a5.cells
  have hk : Fr.Ok { D with l := [] } := ⟨a5.okD.lo0, a5.okD.lo1, a5.okD.n0, a5.okD.n1, trivial⟩
  have hbl : ∀ a, A = some a → a.block < w5.heap.size := fun a ha => by
    rcases ho.2 with ⟨e0, _⟩ | ⟨g', cap, cur, e0, hb', hh, _⟩
    · rw [ha] at e0; cases e0
    · rw [ha] at e0; cases e0; exact blk_lt hh
  refine ⟨A, c, rfl, h1, h2, F, ⟨_, blk_set' hbk 2 _ rfl, Own.nil, (fun k e => by cases e), a5.fg, (fun i hi => by have := a5.lt i hi; simpa [World.setCell] using this), hk⟩, fun i hi => .inl hi, ?_, ?_, fun a ha => ⟨fun hf => ?_, ?_⟩⟩
  · exact ((Below.chg h.b F).trans (Below.chg hb F) (fun _ _ q => q)).trans (Chg.set w5 _ a5.fg) (fun _ _ q => q)
  · exact h3.far (fun a ha => by have := h4 a ha; omega) _
  · have := h4 a ha
    have := h.h.lt _ hf
    omega
  · have := hbl a ha
    simpa [World.setCell] using this
set_option maxRecDepth 100000 in
set_option maxHeartbeats 8000000 in
theorem give_calls (h : FrAt w g F D) (s : Span) : Calls Try.prog 36 #[.pointer (some ⟨g, 0, none⟩), .agg #[.int .i64 s.start, .int .i64 s.pages]] w fun e w' => e = .returned (.bool (D.give s).1) ∧ FrDid F w w' g (D.give s).2 := by
  have HA := Lib.hid (GiveA.begin h s)
  have HH := Lib.hid h
  have hok := Lib.hid h.okD
  have hll := h.okD.len
  have hs1 : Hid (∀ W wa, GiveA w wa g F D s → Below wa.heap.size wa W → W.cell? ⟨w.heap.size, 0, none⟩ = some (.int .i64 s.start) ∧ W.cell? ⟨w.heap.size, 1, none⟩ = some (.int .i64 s.pages)) := fun W wa h hW => span_at (h.below hW).s
  clear h
  go_enter Try.func36, Try.ntmps36
  go_wp2_with fail
  refine (there_calls HA.out.h s).mono ?_
  rintro e w1 ⟨rfl, b1⟩
  have HA1 := Lib.hid (HA.out.below b1)
  clear b1
  rcases ht : D.there s with _ | _
  · have he : Hid (D.give s = (false, D)) := by show _ = _; unfold Fr.give Fr.free; rw [ht]; rfl
    go_wp2
    go_ret
    rw [he.out]
    exact ⟨rfl, FrDid.of_below HH.out HA1.out.b⟩
  have hF := Lib.hid (Fr.there_fits hok.out ht)
  have ht2 := ht
  simp only [Fr.there, decide_eq_true_eq] at ht2
  have ht2 := Lib.hid ht2
  obtain ⟨y0, y1⟩ := hs1.out w1 w1 HA1.out (Below.refl _ _)
  go_wp2_with fail
  refine (row_meets HA1.out.h s hF.out).mono ?_
  rintro e w2 ⟨rfl, b2⟩
  have HA2 := Lib.hid (HA1.out.below b2)
  clear b2 HA1 y0 y1
  rcases (Decidable.em (place (meets s) D.l < 0)) with hp | hp
  case' inr =>
    have he : Hid (D.give s = (false, D)) := by show _ = _; unfold Fr.give Fr.free; rw [ht]; simp [hp]
    have hp' : (0 : Int) ≤ place (meets s) D.l := by omega
    go_wp2
    go_ret
    rw [he.out]
    exact ⟨rfl, FrDid.of_below HH.out HA2.out.b⟩
  have he : Hid (D.give s = (true, { D with l := giveL D.l s })) := by show _ = _; unfold Fr.give Fr.free; rw [ht]; simp [hp]
  have hm := Lib.hid (place_neg.1 hp)
  obtain ⟨y0, y1⟩ := hs1.out w2 w2 HA2.out (Below.refl _ _)
  go_wp2_with fail
  refine (row_behind HA2.out.h s hF.out).mono ?_
  rintro e w3 ⟨rfl, b3⟩
  have HA3 := Lib.hid (HA2.out.below b3)
  clear b3 HA2 y0 y1 hp
  go_upto_if 28 with (fail)
  go_cut [5] (fun s5 wx => s5 = .int .i64 (insAt D.l s : Nat) ∧ Hid (GiveA w wx g F D s))
  case first =>
    rcases (Decidable.em (place (behind s) D.l < 0)) with hb | hb
    · have hi : Hid (insAt D.l s = D.l.length) := by show _ = _; unfold insAt; rw [if_pos hb]
      obtain ⟨A, c, -, -, c2, -⟩ := HA3.out.h.cells
      go_wp2_with fail
      go_meet
      exact ⟨by rw [hi.out], HA3.out⟩
    · have hi : Hid (((insAt D.l s : Nat) : Int) = place (behind s) D.l) := by show _ = _; unfold insAt; rw [if_neg hb]; omega
      go_wp2_with fail
      go_meet
      exact ⟨by rw [hi.out], HA3.out⟩
  case rest =>
    obtain ⟨rfl, hcut⟩ := hcut
    have HA4 := Lib.hid hcut
    clear hcut HA3
    go_upto_region 6 with (fail)
    obtain ⟨wa, hwa⟩ : ∃ wa : World, wa = wc := ⟨_, rfl⟩
    subst hwa
    go_cut [6] (fun s6 wx => Hid (Own Span.enc 2 33 wa.heap.size wx s6 (insL D.l s)) ∧ Hid (Below wa.heap.size wa wx))
    case first =>
      obtain ⟨A, c, -, -, c2, -, ho, hr, -⟩ := HA4.out.h.cells
      have hgl := HA4.out.h.glt
      have hR := Lib.hid hr
      have hlen : Hid (D.l.length ≤ 1000000000) := by show _ ≤ _; omega
      have hlen2 : Hid (D.l.length ≤ 1000000) := by show _ ≤ _; omega
      have hia := Lib.hid (insAt_le D.l s)
      have hb0 : Hid (Below wa.heap.size wa wa.drew) := (Below.refl _ wa).drew
      have hC : Hid (∀ W, Below wa.heap.size wa W → W.cell? ⟨g, 2, none⟩ = some (.slice A D.l.length c) ∧ W.cell? ⟨w.heap.size, 0, none⟩ = some (.int .i64 s.start) ∧ W.cell? ⟨w.heap.size, 1, none⟩ = some (.int .i64 s.pages)) := fun W hW =>
        ⟨(hW.cell (by exact hgl)).trans c2, hs1.out W wa HA4.out hW⟩
      clear c2 ho hr
      refine wp_region_noPanic ?_
      refine wp_region_held_drew (S := fun W => Hid (Below wa.heap.size wa W)) (by kernel_rfl) (hb0) (fun hHeld => ?_)
      refine wpAnyH_take (i := 0) (oi := ⟨some 34, _, _, _, _, _⟩) (v := ?_) rfl (by kernel_rfl) (by kernel_rfl) (by kernel_rfl) (fun _ _ _ h => h) (Or.inl ⟨by rfl, ?_⟩) (by assumption) ?_
      rotate_left
      · (intro w hSw; (try dsimp only at hSw); obtain ⟨y0, y1, y2⟩ := hC.out _ hSw.out; (go_simp <;> with_reducible rfl))
      try simp only [Act.put, List.setIfInBounds_toArray, List.set_cons_zero, List.set_cons_succ]
      refine wpAnyH_take (i := 1) (oi := ⟨some 35, _, _, _, _, _⟩) (v := ?_) rfl (by kernel_rfl) (by kernel_rfl) (by kernel_rfl) (fun _ _ _ h => h) (Or.inl ⟨by rfl, ?_⟩) (by assumption) ?_
      rotate_left
      · (intro w hSw; (try dsimp only at hSw); obtain ⟨y0, y1, y2⟩ := hC.out _ hSw.out; (go_simp <;> with_reducible rfl))
      try simp only [Act.put, List.setIfInBounds_toArray, List.set_cons_zero, List.set_cons_succ]
      refine wpAnyH_take (i := 2) (oi := ⟨some 36, _, _, _, _, _⟩) (v := ?_) rfl (by kernel_rfl) (by kernel_rfl) (by kernel_rfl) (fun _ _ _ h => h) (Or.inl ⟨by rfl, ?_⟩) (by assumption) ?_
      rotate_left
      · (intro w hSw; (try dsimp only at hSw); obtain ⟨y0, y1, y2⟩ := hC.out _ hSw.out; (go_simp <;> with_reducible rfl))
      try simp only [Act.put, List.setIfInBounds_toArray, List.set_cons_zero, List.set_cons_succ]
      refine wpAnyH_take (i := 3) (oi := ⟨some 37, _, _, _, _, _⟩) (v := ?_) rfl (by kernel_rfl) (by kernel_rfl) (by kernel_rfl) (fun _ _ _ h => h) (Or.inl ⟨by rfl, ?_⟩) (by assumption) ?_
      rotate_left
      · (intro w hSw; (try dsimp only at hSw); obtain ⟨y0, y1, y2⟩ := hC.out _ hSw.out; (go_simp <;> with_reducible rfl))
      try simp only [Act.put, List.setIfInBounds_toArray, List.set_cons_zero, List.set_cons_succ]
      refine wpAnyH_take (i := 5) (oi := ⟨some 39, _, _, _, _, _⟩) (v := ?_) rfl (by kernel_rfl) (by kernel_rfl) (by kernel_rfl) (fun _ _ _ h => h) (Or.inl ⟨by rfl, ?_⟩) (by assumption) ?_
      rotate_left
      · (intro w hSw; (try dsimp only at hSw); obtain ⟨y0, y1, y2⟩ := hC.out _ hSw.out; (go_simp <;> with_reducible rfl))
      try simp only [Act.put, List.setIfInBounds_toArray, List.set_cons_zero, List.set_cons_succ]
      refine wpAnyH_take (i := 6) (oi := ⟨some 40, _, _, _, _, _⟩) (v := ?_) rfl (by kernel_rfl) (by kernel_rfl) (by kernel_rfl) (fun _ _ _ h => h) (Or.inl ⟨by rfl, ?_⟩) (by assumption) ?_
      rotate_left
      · (intro w hSw; (try dsimp only at hSw); obtain ⟨y0, y1, y2⟩ := hC.out _ hSw.out; (go_simp <;> with_reducible rfl))
      try simp only [Act.put, List.setIfInBounds_toArray, List.set_cons_zero, List.set_cons_succ]
      refine wpAnyH_ready (rs := [4, 7]) (by kernel_rfl) (by simp) ?_
      refine AllReadyH.cons rfl (fun K hK => ?_) (AllReadyH.cons rfl (fun K hK => ?_) AllReadyH.nil)
      · skip
        go_simp
        go_at_call 69
        refine (cloneSpan_calls _ A c D.l (hR.out.below hb0.out (Nat.le_refl _)) hlen.out).mono ?_
        rintro e w2 ⟨A2, e2, rfl, o2, b2⟩
        have B2 : Hid (Below wa.heap.size wa w2) := bl_then hb0.out hb0.out.size b2
        have O2 : Hid (Own Span.enc 2 33 wa.heap.size w2 _ D.l) := o2.mono (show wa.heap.size ≤ wa.drew.heap.size from Nat.le_refl _)
        clear o2 b2
        refine hK.out _ _ (by assumption) (fun _ => ?_)
        clear hK K
        try simp only [Act.put, List.setIfInBounds_toArray, List.set_cons_zero, List.set_cons_succ]
        refine wpAnyH_ready (rs := [7]) (by kernel_rfl) (by simp) ?_
        refine AllReadyH.cons rfl (fun K hK => ?_) AllReadyH.nil
        go_simp
        have B3 : Hid (Below wa.heap.size wa (w2.alloc (.cells #[.int .i64 s.start, .int .i64 s.pages] 33))) := B2.out.alloc B2.out.size _
        have O3 := Lib.hid (O2.out.alloc (.cells #[.int .i64 s.start, .int .i64 s.pages] 33))
        have X3 := Lib.hid (blk_new w2 (.cells s.cells 33))
        have N3 : Hid ((Value.slice A2 D.l.length e2).ownBlock ≠ some w2.heap.size) := fun q => Nat.lt_irrefl _ (O2.out.lt _ q).2
        refine hK.out _ _ (by assumption) (fun _ => ?_)
        clear hK K
        try simp only [Act.put, List.setIfInBounds_toArray, List.set_cons_zero, List.set_cons_succ]
        refine wpAnyH_ready (rs := [8]) (by kernel_rfl) (by simp) ?_
        refine AllReadyH.cons rfl (fun K hK => ?_) AllReadyH.nil
        go_simp
        go_at_call 68
        refine (insert_calls (base := wa.heap.size) (x := s) O3.out B3.out.size X3.out hia.out hlen2.out N3.out).mono ?_
        rintro e w5 ⟨v5, rfl, o5, b5⟩
        have O5 := Lib.hid o5
        have B5 : Hid (Below wa.heap.size wa w5) := B3.out.trans b5
        clear o5 b5
        refine hK.out _ _ (by assumption) (fun _ => ?_)
        clear hK K
        try simp only [Act.put, List.setIfInBounds_toArray, List.set_cons_zero, List.set_cons_succ]
        refine wpAnyH_take (i := 9) (oi := ⟨some 6, _, _, _, _, _⟩) (v := ?_) rfl (by kernel_rfl) (by kernel_rfl) (by kernel_rfl) (fun _ _ _ h => h) (Or.inl ⟨by rfl, ?_⟩) (by assumption) ?_
        rotate_left
        · (intro w hSw; (try dsimp only at hSw); obtain ⟨y0, y1, y2⟩ := hC.out _ hSw.out; (go_simp <;> with_reducible rfl))
        try simp only [Act.put, List.setIfInBounds_toArray, List.set_cons_zero, List.set_cons_succ]
        refine wpAnyH_done (by kernel_rfl) ?_ _
        refine NoPanic.normal ?_
        go_wp2_with fail
        go_meet
        exact ⟨O5.out, B5.out⟩
      · skip
        go_simp
        obtain ⟨wb, hwb⟩ : ∃ wb, wb = (wa.alloc (.cells #[.int .i64 s.start, .int .i64 s.pages] 33)).drew := ⟨_, rfl⟩
        have B2 : Hid (Below wa.heap.size wa wb) := hwb ▸ ((Below.refl _ wa).alloc (Nat.le_refl _) _).drew
        have X2 : Hid (wb.heap[wa.heap.size]? = some (.cells s.cells 33 (0, 0))) := hwb ▸ blk_drew (blk_new wa _)
        have Z2 : Hid (wb.heap.size = wa.heap.size + 1) := by subst hwb; exact World.size_alloc _ _
        rw [← hwb]
        clear hwb
        refine hK.out _ _ (by assumption) (fun _ => ?_)
        clear hK K
        try simp only [Act.put, List.setIfInBounds_toArray, List.set_cons_zero, List.set_cons_succ]
        refine wpAnyH_ready (rs := [4]) (by kernel_rfl) (by simp) ?_
        refine AllReadyH.cons rfl (fun K hK => ?_) AllReadyH.nil
        go_simp
        go_at_call 69
        refine (cloneSpan_calls _ A c D.l (hR.out.below B2.out (Nat.le_refl _)) hlen.out).mono ?_
        rintro e w2 ⟨A2, e2, rfl, o2, b2⟩
        have B3 : Hid (Below wa.heap.size wa w2) := bl_then B2.out B2.out.size b2
        have O3 : Hid (Own Span.enc 2 33 wa.heap.size w2 _ D.l) := o2.mono B2.out.size
        have X3 : Hid (w2.heap[wa.heap.size]? = some (.cells s.cells 33 (0, 0))) := blk_below b2 X2.out (blk_lt X2.out)
        have N3 : Hid ((Value.slice A2 D.l.length e2).ownBlock ≠ some wa.heap.size) := fun q => by have := (o2.lt _ q).1; have := Z2.out; omega
        clear o2 b2
        refine hK.out _ _ (by assumption) (fun _ => ?_)
        clear hK K
        try simp only [Act.put, List.setIfInBounds_toArray, List.set_cons_zero, List.set_cons_succ]
        refine wpAnyH_ready (rs := [8]) (by kernel_rfl) (by simp) ?_
        refine AllReadyH.cons rfl (fun K hK => ?_) AllReadyH.nil
        go_simp
        go_at_call 68
        refine (insert_calls (base := wa.heap.size) (x := s) O3.out B3.out.size X3.out hia.out hlen2.out N3.out).mono ?_
        rintro e w5 ⟨v5, rfl, o5, b5⟩
        have O5 := Lib.hid o5
        have B5 : Hid (Below wa.heap.size wa w5) := B3.out.trans b5
        clear o5 b5
        refine hK.out _ _ (by assumption) (fun _ => ?_)
        clear hK K
        try simp only [Act.put, List.setIfInBounds_toArray, List.set_cons_zero, List.set_cons_succ]
        refine wpAnyH_take (i := 9) (oi := ⟨some 6, _, _, _, _, _⟩) (v := ?_) rfl (by kernel_rfl) (by kernel_rfl) (by kernel_rfl) (fun _ _ _ h => h) (Or.inl ⟨by rfl, ?_⟩) (by assumption) ?_
        rotate_left
        · (intro w hSw; (try dsimp only at hSw); obtain ⟨y0, y1, y2⟩ := hC.out _ hSw.out; (go_simp <;> with_reducible rfl))
        try simp only [Act.put, List.setIfInBounds_toArray, List.set_cons_zero, List.set_cons_succ]
        refine wpAnyH_done (by kernel_rfl) ?_ _
        refine NoPanic.normal ?_
        go_wp2_with fail
        go_meet
        exact ⟨O5.out, B5.out⟩
    case rest =>
      obtain ⟨o5, b5⟩ := hcut
      obtain ⟨A, c, e6, hc6, hc7, hgi⟩ := HA4.out.go o5.out b5.out
      subst e6
      obtain ⟨_, _, -, -, z2, zf, -⟩ := (HA4.out.h.below b5.out).cells
      have zf2 := zf 2
      clear zf
      clear HA4 o5 b5
      have hgi := Lib.hid hgi
      have hth := ht2.out
      have hri : Hid (Rise D.lo D.n (insL D.l s)) := ins_rise s hth.1 (by omega) hok.out.norm.rise hth.2.1 hm.out
      have hln : Hid ((insL D.l s).length = D.l.length + 1) := ins_len _ _
      have hkk : Hid (∀ k, Fr.Ok { D with l := joinL ((insL D.l s).take k) }) := fun k => ⟨hok.out.lo0, hok.out.lo1, hok.out.n0, hok.out.n1, (joins (acc := []) (lo := D.lo) (m := D.lo) trivial (Int.le_refl _) (by omega) (hri.out.take k)).1⟩
      have hgv : Hid (joinL (insL D.l s) = giveL D.l s) := rfl
      have hle : (insL D.l s).length ≤ 16385 := by have := hln.out; omega
      have hmm : Hid (∀ x ∈ insL D.l s, 0 ≤ x.start ∧ 1 ≤ x.pages ∧ x.start + x.pages ≤ 16384) := fun x hx => by
        have := hri.out.mem x hx
        have := hok.out.lo0
        have := hok.out.n1
        omega
      generalize insL D.l s = L at *
      clear ht2 hri hth hm hs1
      go_wp2
      go_loopg [48] L.length (fun m i wr => ∃ k : Nat, i = .int .i64 k ∧ k + m = L.length ∧ Hid (GiveI w wr g F { D with l := joinL (L.take k) } A L))
      case atStart => exact ⟨0, rfl, by omega, hgi.out⟩
      case round =>
        obtain ⟨k, rfl, hk, hg⟩ := hrel
        rcases Nat.lt_or_ge k L.length with hlt | hge
        · have hx : L[k]? = some L[k] := List.getElem?_eq_getElem hlt
          have hm3 := hmm.out _ (List.getElem_mem hlt)
          obtain ⟨bL, oL, rfl⟩ : ∃ bL oL, A = some ⟨bL, oL, none⟩ := by
            rcases hg.out.rd with e | ⟨b, off, e, _⟩
            · simp [e] at hlt
            · exact ⟨b, off, e⟩
          obtain ⟨c0, c1⟩ := Rd.span hg.out.rd hx
          have hjn : Hid (joinL (L.take (k + 1)) = joinR (joinL (L.take k)) L[k]) := by show _ = _; unfold joinL; rw [List.take_add_one, hx, List.foldl_append]; rfl
          have hk1 := Lib.hid (hkk.out k)
          have hk2 := hkk.out (k + 1)
          rw [hjn.out] at hk2
          generalize L[k] = r at *
          generalize joinL (L.take k) = acc at *
          have hk2 := Lib.hid hk2
          have i0 : (0 : Int) ≤ (k : Int) := by omega
          have i1 : (k : Int) < (L.length : Int) := by omega
          obtain ⟨r1, r2, r3⟩ := hm3
          have hGr := Lib.hid (hg.out.below ((Below.refl _ wr).alloc (Nat.le_refl _) (.cells #[.int .i64 r.start, .int .i64 r.pages] 33)))
          have hrr := Lib.hid (blk_new wr (.cells r.cells 33))
          have hGf := Lib.hid (hg.out.fresh r)
          obtain ⟨B, cc, d2, df, dg, dc, dm, -, -⟩ := hGr.out.cells
          clear hx
          go_upto_region 12 with (fail)
          generalize hwb : wr.alloc (.cells #[.int .i64 r.start, .int .i64 r.pages] 33) = wb at *
          replace hrr : Hid (wb.heap[wr.heap.size]? = some (.cells r.cells 33 (0, 0))) := hwb ▸ hrr.out
          obtain ⟨br, hbr⟩ : ∃ br, br = wr.heap.size := ⟨_, rfl⟩
          rw [← hbr] at hrr hGf ⊢
          clear hwb hbr c0 c1 hg
          obtain ⟨bb, hbb⟩ : ∃ bb : Bool, bb = (match acc.getLast? with | some y => decide (y.start + y.pages = r.start) | none => false) := ⟨_, rfl⟩
          have hb0 : Hid (Below wb.heap.size wb wb.drew) := (Below.refl _ wb).drew
          go_cut [72] (fun s72 wx => s72 = .bool bb ∧ Hid (GiveI w wx g F { D with l := acc } (some ⟨bL, oL, none⟩) L) ∧ Hid (wx.heap[br]? = some (.cells r.cells 33 (0, 0))) ∧ Hid (GiveI w wx g F { D with l := acc } (some ⟨br, 0, none⟩) [r]))
          case first =>
            rcases Nat.eq_zero_or_pos acc.length with h0 | h0
            · obtain rfl : acc = [] := List.eq_nil_of_length_eq_zero h0
              have hB : Hid (bb = false) := hbb
              clear hbb h0
              have hC : Hid (∀ W, Below wb.heap.size wb W → W.cell? ⟨g, 2, none⟩ = some (.slice B 0 cc) ∧ W.cell? ⟨br, 0, none⟩ = some (.int .i64 r.start) ∧ W.cell? ⟨br, 1, none⟩ = some (.int .i64 r.pages)) := fun W hW =>
                ⟨(hW.cell (by exact dg)).trans d2, (span_at (blk_below hW hrr.out (blk_lt hrr.out))).1, (span_at (blk_below hW hrr.out (blk_lt hrr.out))).2⟩
              refine wp_region_noPanic ?_
              refine wp_region_held_drew (S := fun W => Hid (Below wb.heap.size wb W)) (by kernel_rfl) (hb0) (fun hHeld => ?_)
              refine wpAnyH_take (i := 0) (oi := ⟨some 57, _, _, _, _, _⟩) (v := ?_) rfl (by kernel_rfl) (by kernel_rfl) (by kernel_rfl) (fun _ _ _ h => h) (Or.inl ⟨by rfl, ?_⟩) (by assumption) ?_
              rotate_left
              · (intro w hSw; (try dsimp only at hSw); obtain ⟨y0, y1, y2⟩ := hC.out _ hSw.out; (go_simp <;> with_reducible rfl))
              try simp only [Act.put, List.setIfInBounds_toArray, List.set_cons_zero, List.set_cons_succ]
              refine wpAnyH_take (i := 1) (oi := ⟨some 58, _, _, _, _, _⟩) (v := ?_) rfl (by kernel_rfl) (by kernel_rfl) (by kernel_rfl) (fun _ _ _ h => h) (Or.inl ⟨by rfl, ?_⟩) (by assumption) ?_
              rotate_left
              · (intro w hSw; (try dsimp only at hSw); obtain ⟨y0, y1, y2⟩ := hC.out _ hSw.out; (go_simp <;> with_reducible rfl))
              try simp only [Act.put, List.setIfInBounds_toArray, List.set_cons_zero, List.set_cons_succ]
              refine wpAnyH_take (i := 2) (oi := ⟨some 59, _, _, _, _, _⟩) (v := ?_) rfl (by kernel_rfl) (by kernel_rfl) (by kernel_rfl) (fun _ _ _ h => h) (Or.inl ⟨by rfl, ?_⟩) (by assumption) ?_
              rotate_left
              · (intro w hSw; (try dsimp only at hSw); obtain ⟨y0, y1, y2⟩ := hC.out _ hSw.out; (go_simp <;> with_reducible rfl))
              try simp only [Act.put, List.setIfInBounds_toArray, List.set_cons_zero, List.set_cons_succ]
              refine wpAnyH_take (i := 3) (oi := ⟨some 60, _, _, _, _, _⟩) rfl (by kernel_rfl) (by kernel_rfl) (by kernel_rfl) (fun _ _ _ h => h) (Or.inr ⟨by rfl, rfl⟩) (by assumption) ?_
              try simp only [Act.put, List.setIfInBounds_toArray, List.set_cons_zero, List.set_cons_succ]
              refine wpAnyH_take (i := 4) (oi := ⟨some 61, _, _, _, _, _⟩) rfl (by kernel_rfl) (by kernel_rfl) (by kernel_rfl) (fun _ _ _ h => h) (Or.inr ⟨by rfl, rfl⟩) (by assumption) ?_
              try simp only [Act.put, List.setIfInBounds_toArray, List.set_cons_zero, List.set_cons_succ]
              refine wpAnyH_take (i := 5) (oi := ⟨some 62, _, _, _, _, _⟩) rfl (by kernel_rfl) (by kernel_rfl) (by kernel_rfl) (fun _ _ _ h => h) (Or.inr ⟨by rfl, rfl⟩) (by assumption) ?_
              try simp only [Act.put, List.setIfInBounds_toArray, List.set_cons_zero, List.set_cons_succ]
              refine wpAnyH_take (i := 6) (oi := ⟨some 63, _, _, _, _, _⟩) rfl (by kernel_rfl) (by kernel_rfl) (by kernel_rfl) (fun _ _ _ h => h) (Or.inr ⟨by rfl, rfl⟩) (by assumption) ?_
              try simp only [Act.put, List.setIfInBounds_toArray, List.set_cons_zero, List.set_cons_succ]
              refine wpAnyH_take (i := 7) (oi := ⟨some 64, _, _, _, _, _⟩) rfl (by kernel_rfl) (by kernel_rfl) (by kernel_rfl) (fun _ _ _ h => h) (Or.inr ⟨by rfl, rfl⟩) (by assumption) ?_
              try simp only [Act.put, List.setIfInBounds_toArray, List.set_cons_zero, List.set_cons_succ]
              refine wpAnyH_take (i := 8) (oi := ⟨some 65, _, _, _, _, _⟩) rfl (by kernel_rfl) (by kernel_rfl) (by kernel_rfl) (fun _ _ _ h => h) (Or.inr ⟨by rfl, rfl⟩) (by assumption) ?_
              try simp only [Act.put, List.setIfInBounds_toArray, List.set_cons_zero, List.set_cons_succ]
              refine wpAnyH_take (i := 9) (oi := ⟨some 66, _, _, _, _, _⟩) rfl (by kernel_rfl) (by kernel_rfl) (by kernel_rfl) (fun _ _ _ h => h) (Or.inr ⟨by rfl, rfl⟩) (by assumption) ?_
              try simp only [Act.put, List.setIfInBounds_toArray, List.set_cons_zero, List.set_cons_succ]
              refine wpAnyH_take (i := 10) (oi := ⟨some 67, _, _, _, _, _⟩) rfl (by kernel_rfl) (by kernel_rfl) (by kernel_rfl) (fun _ _ _ h => h) (Or.inr ⟨by rfl, rfl⟩) (by assumption) ?_
              try simp only [Act.put, List.setIfInBounds_toArray, List.set_cons_zero, List.set_cons_succ]
              refine wpAnyH_take (i := 11) (oi := ⟨some 68, _, _, _, _, _⟩) rfl (by kernel_rfl) (by kernel_rfl) (by kernel_rfl) (fun _ _ _ h => h) (Or.inr ⟨by rfl, rfl⟩) (by assumption) ?_
              try simp only [Act.put, List.setIfInBounds_toArray, List.set_cons_zero, List.set_cons_succ]
              refine wpAnyH_take (i := 12) (oi := ⟨some 69, _, _, _, _, _⟩) rfl (by kernel_rfl) (by kernel_rfl) (by kernel_rfl) (fun _ _ _ h => h) (Or.inr ⟨by rfl, rfl⟩) (by assumption) ?_
              try simp only [Act.put, List.setIfInBounds_toArray, List.set_cons_zero, List.set_cons_succ]
              refine wpAnyH_take (i := 13) (oi := ⟨some 70, _, _, _, _, _⟩) rfl (by kernel_rfl) (by kernel_rfl) (by kernel_rfl) (fun _ _ _ h => h) (Or.inr ⟨by rfl, rfl⟩) (by assumption) ?_
              try simp only [Act.put, List.setIfInBounds_toArray, List.set_cons_zero, List.set_cons_succ]
              refine wpAnyH_take (i := 14) (oi := ⟨some 71, _, _, _, _, _⟩) rfl (by kernel_rfl) (by kernel_rfl) (by kernel_rfl) (fun _ _ _ h => h) (Or.inr ⟨by rfl, rfl⟩) (by assumption) ?_
              try simp only [Act.put, List.setIfInBounds_toArray, List.set_cons_zero, List.set_cons_succ]
              refine wpAnyH_take (i := 15) (oi := ⟨some 72, _, _, _, _, _⟩) (v := ?_) rfl (by kernel_rfl) (by kernel_rfl) (by kernel_rfl) (fun _ _ _ h => h) (Or.inl ⟨by rfl, ?_⟩) (by assumption) ?_
              rotate_left
              · (intro w hSw; (try dsimp only at hSw); obtain ⟨y0, y1, y2⟩ := hC.out _ hSw.out; (go_simp <;> with_reducible rfl))
              try simp only [Act.put, List.setIfInBounds_toArray, List.set_cons_zero, List.set_cons_succ]
              refine wpAnyH_done (by kernel_rfl) ?_ _
              refine NoPanic.normal ?_
              go_wp2_with fail
              go_meet
              exact ⟨by rw [hB.out], hGr.out.below hb0.out, blk_below hb0.out hrr.out (blk_lt hrr.out), hGf.out.below hb0.out⟩
            · obtain ⟨B', cc', e2, ef, eg, ec, em, eo, el⟩ := hGr.out.cells
              obtain ⟨b, y, rfl, lb, nb, hy, y0, y1, yf⟩ := el h0
              rw [d2] at e2
              cases e2
              have hyn := hk1.out.norm.mem y (List.mem_of_getLast? hy)
              have hlo := hok.out.lo0
              have hn1 := hok.out.n1
              have hal := hk1.out.len
              dsimp only at hyn hal
              have hfy : Hid (Num (y.start + y.pages)) := by show _ ∧ _; omega
              have hB : Hid (bb = (y.start + y.pages == r.start)) := by show _ = _; rw [hbb, hy]; rfl
              have wr1 : IntKind.i64.wrap ((acc.length : Int) - 1) = (acc.length : Int) - 1 := wrapI (by omega)
              have g0 : (0 : Int) < (acc.length : Int) := by omega
              have g1 : (0 : Int) ≤ (acc.length : Int) - 1 := by omega
              have g2 : ((acc.length : Int) - 1).toNat = acc.length - 1 := by omega
              have g3 : (acc.length : Int) - 1 < (acc.length : Int) := by omega
              have g4 : (1 : Int) ≤ (acc.length : Int) := by omega
              have g5 : acc.length - 1 < acc.length := by omega
              have hC : Hid (∀ W, Below wb.heap.size wb W → W.cell? ⟨g, 2, none⟩ = some (.slice (some ⟨b, 0, none⟩) acc.length cc) ∧ W.cell? ⟨br, 0, none⟩ = some (.int .i64 r.start) ∧ W.cell? ⟨br, 1, none⟩ = some (.int .i64 r.pages) ∧ W.cell? ⟨b, (acc.length - 1) * 2, none⟩ = some (.int .i64 y.start) ∧ W.cell? ⟨b, (acc.length - 1) * 2 + 1, none⟩ = some (.int .i64 y.pages)) := fun W hW =>
                ⟨(hW.cell (by exact dg)).trans d2, (span_at (blk_below hW hrr.out (blk_lt hrr.out))).1, (span_at (blk_below hW hrr.out (blk_lt hrr.out))).2, (hW.cell (by exact lb)).trans y0, (hW.cell (by exact lb)).trans y1⟩
              clear hbb hy y0 y1 yf eo el d2 hyn
              refine wp_region_noPanic ?_
              refine wp_region_held_drew (S := fun W => Hid (Below wb.heap.size wb W)) (by kernel_rfl) (hb0) (fun hHeld => ?_)
              refine wpAnyH_take (i := 0) (oi := ⟨some 57, _, _, _, _, _⟩) (v := ?_) rfl (by kernel_rfl) (by kernel_rfl) (by kernel_rfl) (fun _ _ _ h => h) (Or.inl ⟨by rfl, ?_⟩) (by assumption) ?_
              rotate_left
              · (intro w hSw; (try dsimp only at hSw); obtain ⟨y0, y1, y2, y3, y4⟩ := hC.out _ hSw.out; (go_simp <;> with_reducible rfl))
              try simp only [Act.put, List.setIfInBounds_toArray, List.set_cons_zero, List.set_cons_succ]
              refine wpAnyH_take (i := 1) (oi := ⟨some 58, _, _, _, _, _⟩) (v := ?_) rfl (by kernel_rfl) (by kernel_rfl) (by kernel_rfl) (fun _ _ _ h => h) (Or.inl ⟨by rfl, ?_⟩) (by assumption) ?_
              rotate_left
              · (intro w hSw; (try dsimp only at hSw); obtain ⟨y0, y1, y2, y3, y4⟩ := hC.out _ hSw.out; (go_simp <;> with_reducible rfl))
              try simp only [Act.put, List.setIfInBounds_toArray, List.set_cons_zero, List.set_cons_succ]
              refine wpAnyH_take (i := 2) (oi := ⟨some 59, _, _, _, _, _⟩) (v := ?_) rfl (by kernel_rfl) (by kernel_rfl) (by kernel_rfl) (fun _ _ _ h => h) (Or.inl ⟨by rfl, ?_⟩) (by assumption) ?_
              rotate_left
              · (intro w hSw; (try dsimp only at hSw); obtain ⟨y0, y1, y2, y3, y4⟩ := hC.out _ hSw.out; (go_simp <;> with_reducible rfl))
              try simp only [Act.put, List.setIfInBounds_toArray, List.set_cons_zero, List.set_cons_succ]
              refine wpAnyH_take (i := 3) (oi := ⟨some 60, _, _, _, _, _⟩) (v := ?_) rfl (by kernel_rfl) (by kernel_rfl) (by kernel_rfl) (fun _ _ _ h => h) (Or.inl ⟨by rfl, ?_⟩) (by assumption) ?_
              rotate_left
              · (intro w hSw; (try dsimp only at hSw); obtain ⟨y0, y1, y2, y3, y4⟩ := hC.out _ hSw.out; (go_simp <;> with_reducible rfl))
              try simp only [Act.put, List.setIfInBounds_toArray, List.set_cons_zero, List.set_cons_succ]
              refine wpAnyH_take (i := 4) (oi := ⟨some 61, _, _, _, _, _⟩) (v := ?_) rfl (by kernel_rfl) (by kernel_rfl) (by kernel_rfl) (fun _ _ _ h => h) (Or.inl ⟨by rfl, ?_⟩) (by assumption) ?_
              rotate_left
              · (intro w hSw; (try dsimp only at hSw); obtain ⟨y0, y1, y2, y3, y4⟩ := hC.out _ hSw.out; (go_simp <;> with_reducible rfl))
              try simp only [Act.put, List.setIfInBounds_toArray, List.set_cons_zero, List.set_cons_succ]
              refine wpAnyH_take (i := 5) (oi := ⟨some 62, _, _, _, _, _⟩) (v := ?_) rfl (by kernel_rfl) (by kernel_rfl) (by kernel_rfl) (fun _ _ _ h => h) (Or.inl ⟨by rfl, ?_⟩) (by assumption) ?_
              rotate_left
              · (intro w hSw; (try dsimp only at hSw); obtain ⟨y0, y1, y2, y3, y4⟩ := hC.out _ hSw.out; (go_simp <;> with_reducible rfl))
              try simp only [Act.put, List.setIfInBounds_toArray, List.set_cons_zero, List.set_cons_succ]
              refine wpAnyH_take (i := 6) (oi := ⟨some 63, _, _, _, _, _⟩) (v := ?_) rfl (by kernel_rfl) (by kernel_rfl) (by kernel_rfl) (fun _ _ _ h => h) (Or.inl ⟨by rfl, ?_⟩) (by assumption) ?_
              rotate_left
              · (intro w hSw; (try dsimp only at hSw); obtain ⟨y0, y1, y2, y3, y4⟩ := hC.out _ hSw.out; (go_simp <;> with_reducible rfl))
              try simp only [Act.put, List.setIfInBounds_toArray, List.set_cons_zero, List.set_cons_succ]
              refine wpAnyH_take (i := 7) (oi := ⟨some 64, _, _, _, _, _⟩) (v := ?_) rfl (by kernel_rfl) (by kernel_rfl) (by kernel_rfl) (fun _ _ _ h => h) (Or.inl ⟨by rfl, ?_⟩) (by assumption) ?_
              rotate_left
              · (intro w hSw; (try dsimp only at hSw); obtain ⟨y0, y1, y2, y3, y4⟩ := hC.out _ hSw.out; (go_simp <;> with_reducible rfl))
              try simp only [Act.put, List.setIfInBounds_toArray, List.set_cons_zero, List.set_cons_succ]
              refine wpAnyH_take (i := 8) (oi := ⟨some 65, _, _, _, _, _⟩) (v := ?_) rfl (by kernel_rfl) (by kernel_rfl) (by kernel_rfl) (fun _ _ _ h => h) (Or.inl ⟨by rfl, ?_⟩) (by assumption) ?_
              rotate_left
              · (intro w hSw; (try dsimp only at hSw); obtain ⟨y0, y1, y2, y3, y4⟩ := hC.out _ hSw.out; (go_simp <;> with_reducible rfl))
              try simp only [Act.put, List.setIfInBounds_toArray, List.set_cons_zero, List.set_cons_succ]
              refine wpAnyH_take (i := 9) (oi := ⟨some 66, _, _, _, _, _⟩) (v := ?_) rfl (by kernel_rfl) (by kernel_rfl) (by kernel_rfl) (fun _ _ _ h => h) (Or.inl ⟨by rfl, ?_⟩) (by assumption) ?_
              rotate_left
              · (intro w hSw; (try dsimp only at hSw); obtain ⟨y0, y1, y2, y3, y4⟩ := hC.out _ hSw.out; (go_simp <;> with_reducible rfl))
              try simp only [Act.put, List.setIfInBounds_toArray, List.set_cons_zero, List.set_cons_succ]
              refine wpAnyH_take (i := 10) (oi := ⟨some 67, _, _, _, _, _⟩) (v := ?_) rfl (by kernel_rfl) (by kernel_rfl) (by kernel_rfl) (fun _ _ _ h => h) (Or.inl ⟨by rfl, ?_⟩) (by assumption) ?_
              rotate_left
              · (intro w hSw; (try dsimp only at hSw); obtain ⟨y0, y1, y2, y3, y4⟩ := hC.out _ hSw.out; (go_simp <;> with_reducible rfl))
              try simp only [Act.put, List.setIfInBounds_toArray, List.set_cons_zero, List.set_cons_succ]
              refine wpAnyH_take (i := 12) (oi := ⟨some 69, _, _, _, _, _⟩) (v := ?_) rfl (by kernel_rfl) (by kernel_rfl) (by kernel_rfl) (fun _ _ _ h => h) (Or.inl ⟨by rfl, ?_⟩) (by assumption) ?_
              rotate_left
              · (intro w hSw; (try dsimp only at hSw); obtain ⟨y0, y1, y2, y3, y4⟩ := hC.out _ hSw.out; (go_simp <;> with_reducible rfl))
              try simp only [Act.put, List.setIfInBounds_toArray, List.set_cons_zero, List.set_cons_succ]
              refine wpAnyH_take (i := 13) (oi := ⟨some 70, _, _, _, _, _⟩) (v := ?_) rfl (by kernel_rfl) (by kernel_rfl) (by kernel_rfl) (fun _ _ _ h => h) (Or.inl ⟨by rfl, ?_⟩) (by assumption) ?_
              rotate_left
              · (intro w hSw; (try dsimp only at hSw); obtain ⟨y0, y1, y2, y3, y4⟩ := hC.out _ hSw.out; (go_simp <;> with_reducible rfl))
              try simp only [Act.put, List.setIfInBounds_toArray, List.set_cons_zero, List.set_cons_succ]
              refine wpAnyH_ready (rs := [11]) (by kernel_rfl) (by simp) ?_
              refine AllReadyH.cons rfl (fun K hK => ?_) AllReadyH.nil
              go_simp
              go_at_call 70
              refine (end_calls _ y.start y.pages hfy.out).mono ?_
              rintro e w2 ⟨rfl, b2⟩
              have B2 : Hid (Below wb.heap.size wb w2) := bl_then hb0.out hb0.out.size b2
              clear b2
              refine hK.out _ _ (by assumption) (fun _ => ?_)
              clear hK K
              try simp only [Act.put, List.setIfInBounds_toArray, List.set_cons_zero, List.set_cons_succ]
              refine wpAnyH_take (i := 14) (oi := ⟨some 71, _, _, _, _, _⟩) (v := ?_) rfl (by kernel_rfl) (by kernel_rfl) (by kernel_rfl) (fun _ _ _ h => h) (Or.inl ⟨by rfl, ?_⟩) (by assumption) ?_
              rotate_left
              · (intro w hSw; (try dsimp only at hSw); obtain ⟨y0, y1, y2, y3, y4⟩ := hC.out _ hSw.out; (go_simp <;> with_reducible rfl))
              try simp only [Act.put, List.setIfInBounds_toArray, List.set_cons_zero, List.set_cons_succ]
              refine wpAnyH_take (i := 15) (oi := ⟨some 72, _, _, _, _, _⟩) (v := ?_) rfl (by kernel_rfl) (by kernel_rfl) (by kernel_rfl) (fun _ _ _ h => h) (Or.inl ⟨by rfl, ?_⟩) (by assumption) ?_
              rotate_left
              · (intro w hSw; (try dsimp only at hSw); obtain ⟨y0, y1, y2, y3, y4⟩ := hC.out _ hSw.out; (go_simp <;> with_reducible rfl))
              try simp only [Act.put, List.setIfInBounds_toArray, List.set_cons_zero, List.set_cons_succ]
              refine wpAnyH_done (by kernel_rfl) ?_ _
              refine NoPanic.normal ?_
              go_wp2_with fail
              go_meet
              exact ⟨by rw [hB.out], hGr.out.below B2.out, blk_below B2.out hrr.out (blk_lt hrr.out), hGf.out.below B2.out⟩
          case rest =>
            obtain ⟨rfl, hGd, hrd, hGe⟩ := hcut
            clear hGr hrr d2 df dg dc hb0
            obtain ⟨B, cc, d2, df, dg, dc, dm, hoo, hel⟩ := hGd.out.cells
            obtain ⟨wd, hwd⟩ : ∃ wd : World, wd = wc := ⟨_, rfl⟩
            subst hwd
            obtain ⟨r0, r1'⟩ := span_at hrd.out
            have hal := hk1.out.len
            dsimp only at d2 dc hoo hel hal
            have hS0 : Hid (wd.drew = wd.drew) := rfl
            have hb0 : Hid (Below wd.heap.size wd wd.drew) := (Below.refl _ wd).drew
            rcases bb with _ | _
            · have hsn : Hid (joinR acc r = acc ++ [r]) := joinR_snoc fun y hy => by
                rw [hy] at hbb
                simpa using hbb.symm
              have hk7 : Hid (Fr.Ok { D with l := acc ++ [r] }) := hsn.out ▸ hk2.out
              have nn : Hid ([r] ≠ []) := by show _ ≠ _; simp
              have t1 : Hid ((Value.agg #[.int .i64 0, .int .i64 0]).cells.size = 2) := rfl
              have q1 : Hid (acc.length + 1 ≤ 140737488355328) := by show _ ≤ _; omega
              have q2 : Hid ((acc.length + 1) * 16 ≤ 140737488355328) := by show _ ≤ _; omega
              have hC : Hid (∀ W, Below wd.heap.size wd W → W.cell? ⟨g, 2, none⟩ = some (.slice B acc.length cc) ∧ W.cell? ⟨br, 0, none⟩ = some (.int .i64 r.start) ∧ W.cell? ⟨br, 1, none⟩ = some (.int .i64 r.pages) ∧ W.frozen? ⟨g, 2, none⟩ = false) := fun W hW =>
                ⟨(hW.cell (by exact dg)).trans d2, (span_at (blk_below hW hrd.out (blk_lt hrd.out))).1, (span_at (blk_below hW hrd.out (blk_lt hrd.out))).2, (hW.frozen (by exact dg)).trans df⟩
              have hoo := Lib.hid hoo
              have hgg : Hid (g < wd.heap.size) := dg
              have hng : Hid ((Value.slice B acc.length cc).ownBlock ≠ some g) := by
                obtain ⟨F', a, _⟩ := hGd.out
                obtain ⟨B2, c2, -, -, e2, -, -, -, -, hv, -⟩ := a.cells
                rw [d2] at e2
                cases e2
                exact fun q => (hv g q).1 rfl
              have hnr : Hid ((Value.slice B acc.length cc).ownBlock ≠ some br) := by
                obtain ⟨F', a, _, _, _, e⟩ := hGe.out
                obtain ⟨B2, c2, -, -, e2, -, -, -, -, hv, -⟩ := a.cells
                rw [d2] at e2
                cases e2
                exact fun q => (e _ rfl).1 (hv br q).2
              have hrl : Hid (br < wd.heap.size) := blk_lt hrd.out
              have hSb := Lib.hid (hC.out _ hb0.out)
              clear hbb hel d2 df dc r0 r1' dg
              go_wp2_with fail
              refine wp_region_noPanic ?_
              refine wp_regionZ 10 (fun W => Hid (W.cell? ⟨g, 2, none⟩ = some (.slice B acc.length cc) ∧ W.cell? ⟨br, 0, none⟩ = some (.int .i64 r.start) ∧ W.cell? ⟨br, 1, none⟩ = some (.int .i64 r.pages) ∧ W.frozen? ⟨g, 2, none⟩ = false)) (by kernel_rfl) ?_
              refine AnyZ.takeU [10] (i := 0) (oi := ⟨some 87, _, _, _, _, _⟩) (v := ?_) rfl (by kernel_rfl) (by kernel_rfl) (by kernel_rfl) (by kernel_rfl) (by kernel_rfl) (by kernel_rfl) (fun _ _ _ h => h) (Or.inl ⟨by rfl, ?_⟩) (by assumption) ?_
              rotate_left
              · (intro w hSw; (try dsimp only at hSw); obtain ⟨y0, y1, y2, y3⟩ := hSw.out; (go_simp <;> with_reducible rfl))
              try simp only [Act.put, List.setIfInBounds_toArray, List.set_cons_zero, List.set_cons_succ]
              refine AnyZ.takeU [10] (i := 1) (oi := ⟨some 88, _, _, _, _, _⟩) (v := ?_) rfl (by kernel_rfl) (by kernel_rfl) (by kernel_rfl) (by kernel_rfl) (by kernel_rfl) (by kernel_rfl) (fun _ _ _ h => h) (Or.inl ⟨by rfl, ?_⟩) (by assumption) ?_
              rotate_left
              · (intro w hSw; (try dsimp only at hSw); obtain ⟨y0, y1, y2, y3⟩ := hSw.out; (go_simp <;> with_reducible rfl))
              try simp only [Act.put, List.setIfInBounds_toArray, List.set_cons_zero, List.set_cons_succ]
              refine AnyZ.takeU [10] (i := 2) (oi := ⟨some 89, _, _, _, _, _⟩) (v := ?_) rfl (by kernel_rfl) (by kernel_rfl) (by kernel_rfl) (by kernel_rfl) (by kernel_rfl) (by kernel_rfl) (fun _ _ _ h => h) (Or.inl ⟨by rfl, ?_⟩) (by assumption) ?_
              rotate_left
              · (intro w hSw; (try dsimp only at hSw); obtain ⟨y0, y1, y2, y3⟩ := hSw.out; (go_simp <;> with_reducible rfl))
              try simp only [Act.put, List.setIfInBounds_toArray, List.set_cons_zero, List.set_cons_succ]
              refine AnyZ.takeU [10] (i := 3) (oi := ⟨some 90, _, _, _, _, _⟩) (v := ?_) rfl (by kernel_rfl) (by kernel_rfl) (by kernel_rfl) (by kernel_rfl) (by kernel_rfl) (by kernel_rfl) (fun _ _ _ h => h) (Or.inl ⟨by rfl, ?_⟩) (by assumption) ?_
              rotate_left
              · (intro w hSw; (try dsimp only at hSw); obtain ⟨y0, y1, y2, y3⟩ := hSw.out; (go_simp <;> with_reducible rfl))
              try simp only [Act.put, List.setIfInBounds_toArray, List.set_cons_zero, List.set_cons_succ]
              refine AnyZ.takeU [10] (i := 4) (oi := ⟨some 91, _, _, _, _, _⟩) (v := ?_) rfl (by kernel_rfl) (by kernel_rfl) (by kernel_rfl) (by kernel_rfl) (by kernel_rfl) (by kernel_rfl) (fun _ _ _ h => h) (Or.inl ⟨by rfl, ?_⟩) (by assumption) ?_
              rotate_left
              · (intro w hSw; (try dsimp only at hSw); obtain ⟨y0, y1, y2, y3⟩ := hSw.out; (go_simp <;> with_reducible rfl))
              try simp only [Act.put, List.setIfInBounds_toArray, List.set_cons_zero, List.set_cons_succ]
              refine AnyZ.takeU [10] (i := 5) (oi := ⟨some 92, _, _, _, _, _⟩) (v := ?_) rfl (by kernel_rfl) (by kernel_rfl) (by kernel_rfl) (by kernel_rfl) (by kernel_rfl) (by kernel_rfl) (fun _ _ _ h => h) (Or.inl ⟨by rfl, ?_⟩) (by assumption) ?_
              rotate_left
              · (intro w hSw; (try dsimp only at hSw); obtain ⟨y0, y1, y2, y3⟩ := hSw.out; (go_simp <;> with_reducible rfl))
              try simp only [Act.put, List.setIfInBounds_toArray, List.set_cons_zero, List.set_cons_succ]
              refine AnyZ.one (i := 6) (by kernel_rfl) rfl (fun K hK => ?_)
              go_simp
              have B3 : Hid (Below wd.heap.size wd ((wd.alloc (.cells #[.int .i64 r.start, .int .i64 r.pages] 33)).drew)) := ((Below.refl _ wd).alloc (Nat.le_refl _) _).drew
              have O3 : Hid (Own Span.enc 2 33 0 ((wd.alloc (.cells #[.int .i64 r.start, .int .i64 r.pages] 33)).drew) (.slice B acc.length cc) acc) := (hoo.out.alloc _).drew
              have G3 := Lib.hid (hGd.out.below B3.out)
              have C3 := Lib.hid (hC.out _ B3.out)
              have Z3 : Hid (g < ((wd.alloc (.cells #[.int .i64 r.start, .int .i64 r.pages] 33)).drew).heap.size) := Nat.lt_of_lt_of_le hgg.out B3.out.size
              refine hK.out _ _ (.inr (by assumption)) ?_
              clear hK K
              try simp only [Act.put, List.setIfInBounds_toArray, List.set_cons_zero, List.set_cons_succ]
              refine AnyZ.one (i := 7) (by kernel_rfl) rfl (fun K hK => ?_)
              refine at_step rfl (op_ownN Span.ok _ _ _ _ _ _ rfl Try.underlying46 infoSpan t1.out 0 (.slice B acc.length cc) acc (some ⟨wd.heap.size, 0, none⟩) 1 [r] 1 rfl nn.out rfl rfl O3.out (Rd.lit (blk_drew (blk_new wd _)) rfl) (Nat.zero_le _) q2.out q1.out ?_)
              intro g7 cap w7 ho7 hg7 hat7 hlt7
              have hG7 := Lib.hid (G3.out.snoc (D := { D with l := acc }) C3.out.1 ho7 hg7 (fun q e => by cases e; exact hat7) hk7.out)
              have hgn : some g ≠ (Value.slice B acc.length cc).ownBlock := fun e => hng.out e.symm
              have kk7 := (World.cell?_of_block (a := ⟨g, 2, none⟩) (hg7.block g Z3.out hgn)).trans C3.out.1
              have kr7 : ∀ j, w7.cell? ⟨br, j, none⟩ = _ := fun j => World.cell?_of_block (a := ⟨br, j, none⟩) (hg7.block br (Nat.lt_of_lt_of_le hrl.out B3.out.size) (fun e => hnr.out e.symm))
              have kf7 := (World.frozen?_of_block (a := ⟨g, 2, none⟩) (hg7.block g Z3.out hgn)).trans C3.out.2.2.2
              have hSc : Hid (_ ∧ _ ∧ _ ∧ _) := ⟨kk7, (kr7 0).trans C3.out.2.1, (kr7 1).trans C3.out.2.2.1, kf7⟩
              clear ho7 hg7 hgn
              refine hK.out _ _ (.inr (by assumption)) ?_
              clear hK K
              try simp only [Act.put, List.setIfInBounds_toArray, List.set_cons_zero, List.set_cons_succ]
              refine AnyZ.takeU [10, 9] (i := 8) (oi := ⟨some 95, _, _, _, _, _⟩) (v := ?_) rfl (by kernel_rfl) (by kernel_rfl) (by kernel_rfl) (by kernel_rfl) (by kernel_rfl) (by kernel_rfl) (fun _ _ _ h => h) (Or.inl ⟨by rfl, ?_⟩) (by assumption) ?_
              rotate_left
              · (intro w hSw; (try dsimp only at hSw); obtain ⟨y0, y1, y2, y3⟩ := hSw.out; (go_simp <;> with_reducible rfl))
              try simp only [Act.put, List.setIfInBounds_toArray, List.set_cons_zero, List.set_cons_succ]
              refine AnyZ.takeU [10] (i := 9) (oi := ⟨some 96, _, _, _, _, _⟩) (v := ?_) rfl (by kernel_rfl) (by kernel_rfl) (by kernel_rfl) (by kernel_rfl) (by kernel_rfl) (by kernel_rfl) (fun _ _ _ h => h) (Or.inl ⟨by rfl, ?_⟩) (by assumption) ?_
              rotate_left
              · (intro w hSw; (try dsimp only at hSw); obtain ⟨y0, y1, y2, y3⟩ := hSw.out; (go_simp <;> with_reducible rfl))
              try simp only [Act.put, List.setIfInBounds_toArray, List.set_cons_zero, List.set_cons_succ]
              refine AnyZ.one (i := 10) (by kernel_rfl) rfl (fun K hK => ?_)
              go_simp
              refine hK.out _ _ (.inl rfl) ?_
              clear hK K
              try simp only [Act.put, List.setIfInBounds_toArray, List.set_cons_zero, List.set_cons_succ]
              refine AnyZ.done (by kernel_rfl) ?_ _
              refine NoPanic.normal ?_
              go_wp2_with fail
              go_roundg (gk - 1)
              case measure => omega
              case rel => exact ⟨k + 1, by go_num, by omega, by rw [hjn.out, hsn.out]; exact hG7.out⟩
            · obtain ⟨y, hy, hyr⟩ : ∃ y, acc.getLast? = some y ∧ y.start + y.pages = r.start := by
                cases hy : acc.getLast? with
                | none => rw [hy] at hbb; cases hbb
                | some y => rw [hy] at hbb; exact ⟨y, rfl, by simpa using hbb⟩
              have hl0 : 0 < acc.length := by
                cases acc with
                | nil => cases hy
                | cons a l => simp
              obtain ⟨b, y', rfl, lb, nb, hy', y0, y1, yf⟩ := hel hl0
              rw [hy] at hy'
              cases hy'
              have hla : Hid (joinR acc r = lastPages acc (y.pages + r.pages)) := joinR_last hy hyr
              have hk7 : Hid (Fr.Ok { D with l := lastPages acc (y.pages + r.pages) }) := hla.out ▸ hk2.out
              have hyn := hk1.out.norm.mem y (List.mem_of_getLast? hy)
              have hlo := hok.out.lo0
              have hn1 := hok.out.n1
              dsimp only at hyn
              obtain ⟨hy1, hy2, hy3⟩ := hyn
              have hG7 : Hid (GiveI w (wd.drew.setCell ⟨b, (acc.length - 1) * 2 + 1, none⟩ (.int .i64 (y.pages + r.pages))) g F { D with l := lastPages acc (y.pages + r.pages) } (some ⟨bL, oL, none⟩) L) :=
                (hGd.out.below hb0.out).bump (D := { D with l := acc }) (c := cc) (by exact ((hb0.out.cell (by exact dg)).trans d2)) hl0 _ hk7.out
              have wr1 : IntKind.i64.wrap ((acc.length : Int) - 1) = (acc.length : Int) - 1 := wrapI (by omega)
              have wr2 : IntKind.i64.wrap (y.pages + r.pages) = y.pages + r.pages := wrapI (by omega)
              have g1 : (0 : Int) ≤ (acc.length : Int) - 1 := by omega
              have g2 : ((acc.length : Int) - 1).toNat = acc.length - 1 := by omega
              have g3 : (acc.length : Int) - 1 < (acc.length : Int) := by omega
              have g4 : (1 : Int) ≤ (acc.length : Int) := by omega
              have g5 : acc.length - 1 < acc.length := by omega
              have yf1 := yf ((acc.length - 1) * 2 + 1)
              clear hbb hel hy hyr hoo dc df nb lb yf y0 hS0
              go_wp2_with fail
              have hS0 : Hid (wd.drew = wd.drew) := rfl
              refine wp_region_noPanic ?_
              refine wp_regionZ 14 (fun W => Hid (W = wd.drew)) (by kernel_rfl) ?_
              refine AnyZ.takeU [14] (i := 0) (oi := ⟨some 73, _, _, _, _, _⟩) (v := ?_) rfl (by kernel_rfl) (by kernel_rfl) (by kernel_rfl) (by kernel_rfl) (by kernel_rfl) (by kernel_rfl) (fun _ _ _ h => h) (Or.inl ⟨by rfl, ?_⟩) (by assumption) ?_
              rotate_left
              · (intro w hSw; (try dsimp only at hSw); have hSe := hSw.out; subst hSe; (go_simp <;> with_reducible rfl))
              try simp only [Act.put, List.setIfInBounds_toArray, List.set_cons_zero, List.set_cons_succ]
              refine AnyZ.takeU [14] (i := 1) (oi := ⟨some 74, _, _, _, _, _⟩) (v := ?_) rfl (by kernel_rfl) (by kernel_rfl) (by kernel_rfl) (by kernel_rfl) (by kernel_rfl) (by kernel_rfl) (fun _ _ _ h => h) (Or.inl ⟨by rfl, ?_⟩) (by assumption) ?_
              rotate_left
              · (intro w hSw; (try dsimp only at hSw); have hSe := hSw.out; subst hSe; (go_simp <;> with_reducible rfl))
              try simp only [Act.put, List.setIfInBounds_toArray, List.set_cons_zero, List.set_cons_succ]
              refine AnyZ.takeU [14] (i := 2) (oi := ⟨some 75, _, _, _, _, _⟩) (v := ?_) rfl (by kernel_rfl) (by kernel_rfl) (by kernel_rfl) (by kernel_rfl) (by kernel_rfl) (by kernel_rfl) (fun _ _ _ h => h) (Or.inl ⟨by rfl, ?_⟩) (by assumption) ?_
              rotate_left
              · (intro w hSw; (try dsimp only at hSw); have hSe := hSw.out; subst hSe; (go_simp <;> with_reducible rfl))
              try simp only [Act.put, List.setIfInBounds_toArray, List.set_cons_zero, List.set_cons_succ]
              refine AnyZ.takeU [14] (i := 3) (oi := ⟨some 76, _, _, _, _, _⟩) (v := ?_) rfl (by kernel_rfl) (by kernel_rfl) (by kernel_rfl) (by kernel_rfl) (by kernel_rfl) (by kernel_rfl) (fun _ _ _ h => h) (Or.inl ⟨by rfl, ?_⟩) (by assumption) ?_
              rotate_left
              · (intro w hSw; (try dsimp only at hSw); have hSe := hSw.out; subst hSe; (go_simp <;> with_reducible rfl))
              try simp only [Act.put, List.setIfInBounds_toArray, List.set_cons_zero, List.set_cons_succ]
              refine AnyZ.takeU [14] (i := 4) (oi := ⟨some 77, _, _, _, _, _⟩) (v := ?_) rfl (by kernel_rfl) (by kernel_rfl) (by kernel_rfl) (by kernel_rfl) (by kernel_rfl) (by kernel_rfl) (fun _ _ _ h => h) (Or.inl ⟨by rfl, ?_⟩) (by assumption) ?_
              rotate_left
              · (intro w hSw; (try dsimp only at hSw); have hSe := hSw.out; subst hSe; (go_simp <;> with_reducible rfl))
              try simp only [Act.put, List.setIfInBounds_toArray, List.set_cons_zero, List.set_cons_succ]
              refine AnyZ.takeU [14] (i := 5) (oi := ⟨some 78, _, _, _, _, _⟩) (v := ?_) rfl (by kernel_rfl) (by kernel_rfl) (by kernel_rfl) (by kernel_rfl) (by kernel_rfl) (by kernel_rfl) (fun _ _ _ h => h) (Or.inl ⟨by rfl, ?_⟩) (by assumption) ?_
              rotate_left
              · (intro w hSw; (try dsimp only at hSw); have hSe := hSw.out; subst hSe; (go_simp <;> with_reducible rfl))
              try simp only [Act.put, List.setIfInBounds_toArray, List.set_cons_zero, List.set_cons_succ]
              refine AnyZ.takeU [14] (i := 6) (oi := ⟨some 79, _, _, _, _, _⟩) (v := ?_) rfl (by kernel_rfl) (by kernel_rfl) (by kernel_rfl) (by kernel_rfl) (by kernel_rfl) (by kernel_rfl) (fun _ _ _ h => h) (Or.inl ⟨by rfl, ?_⟩) (by assumption) ?_
              rotate_left
              · (intro w hSw; (try dsimp only at hSw); have hSe := hSw.out; subst hSe; (go_simp <;> with_reducible rfl))
              try simp only [Act.put, List.setIfInBounds_toArray, List.set_cons_zero, List.set_cons_succ]
              refine AnyZ.takeU [14] (i := 7) (oi := ⟨some 80, _, _, _, _, _⟩) (v := ?_) rfl (by kernel_rfl) (by kernel_rfl) (by kernel_rfl) (by kernel_rfl) (by kernel_rfl) (by kernel_rfl) (fun _ _ _ h => h) (Or.inl ⟨by rfl, ?_⟩) (by assumption) ?_
              rotate_left
              · (intro w hSw; (try dsimp only at hSw); have hSe := hSw.out; subst hSe; (go_simp <;> with_reducible rfl))
              try simp only [Act.put, List.setIfInBounds_toArray, List.set_cons_zero, List.set_cons_succ]
              refine AnyZ.takeU [14] (i := 8) (oi := ⟨some 81, _, _, _, _, _⟩) (v := ?_) rfl (by kernel_rfl) (by kernel_rfl) (by kernel_rfl) (by kernel_rfl) (by kernel_rfl) (by kernel_rfl) (fun _ _ _ h => h) (Or.inl ⟨by rfl, ?_⟩) (by assumption) ?_
              rotate_left
              · (intro w hSw; (try dsimp only at hSw); have hSe := hSw.out; subst hSe; (go_simp <;> with_reducible rfl))
              try simp only [Act.put, List.setIfInBounds_toArray, List.set_cons_zero, List.set_cons_succ]
              refine AnyZ.takeU [14] (i := 9) (oi := ⟨some 82, _, _, _, _, _⟩) (v := ?_) rfl (by kernel_rfl) (by kernel_rfl) (by kernel_rfl) (by kernel_rfl) (by kernel_rfl) (by kernel_rfl) (fun _ _ _ h => h) (Or.inl ⟨by rfl, ?_⟩) (by assumption) ?_
              rotate_left
              · (intro w hSw; (try dsimp only at hSw); have hSe := hSw.out; subst hSe; (go_simp <;> with_reducible rfl))
              try simp only [Act.put, List.setIfInBounds_toArray, List.set_cons_zero, List.set_cons_succ]
              refine AnyZ.takeU [14] (i := 10) (oi := ⟨some 83, _, _, _, _, _⟩) (v := ?_) rfl (by kernel_rfl) (by kernel_rfl) (by kernel_rfl) (by kernel_rfl) (by kernel_rfl) (by kernel_rfl) (fun _ _ _ h => h) (Or.inl ⟨by rfl, ?_⟩) (by assumption) ?_
              rotate_left
              · (intro w hSw; (try dsimp only at hSw); have hSe := hSw.out; subst hSe; (go_simp <;> with_reducible rfl))
              try simp only [Act.put, List.setIfInBounds_toArray, List.set_cons_zero, List.set_cons_succ]
              refine AnyZ.takeU [14] (i := 11) (oi := ⟨some 84, _, _, _, _, _⟩) (v := ?_) rfl (by kernel_rfl) (by kernel_rfl) (by kernel_rfl) (by kernel_rfl) (by kernel_rfl) (by kernel_rfl) (fun _ _ _ h => h) (Or.inl ⟨by rfl, ?_⟩) (by assumption) ?_
              rotate_left
              · (intro w hSw; (try dsimp only at hSw); have hSe := hSw.out; subst hSe; (go_simp <;> with_reducible rfl))
              try simp only [Act.put, List.setIfInBounds_toArray, List.set_cons_zero, List.set_cons_succ]
              refine AnyZ.takeU [14, 13] (i := 12) (oi := ⟨some 85, _, _, _, _, _⟩) (v := ?_) rfl (by kernel_rfl) (by kernel_rfl) (by kernel_rfl) (by kernel_rfl) (by kernel_rfl) (by kernel_rfl) (fun _ _ _ h => h) (Or.inl ⟨by rfl, ?_⟩) (by assumption) ?_
              rotate_left
              · (intro w hSw; (try dsimp only at hSw); have hSe := hSw.out; subst hSe; (go_simp <;> with_reducible rfl))
              try simp only [Act.put, List.setIfInBounds_toArray, List.set_cons_zero, List.set_cons_succ]
              refine AnyZ.takeU [14] (i := 13) (oi := ⟨some 86, _, _, _, _, _⟩) (v := ?_) rfl (by kernel_rfl) (by kernel_rfl) (by kernel_rfl) (by kernel_rfl) (by kernel_rfl) (by kernel_rfl) (fun _ _ _ h => h) (Or.inl ⟨by rfl, ?_⟩) (by assumption) ?_
              rotate_left
              · (intro w hSw; (try dsimp only at hSw); have hSe := hSw.out; subst hSe; (go_simp <;> with_reducible rfl))
              try simp only [Act.put, List.setIfInBounds_toArray, List.set_cons_zero, List.set_cons_succ]
              refine AnyZ.one (i := 14) (by kernel_rfl) rfl (fun K hK => ?_)
              go_simp
              refine hK.out _ _ (.inl rfl) ?_
              clear hK K
              try simp only [Act.put, List.setIfInBounds_toArray, List.set_cons_zero, List.set_cons_succ]
              refine AnyZ.done (by kernel_rfl) ?_ _
              refine NoPanic.normal ?_
              go_wp2_with fail
              go_roundg (gk - 1)
              case measure => omega
              case rel => exact ⟨k + 1, by go_num, by omega, by rw [hjn.out, hla.out]; exact hG7.out⟩
        · have hke : Hid (joinL (L.take k) = giveL D.l s) := by show _ = _; rw [List.take_of_length_le (by omega), hgv.out]
          rw [hke.out] at hg
          go_wp2
          go_ret
          rw [he.out]
          exact ⟨rfl, hg.out.did⟩
end
end Go.Proofs.Ytikgplhcadomcaa
