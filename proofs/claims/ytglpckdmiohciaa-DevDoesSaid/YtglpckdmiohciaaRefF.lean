/- The reference's device: Flush. -/
import Derived.Test.YtglpckdmiohciaaRefW
import Derived.Test.YtglpckdmiohciaaDevFlush
namespace Go.Proofs.Ytglpckdmiohciaa
open Go.RowKit
set_option linter.unusedVariables false
set_option linter.unusedSimpArgs false

section
variable {w w' : World} {g : Nat} {F G : Nat → Prop} {X : Rv}
theorem RefIn.setS {sv cv bv : Value} {xs : List SV} {cs : List CV} (h : RefIn w g F G X sv cv bv xs cs) {b : Nat} (hv : sv.ownBlock = some b) (k : Nat) {A : Option Addr} {c : Nat} {s : Sec} (hi : Inn w F G A c s) :
    RefIn (w.setCell ⟨b, k, none⟩ (.slice A 32 c)) g F G { X with S := X.S.set k s } sv cv bv (xs.set k ⟨A, c, s⟩) cs ∧ Chg F w (w.setCell ⟨b, k, none⟩ (.slice A 32 c)) := by
  obtain ⟨q, hq⟩ := own_elem h.o1 b hv
  have hg : w.grownBy (w.setCell ⟨b, k, none⟩ (.slice A 32 c)) (some b) := grown_set _ _ _ _
  have hc : Chg F w (w.setCell ⟨b, k, none⟩ (.slice A 32 c)) := Chg.grown hg (h.f1 b hv)
  have ne : ∀ u : Value, ∀ e, e ≠ 38 → (∀ k, u.ownBlock = some k → ∃ c, w.heap[k]? = some (.cells c e (0, 0))) → u.ownBlock = none ∨ u.ownBlock ≠ some b := fun u e he hu => by
    rcases hh : u.ownBlock with _ | j
    · exact .inl rfl
    · right
      intro ej
      injection ej with ej
      obtain ⟨c, hj⟩ := hu j hh
      rw [ej, hq] at hj
      cases hj
      exact he rfl
  have hgb : g ≠ b := fun e => by
    have := h.blk
    rw [e, hq] at this
    cases this
  have own := fun {A c s} (hi : Inn w F G A c s) => hi.own hc (F' := F) (G' := G) (fun i _ hi => hi) (fun _ h => h)
  refine ⟨⟨blk_far h.blk hgb _, h.o1.set SV.ok hv k _ rfl, h.o2.kept hg (ne cv _ (by decide) (own_elem h.o2)), h.o3.kept hg (ne bv _ (by decide) (own_elem h.o3)), by rw [List.map_set, h.e1], h.e2, fun x hx => ?_, fun x hx => own (h.i2 x hx), h.f1, h.f2, h.f3, h.f4, h.f5, fun i hi => by simpa [World.setCell] using h.f6 i hi, h.f7⟩, hc⟩
  rcases List.mem_or_eq_of_mem_set hx with hx | rfl
  · exact own (h.i1 x hx)
  · exact own hi
theorem CV.cells {W : World} {b off k : Nat} {l : List CV} {x : CV} (h : Rd CV.enc 2 W (some ⟨b, off, none⟩) l) (hx : l[k]? = some x) :
    W.cell? ⟨b, off + k * 2, none⟩ = some (.int .i64 x.pos) ∧ W.cell? ⟨b, off + k * 2 + 1, none⟩ = some (.slice x.A 32 x.c) := by
  have hr := h.range hx
  exact ⟨hr 0 _ rfl, hr 1 _ rfl⟩
theorem RefIn.flush {sv cv bv : Value} {xs : List SV} {cs : List CV} (h : RefIn w g F G X sv cv bv xs cs) : RefDid F G w (w.setCell ⟨g, 1, none⟩ (.slice none 0 0)) g { X with cache := [] } :=
  RefAt.flat ⟨sv, cv, bv, xs, cs, h⟩ (grown_set _ _ _ _) ⟨rfl, rfl⟩ h.f7 (fun sv cv bv hb => .inr ⟨rfl, blk_set' hb 1 _ rfl⟩)
theorem foldS_len (l : List Wr) (S : List Sec) : (l.foldl (fun S x => S.set x.pos.toNat x.b) S).length = S.length := by
  induction l generalizing S with
  | nil => rfl
  | cons x l ih => rw [List.foldl_cons, ih, List.length_set]
set_option maxRecDepth 100000 in
set_option maxHeartbeats 8000000 in
theorem refFlush_calls (h : RefAt w g F G X) (hv : ∀ x ∈ X.cache, 0 ≤ x.pos ∧ x.pos < X.S.length) : Calls Try.prog 43 #[.pointer (some ⟨g, 0, none⟩)] w fun e w' => e = .returned (.int .i64 X.flush.1) ∧ RefDid F G w w' g X.flush.2 := by
  have hact := Lib.hid (refAct_calls h)
  clear h
  go_enter Try.func43, Try.ntmps43
  go_wp2_with fail
  refine hact.out.mono ?_
  rintro e w1 ⟨rfl, hdid⟩
  clear hact
  rcases ha : X.act.1 with _ | _
  case' false =>
    go_wp2
    go_ret
    exact ⟨ret_int (by simp [Rv.flush, ha]), by simpa [Rv.flush, ha] using hdid⟩
  have HW : Hid (X.flush = (0, { X.act.2 with S := X.act.2.cache.foldl (fun S x => S.set x.pos.toNat x.b) X.act.2.S, cache := [] })) := by
    show _ = _
    simp [Rv.flush, ha]
  rw [← (ract_n X).1, ← (ract_n X).2.1] at hv
  generalize X.act.2 = Y at *
  obtain ⟨F1, G1, ⟨sv, cv, bv, xs, cs, hin⟩, ch, s1, t1⟩ := hdid
  obtain ⟨B, bc, rfl, hbc, hbig, hro, _⟩ := hin.o2.rd CV.ok
  obtain ⟨A, ac, rfl, hac, habig, hao, _⟩ := hin.o1.rd SV.ok
  have HC := Lib.hid ch
  have HS1 := Lib.hid s1
  have HT1 := Lib.hid t1
  have HI := Lib.hid hin
  have HV := Lib.hid hv
  have hlx : Hid (xs.length = Y.S.length) := by show _ = _; rw [← hin.e1, List.length_map]
  have k1 : w1.cell? ⟨g, 1, none⟩ = some (.slice B cs.length bc) := by rw [blk_cell hin.blk]; rfl
  have hlt1 : w1.heap.size ≤ w1.heap.size := Nat.le_refl _
  clear hin ch s1 t1 hv hro hao
  go_wp2
  go_loopg [13] cs.length (fun m i wr => ∃ (k : Nat) (xs' : List SV), i = .int .i64 k ∧ k + m = cs.length ∧ Hid (xs'.length = xs.length) ∧ Hid (RefIn wr g F1 G1 { Y with S := ((cs.take k).map CV.wr).foldl (fun S x => S.set x.pos.toNat x.b) Y.S } (.slice A xs.length ac) (.slice B cs.length bc) bv xs' cs) ∧ Hid (Chg F1 w1 wr))
  case atStart => exact ⟨0, xs, rfl, by omega, rfl, HI.out, Chg.refl _ _⟩
  case round =>
    obtain ⟨k, xs', rfl, hk, hxl, hin, hch⟩ := hrel
    obtain ⟨_, _, e0, _, _, hro, _⟩ := hin.out.o2.rd CV.ok
    cases e0
    rcases Nat.lt_or_ge k cs.length with hlt | hge
    · rcases hro with h0 | ⟨b, off, rfl, hbl, hcell⟩
      · simp [h0] at hlt
      have hx : cs[k]? = some cs[k] := List.getElem?_eq_getElem hlt
      obtain ⟨c0, c1⟩ := CV.cells (.inr ⟨b, off, rfl, hbl, hcell⟩) hx
      have hinn := Lib.hid (hin.out.i2 _ (List.getElem_mem hlt))
      obtain ⟨hp0, hp1⟩ := HV.out (cs[k]).wr (by rw [← HI.out.e2]; exact List.mem_map.2 ⟨_, List.getElem_mem hlt, rfl⟩)
      have hstep : Hid (((cs.take (k + 1)).map CV.wr).foldl (fun S x => S.set x.pos.toNat x.b) Y.S = (((cs.take k).map CV.wr).foldl (fun S x => S.set x.pos.toNat x.b) Y.S).set (cs[k]).pos.toNat (cs[k]).s) := by
        show _ = _
        rw [List.take_add_one, hx, Option.toList_some, List.map_append, List.foldl_append]
        rfl
      have hp0' : 0 ≤ (cs[k]).pos := hp0
      have hp1' : (cs[k]).pos < (xs.length : Int) := by rw [hlx.out]; exact hp1
      generalize cs[k] = x at *
      obtain ⟨p, hp⟩ : ∃ p : Nat, x.pos = p := ⟨x.pos.toNat, by omega⟩
      rw [hp] at c0 hp0' hp1' hstep
      have i0 : (0 : Int) ≤ (k : Int) := by omega
      have i1 : (k : Int) < (cs.length : Int) := by omega
      obtain ⟨sb, rfl⟩ : ∃ sb, A = some ⟨sb, 0, none⟩ := by
        rcases hin.out.o1.head with ⟨_, e⟩ | e
        · exact absurd hxl.out (by subst e; simp at *; omega)
        · exact e
      have HX := hin
      generalize hWW : wr.alloc (.cells #[.int .i64 p, .slice x.A 32 x.c] 148) = WW
      go_wp2_with fail
      have hin2 := Lib.hid (hin.out.below ((bl_alloc (Below.refl _ wr) (.cells #[.int .i64 p, .slice x.A 32 x.c] 148)).drew))
      have hch2 : Hid (Chg F1 w1 (wr.alloc (.cells #[.int .i64 p, .slice x.A 32 x.c] 148)).drew) := hch.out.trans (Below.chg ((bl_alloc (Below.refl _ wr) (.cells #[.int .i64 p, .slice x.A 32 x.c] 148)).drew) F1) (fun _ _ h => h)
      have q0 : (wr.alloc (.cells #[.int .i64 p, .slice x.A 32 x.c] 148)).drew.cell? ⟨wr.heap.size, 0, none⟩ = some (.int .i64 p) := blk_cell (w := wr.alloc _) (blk_new _ _) _
      have q1 : (wr.alloc (.cells #[.int .i64 p, .slice x.A 32 x.c] 148)).drew.cell? ⟨wr.heap.size, 1, none⟩ = some (.slice x.A 32 x.c) := blk_cell (w := wr.alloc _) (blk_new _ _) _
      rw [hWW] at hin2 hch2 q0 q1
      have k1 : WW.drew.cell? ⟨g, 0, none⟩ = some (.slice (some ⟨sb, 0, none⟩) xs.length ac) := by rw [blk_cell hin2.out.blk]; rfl
      have kf : WW.drew.frozen? ⟨sb, p, none⟩ = false := by
        obtain ⟨cs', hh⟩ := own_elem hin2.out.o1 sb rfl
        exact blk_free hh p
      obtain ⟨y, kc⟩ : ∃ y, WW.cell? ⟨sb, p, none⟩ = some y := by
        have hl : p < xs'.length := by rw [hxl.out]; omega
        exact ⟨_, (hin2.out.o1.at SV.ok (List.getElem?_eq_getElem hl) rfl).1⟩
      have hinn2 := Lib.hid (hinn.out.chg (w' := WW.drew) (H := fun _ => False) (by rw [← hWW]; exact Below.chg ((bl_alloc (Below.refl _ wr) _).drew) _) (fun _ _ h => h))
      have hfin := Lib.hid (hin2.out.setS rfl p hinn2.out)
      clear hinn hin HX hch hWW hcell
      refine wp_region_noPanic ?_
      refine wp_regionZ 9 (fun W => Hid (W = WW.drew)) (by kernel_rfl) ?_
      have hS0 : Hid (WW.drew = WW.drew) := rfl
      refine AnyZ.take (i := 0) (oi := ⟨some 17, _, _, _, _, _⟩) (v := ?_) rfl rfl (by kernel_rfl) (by kernel_rfl) (by kernel_rfl) (by kernel_rfl) (fun _ _ _ h => h) (Or.inl ⟨by rfl, ?_⟩) (by assumption) ?_
      rotate_left
      · (intro w hSw; (try dsimp only at hSw); obtain rfl := hSw.out; (go_simp <;> with_reducible rfl))
      try simp only [Act.put, List.setIfInBounds_toArray, List.set_cons_zero, List.set_cons_succ]
      refine AnyZ.take (i := 1) (oi := ⟨some 18, _, _, _, _, _⟩) (v := ?_) rfl rfl (by kernel_rfl) (by kernel_rfl) (by kernel_rfl) (by kernel_rfl) (fun _ _ _ h => h) (Or.inl ⟨by rfl, ?_⟩) (by assumption) ?_
      rotate_left
      · (intro w hSw; (try dsimp only at hSw); obtain rfl := hSw.out; (go_simp <;> with_reducible rfl))
      try simp only [Act.put, List.setIfInBounds_toArray, List.set_cons_zero, List.set_cons_succ]
      refine AnyZ.take (i := 2) (oi := ⟨some 19, _, _, _, _, _⟩) (v := ?_) rfl rfl (by kernel_rfl) (by kernel_rfl) (by kernel_rfl) (by kernel_rfl) (fun _ _ _ h => h) (Or.inl ⟨by rfl, ?_⟩) (by assumption) ?_
      rotate_left
      · (intro w hSw; (try dsimp only at hSw); obtain rfl := hSw.out; (go_simp <;> with_reducible rfl))
      try simp only [Act.put, List.setIfInBounds_toArray, List.set_cons_zero, List.set_cons_succ]
      refine AnyZ.take (i := 3) (oi := ⟨some 20, _, _, _, _, _⟩) (v := ?_) rfl rfl (by kernel_rfl) (by kernel_rfl) (by kernel_rfl) (by kernel_rfl) (fun _ _ _ h => h) (Or.inl ⟨by rfl, ?_⟩) (by assumption) ?_
      rotate_left
      · (intro w hSw; (try dsimp only at hSw); obtain rfl := hSw.out; (go_simp <;> with_reducible rfl))
      try simp only [Act.put, List.setIfInBounds_toArray, List.set_cons_zero, List.set_cons_succ]
      refine AnyZ.take (i := 4) (oi := ⟨some 21, _, _, _, _, _⟩) (v := ?_) rfl rfl (by kernel_rfl) (by kernel_rfl) (by kernel_rfl) (by kernel_rfl) (fun _ _ _ h => h) (Or.inl ⟨by rfl, ?_⟩) (by assumption) ?_
      rotate_left
      · (intro w hSw; (try dsimp only at hSw); obtain rfl := hSw.out; (go_simp <;> with_reducible rfl))
      try simp only [Act.put, List.setIfInBounds_toArray, List.set_cons_zero, List.set_cons_succ]
      refine AnyZ.take (i := 5) (oi := ⟨some 22, _, _, _, _, _⟩) (v := ?_) rfl rfl (by kernel_rfl) (by kernel_rfl) (by kernel_rfl) (by kernel_rfl) (fun _ _ _ h => h) (Or.inl ⟨by rfl, ?_⟩) (by assumption) ?_
      rotate_left
      · (intro w hSw; (try dsimp only at hSw); obtain rfl := hSw.out; (go_simp <;> with_reducible rfl))
      try simp only [Act.put, List.setIfInBounds_toArray, List.set_cons_zero, List.set_cons_succ]
      refine AnyZ.take (i := 6) (oi := ⟨some 23, _, _, _, _, _⟩) (v := ?_) rfl rfl (by kernel_rfl) (by kernel_rfl) (by kernel_rfl) (by kernel_rfl) (fun _ _ _ h => h) (Or.inl ⟨by rfl, ?_⟩) (by assumption) ?_
      rotate_left
      · (intro w hSw; (try dsimp only at hSw); obtain rfl := hSw.out; (go_simp <;> with_reducible rfl))
      try simp only [Act.put, List.setIfInBounds_toArray, List.set_cons_zero, List.set_cons_succ]
      refine AnyZ.take (i := 7) (oi := ⟨some 24, _, _, _, _, _⟩) (v := ?_) rfl rfl (by kernel_rfl) (by kernel_rfl) (by kernel_rfl) (by kernel_rfl) (fun _ _ _ h => h) (Or.inl ⟨by rfl, ?_⟩) (by assumption) ?_
      rotate_left
      · (intro w hSw; (try dsimp only at hSw); obtain rfl := hSw.out; (go_simp <;> with_reducible rfl))
      try simp only [Act.put, List.setIfInBounds_toArray, List.set_cons_zero, List.set_cons_succ]
      refine AnyZ.take (i := 8) (oi := ⟨some 25, _, _, _, _, _⟩) (v := ?_) rfl rfl (by kernel_rfl) (by kernel_rfl) (by kernel_rfl) (by kernel_rfl) (fun _ _ _ h => h) (Or.inl ⟨by rfl, ?_⟩) (by assumption) ?_
      rotate_left
      · (intro w hSw; (try dsimp only at hSw); obtain rfl := hSw.out; (go_simp <;> with_reducible rfl))
      try simp only [Act.put, List.setIfInBounds_toArray, List.set_cons_zero, List.set_cons_succ]
      refine AnyZ.one (i := 9) (by kernel_rfl) rfl (fun K hK => ?_)
      go_simp
      refine hK.out _ _ (.inl rfl) ?_
      clear hK K
      try simp only [Act.put, List.setIfInBounds_toArray, List.set_cons_zero, List.set_cons_succ]
      refine AnyZ.done (by kernel_rfl) ?_ _
      refine NoPanic.normal ?_
      go_wp2_with fail
      go_roundg (cs.length - (k + 1))
      case measure => omega
      case rel => exact ⟨k + 1, xs'.set p ⟨x.A, x.c, x.s⟩, rfl, by omega, by show _ = _; rw [List.length_set]; exact hxl.out, by show RefIn _ _ _ _ _ _ _ _ _ _; rw [hstep.out]; exact hfin.out.1, hch2.out.trans hfin.out.2 (fun i _ hi => hi)⟩
    · obtain rfl : k = cs.length := by omega
      have c1 : wr.cell? ⟨g, 1, none⟩ = some (.slice B cs.length bc) := by rw [blk_cell hin.out.blk]; rfl
      have cf : wr.frozen? ⟨g, 1, none⟩ = false := blk_free hin.out.blk 1
      have hfin : Hid (RefDid F G w (wr.setCell ⟨g, 1, none⟩ (.slice none 0 0)) g X.flush.2) := by
        show RefDid _ _ _ _ _ _
        rw [HW.out, ← HI.out.e2, ← List.take_length (l := cs.map CV.wr), List.length_map, ← List.map_take]
        exact (RefIn.flush hin.out).after (HC.out.trans hch.out (fun i hi hf => (HS1.out i hf).resolve_right (by omega))) (fun i hi => (HS1.out i hi)) (fun i hi => HT1.out i hi)
      clear hin hch
      go_wp2_with fail
      go_ret
      exact ⟨ret_int (by rw [HW.out]), hfin.out⟩
end
end Go.Proofs.Ytglpckdmiohciaa
