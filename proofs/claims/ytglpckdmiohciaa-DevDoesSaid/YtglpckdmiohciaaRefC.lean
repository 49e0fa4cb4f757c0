/- The reference's device: Crash. -/
import Derived.Test.YtglpckdmiohciaaRefR
import Derived.Test.YtglpckdmiohciaaHeld2
import Derived.Test.YtglpckdmiohciaaRefSuper
namespace Go.Proofs.Ytglpckdmiohciaa
open Go.RowKit
set_option linter.unusedVariables false
set_option linter.unusedSimpArgs false

section
variable {w w' : World} {g : Nat} {F G : Nat → Prop} {X : Rv}
theorem RefIn.wide {G' : Nat → Prop} {sv cv bv : Value} {xs : List SV} {cs : List CV} (h : RefIn w g F G X sv cv bv xs cs) (hG : ∀ i, G i → G' i) (hl : ∀ i, G' i → i < w.heap.size) : RefIn w g F G' X sv cv bv xs cs :=
  ⟨h.blk, h.o1, h.o2, h.o3, h.e1, h.e2, fun x hx => (h.i1 x hx).own (Chg.refl F w) (fun _ _ h => h) hG, fun x hx => (h.i2 x hx).own (Chg.refl F w) (fun _ _ h => h) hG, h.f1, h.f2, h.f3, h.f4, fun i hi => hG i (h.f5 i hi), hl, h.f7⟩
theorem RefIn.crash {sv cv bv : Value} {xs : List SV} {cs : List CV} (h : RefIn w g F G X sv cv bv xs cs) : RefDid F G w (((w.setCell ⟨g, 1, none⟩ (.slice none 0 0)).setCell ⟨g, 4, none⟩ (.bool false)).setCell ⟨g, 3, none⟩ (.int .i64 (-1))) g { X with cache := [], dead := false, left := -1 } :=
  RefAt.setCrash ⟨sv, cv, bv, xs, cs, h⟩
/-- A sector's new bytes, in a row of the call's own. -/
theorem RefIn.newS {sb : Nat} {n c : Nat} {cv bv : Value} {xs : List SV} {cs : List CV} (h : RefIn w g F G X (.slice (some ⟨sb, 0, none⟩) n c) cv bv xs cs) {W3 : World} (hb : Below w.heap.size w W3) (k : Nat) {v : Value} {s : Sec} (ho : Own by1 1 5 w.heap.size W3 v s.1) :
    ∃ A c1 G', v = .slice A 32 c1 ∧ RefIn (W3.setCell ⟨sb, k, none⟩ v) g F G' { X with S := X.S.set k s } (.slice (some ⟨sb, 0, none⟩) n c) cv bv (xs.set k ⟨A, c1, s⟩) cs ∧ Chg F w (W3.setCell ⟨sb, k, none⟩ v) ∧ (∀ i, G' i → G i ∨ w.heap.size ≤ i) := by
  obtain ⟨A, c1, rfl, h1, h2, h3, h4⟩ := ho.rd by1ok
  rw [s.2.1] at ho h1 ⊢
  rcases ho.head with ⟨_, e⟩ | ⟨b, rfl⟩
  · have := s.2.1
    rw [e] at this
    simp at this
  have hlt := ho.lt b rfl
  have hin3 := (h.below hb).wide (G' := fun i => G i ∨ i = b) (fun i hi => .inl hi) (fun i hi => hi.elim (fun q => Nat.lt_of_lt_of_le (h.f6 i q) hb.size) (fun q => q ▸ hlt.2))
  have hs := hin3.setS (b := sb) rfl k (A := some ⟨b, 0, none⟩) (c := c1) (s := s) ⟨b, 0, rfl, hlt.2, h3, fun q => by have := h.f6 b (h.f5 b q); omega, .inr rfl, h1⟩
  exact ⟨_, c1, _, rfl, hs.1, (Below.chg hb F).trans hs.2 (fun i _ hi => hi), fun i hi => hi.imp_right (fun q => by subst q; exact hlt.1)⟩
set_option maxRecDepth 100000 in
set_option maxHeartbeats 8000000 in
theorem refCrash_calls0 (h : RefAt w g F G X) (hv : ∀ x ∈ X.cache, 0 ≤ x.pos ∧ x.pos < X.S.length) (fk : List Bool) (ft fb : Int) (KB : Option Addr) (kc : Nat) (hf : Rd boolEnc 1 w KB fk) (hKF : fk ≠ [] → ∀ a, KB = some a → ¬ F a.block) :
    Calls Try.prog 45 #[.pointer (some ⟨g, 0, none⟩), .agg #[.slice KB fk.length kc, .int .i64 ft, .int .i64 fb]] w fun e w' => e = .returned (.tuple #[]) ∧ RefDid F G w w' g (X.crash ⟨fk, ft, fb⟩) := by
  obtain ⟨w1, hw1⟩ : ∃ W, W = w.alloc (.cells #[.slice KB fk.length kc, .int .i64 ft, .int .i64 fb] 47) := ⟨_, rfl⟩
  have hb1 : Below w.heap.size w w1 := hw1 ▸ (Below.refl _ w).alloc (Nat.le_refl _) _
  have hx1 : w1.heap[w.heap.size]? = some (.cells #[.slice KB fk.length kc, .int .i64 ft, .int .i64 fb] 47 (0, 0)) := hw1 ▸ blk_new w _
  have hlt1 : w.heap.size < w1.heap.size := blk_lt hx1
  have HF := Lib.hid (hf.below hb1 (Nat.le_refl _))
  have HFG : Hid (∀ i, G i → i < w.heap.size) := h.lt
  have HS : Hid (∀ i, F i → G i) := h.sub
  obtain ⟨sv, cv, bv, xs, cs, hin0⟩ := h
  have hin := hin0.below hb1
  obtain ⟨B, bc, rfl, hbc, hbig, hro, _⟩ := hin.o2.rd CV.ok
  obtain ⟨A, ac, rfl, hac, habig, hao, _⟩ := hin.o1.rd SV.ok
  have HI := Lib.hid hin
  have HX := Lib.hid hx1
  have HKF := Lib.hid hKF
  have HB1 := Lib.hid hb1
  have HV := Lib.hid hv
  have hlx : Hid (xs.length = X.S.length) := by show _ = _; rw [← hin.e1, List.length_map]
  have hlc : Hid (cs.length = X.cache.length) := by show _ = _; rw [← hin.e2, List.length_map]
  have k1 : w1.cell? ⟨g, 1, none⟩ = some (.slice B cs.length bc) := by rw [blk_cell hin.blk]; rfl
  clear hin hin0 hv hf hb1 hx1 hro hao hKF
  go_enter Try.func45, Try.ntmps45
  go_upto_region 1 with fail
  rw [← hw1]
  clear hw1
  go_wp2_with fail
  go_loopg [12] cs.length (fun m i wr => ∃ (k : Nat) (xs' : List SV) (S' : List Sec) (Gk : Nat → Prop), i = .int .i64 k ∧ k + m = cs.length ∧ Hid (S'.length = X.S.length) ∧ Hid (RefIn wr g F Gk { X with S := S' } (.slice A xs.length ac) (.slice B cs.length bc) bv xs' cs) ∧ Hid (Chg F w1 wr) ∧ Hid (∀ i, Gk i → G i ∨ w.heap.size ≤ i) ∧ Hid (crashS ⟨fk, ft, fb⟩ k S' (X.cache.drop k) = crashS ⟨fk, ft, fb⟩ 0 X.S X.cache))
  case atStart => exact ⟨0, xs, X.S, G, rfl, by omega, rfl, HI.out, Chg.refl _ _, fun i hi => .inl hi, by show _ = _; simp⟩
  case round =>
    obtain ⟨k, xs', S', Gk, rfl, hk, hsl, hin, hch, hGk, hcr⟩ := hrel
    have hxr := hch.out.blk HX.out (fun hf => by have := HFG.out _ (HS.out _ hf); omega)
    have y0 := blk_cell hxr 0
    have y1 := blk_cell hxr 1
    have y2 := blk_cell hxr 2
    simp at y0 y1 y2
    rcases Nat.lt_or_ge k cs.length with hlt | hge
    · obtain ⟨_, _, e0, _, _, hro, _⟩ := hin.out.o2.rd CV.ok
      cases e0
      rcases hro with h0 | ⟨b, off, rfl, hbl, hcell⟩
      · simp [h0] at hlt
      have hx : cs[k]? = some cs[k] := List.getElem?_eq_getElem hlt
      obtain ⟨c0, c1⟩ := CV.cells (.inr ⟨b, off, rfl, hbl, hcell⟩) hx
      have hinn := Lib.hid (hin.out.i2 _ (List.getElem_mem hlt))
      obtain ⟨hp0, hp1⟩ := HV.out (cs[k]).wr (by rw [← HI.out.e2]; exact List.mem_map.2 ⟨_, List.getElem_mem hlt, rfl⟩)
      have hstep : Hid (∀ S2, S2 = (if (k : Int) = ft then S'.set (cs[k]).pos.toNat (overS (min (max fb 0) 32).toNat (cs[k]).s (S'[(cs[k]).pos.toNat]?.getD sec0)) else if fk[k]? = some true then S'.set (cs[k]).pos.toNat (cs[k]).s else S') → crashS ⟨fk, ft, fb⟩ (k + 1) S2 (X.cache.drop (k + 1)) = crashS ⟨fk, ft, fb⟩ 0 X.S X.cache) := fun S2 hS2 => by
        have hlt2 : k < X.cache.length := by rw [← hlc.out]; exact hlt
        have hxe : X.cache[k] = (cs[k]).wr := by
          have : (cs.map CV.wr)[k]? = X.cache[k]? := by rw [HI.out.e2]
          rw [List.getElem?_map, hx, List.getElem?_eq_getElem hlt2] at this
          simpa using this.symm
        rw [← hcr.out, List.drop_eq_getElem_cons hlt2, crashS, hS2, hxe]
        rfl
      have hp0' : 0 ≤ (cs[k]).pos := hp0
      have hp1' : (cs[k]).pos < (xs.length : Int) := by rw [hlx.out]; exact hp1
      have hpS : Hid ((cs[k]).pos.toNat < S'.length) := by show _ < _; rw [hsl.out, ← hlx.out]; omega
      generalize cs[k] = x at *
      obtain ⟨p, hp⟩ : ∃ p : Nat, x.pos = p := ⟨x.pos.toNat, by omega⟩
      rw [hp] at c0 hp0' hp1' hstep hpS
      have hpS : Hid (p < S'.length) := hpS.out
      have i0 : (0 : Int) ≤ (k : Int) := by omega
      have i1 : (k : Int) < (cs.length : Int) := by omega
      obtain ⟨sb, rfl⟩ : ∃ sb, A = some ⟨sb, 0, none⟩ := by
        rcases hin.out.o1.head with ⟨_, e⟩ | e
        · have h2 := hpS.out
          have h3 : S' = [] := by
            have := hin.out.e1
            rw [e] at this
            simpa using this.symm
          rw [h3] at h2
          simp at h2
        · exact e
      generalize hWW : wr.alloc (.cells #[.int .i64 p, .slice x.A 32 x.c] 148) = WW
      have hbW : Below wr.heap.size wr WW := hWW ▸ bl_alloc (Below.refl _ wr) _
      have hblk : WW.heap[wr.heap.size]? = some (.cells #[.int .i64 p, .slice x.A 32 x.c] 148 (0, 0)) := hWW ▸ blk_new wr _
      have hxW : WW.heap[w.heap.size]? = some (.cells #[.slice KB fk.length kc, .int .i64 ft, .int .i64 fb] 47 (0, 0)) := blk_below hbW hxr (blk_lt hxr)
      have z0 : WW.cell? ⟨w.heap.size, 0, none⟩ = some (.slice KB fk.length kc) := by rw [blk_cell hxW]; rfl
      have z1 : WW.cell? ⟨w.heap.size, 1, none⟩ = some (.int .i64 ft) := by rw [blk_cell hxW]; rfl
      have z2 : WW.cell? ⟨w.heap.size, 2, none⟩ = some (.int .i64 fb) := by rw [blk_cell hxW]; rfl
      have HinW := Lib.hid (hin.out.below hbW)
      have HchW : Hid (Chg F w1 WW) := hch.out.trans (Below.chg hbW F) (fun _ _ h => h)
      have hinnW := Lib.hid (hinn.out.chg (w' := WW) (H := fun _ => False) (Below.chg hbW _) (fun _ _ h => h))
      have HfkW : Hid (fk ≠ [] → Rd boolEnc 1 WW KB fk) := fun hne => (HF.out.chg hch.out (fun a ha => HKF.out hne a ha)).below hbW (Nat.le_refl _)
      have HK := Lib.hid hblk
      have HXW := Lib.hid hxW
      clear hcell hx hin hch hinn y0 y1 y2 hxr hxW hbW hblk hcr hp1 hp0
      rcases (Decidable.em ((k : Int) = ft)) with ht | ht
      · subst ht
        obtain ⟨n, hn⟩ : ∃ n : Nat, (n : Int) = min (max fb 0) 32 := ⟨(min (max fb 0) 32).toNat, by omega⟩
        have hn32 : n ≤ 32 := by omega
        have hover := Lib.hid (hstep.out _ (if_pos rfl).symm)
        rw [← hn, Int.toNat_natCast] at hover
        replace hn := Lib.hid hn
        obtain ⟨A0, a0, sb0, es0, cs0, inn0⟩ := HinW.out.at hpS.out
        cases es0
        obtain ⟨xb, xo, exA, hxb, hxr, -, -, hx32⟩ := hinnW.out
        obtain ⟨ob, oo, rfl, hob, hor, -, -, ho32⟩ := inn0
        generalize hold : (S'[p]?.getD sec0) = old at *
        replace hor := Lib.hid hor
        replace hxr := Lib.hid hxr
        have HC : Hid (∀ W, Below WW.heap.size WW W → W.cell? ⟨g, 0, none⟩ = some (.slice (some ⟨sb, 0, none⟩) xs.length ac) ∧ W.cell? ⟨wr.heap.size, 0, none⟩ = some (.int .i64 p) ∧ W.cell? ⟨wr.heap.size, 1, none⟩ = some (.slice (some ⟨xb, xo, none⟩) 32 x.c) ∧ W.cell? ⟨sb, p, none⟩ = some (.slice (some ⟨ob, oo, none⟩) 32 a0)) := fun W hW => by
          have hin2 := HinW.out.below hW
          have hk2 := blk_below hW HK.out (blk_lt HK.out)
          have hs2 : sb < WW.heap.size := by
            obtain ⟨_, hh⟩ := own_elem HinW.out.o1 sb rfl
            exact blk_lt hh
          exact ⟨by rw [blk_cell hin2.blk]; rfl, by rw [blk_cell hk2]; rfl, by rw [blk_cell hk2]; show some (Value.slice x.A 32 x.c) = _; rw [exA], (hW.cell (by exact hs2)).trans cs0⟩
        have HCf : Hid (∀ W, Below WW.heap.size WW W → W.frozen? ⟨sb, p, none⟩ = false) := fun W hW => by
          obtain ⟨_, hh⟩ := own_elem (HinW.out.below hW).o1 sb rfl
          exact blk_free hh p
        have src1 : Hid (∀ W, Below WW.heap.size WW W → Src Try.prog 1 38 (.slice (some ⟨xb, xo, none⟩) n x.c) (x.s.1.take n).length ((x.s.1.take n).flatMap by1) W) := fun W hW => by
          have h := Rd.src (P := Try.prog) by1ok Try.underlying38 x.c ((hxr.out.below hW (Nat.le_refl _)).take n)
          have e : (x.s.1.take n).length = n := by rw [List.length_take, x.s.2.1]; omega
          rw [e] at h ⊢
          exact h
        have q1 : Hid ((([] : List Int).length + (x.s.1.take n).length) * 1 ≤ 140737488355328) := by show _ ≤ _; simp [x.s.2.1]; omega
        have q2 : Hid ((([] : List Int).length + (x.s.1.take n).length) ≤ 140737488355328) := by show _ ≤ _; simp [x.s.2.1]; omega
        have q3 : Hid ((([] ++ x.s.1.take n).length + (old.1.drop n).length) * 1 ≤ 140737488355328) := by show _ ≤ _; simp [x.s.2.1, old.2.1]; omega
        have q4 : Hid ((([] ++ x.s.1.take n).length + (old.1.drop n).length) ≤ 140737488355328) := by show _ ≤ _; simp [x.s.2.1, old.2.1]; omega
        have hz0 : Hid (WW.heap.size ≤ WW.drew.heap.size) := Nat.le_refl _
        have HN : Hid (Own by1 1 5 WW.heap.size WW.drew (.slice none 0 0) ([] : List Int)) := Own.nil
        have hob : Hid (∀ k, (Value.slice none 0 0).ownBlock = some k → WW.heap.size ≤ k ∧ k < WW.drew.heap.size) := fun k hk => by cases hk
        have n0 : (0 : Int) ≤ (n : Int) := by omega
        have n1 : (n : Int) ≤ 32 := by omega
        have n2 : (n : Int) ≤ (x.c : Int) := by omega
        have x1 : (32 : Int) ≤ (x.c : Int) := by omega
        have o1 : (32 : Int) ≤ (a0 : Int) := by omega
        have hb0 : Hid (Below WW.heap.size WW WW.drew) := (Below.refl _ WW).drew
        clear cs0
        replace exA := Lib.hid exA
        rcases (show fb < 0 ∨ 32 < fb ∨ fb = (n : Int) by have := hn.out; omega) with h1 | h1 | h1
        case' inl =>
          go_wp2_with fail
          generalize hz : Value.int .i64 0 = v6
          obtain rfl : v6 = .int .i64 (n : Int) := by rw [← hz]; congr 1; have := hn.out; omega
          clear hz
        case' inr.inl =>
          have h0 : ¬ fb < 0 := by omega
          go_wp2_with fail
          generalize hz : Value.int .i64 32 = v6
          obtain rfl : v6 = .int .i64 (n : Int) := by rw [← hz]; congr 1; have := hn.out; omega
          clear hz
        case' inr.inr =>
          have h0 : ¬ fb < 0 := by omega
          have h2 : ¬ (32 : Int) < fb := by omega
          clear h1
          go_wp2_with fail
          obtain rfl : fb = (n : Int) := by have := hn.out; omega
        all_goals refine wp_region_noPanic ?_
        all_goals refine wp_regionZ 23 (fun W => Hid (Below WW.heap.size WW W)) (by kernel_rfl) ?_
        all_goals
          rcases Nat.lt_or_ge n a0 with hna | hna
          · have d1 : ¬ a0 = n := by omega
            have d2 : ¬ n = a0 := by omega
            have src2 : Hid (∀ W, Below WW.heap.size WW W → Src Try.prog 1 38 (.slice (some ⟨ob, oo + n, none⟩) (32 - n) (a0 - n)) (old.1.drop n).length ((old.1.drop n).flatMap by1) W) := fun W hW => by
              have h := Rd.src (P := Try.prog) by1ok Try.underlying38 (a0 - n) (Rd.drop n (hor.out.below hW (Nat.le_refl _)))
              have e : (old.1.drop n).length = 32 - n := by rw [List.length_drop, old.2.1]
              rw [e, Nat.mul_one] at h
              rw [e]
              exact h
            refine AnyZ.takeU [23, 22, 3, 2, 1] (i := 0) (oi := ⟨some 27, _, _, _, _, _⟩) (v := ?_) rfl (by kernel_rfl) (by kernel_rfl) (by kernel_rfl) (by kernel_rfl) (by kernel_rfl) (by kernel_rfl) (fun _ _ _ h => h) (Or.inl ⟨by rfl, ?_⟩) (by assumption) ?_
            rotate_left
            · (intro w hSw; (try dsimp only at hSw); have kk := HC.out _ hSw.out; have kk0 := kk.1; have kk1 := kk.2.1; have kk2 := kk.2.2.1; have kk3 := kk.2.2.2; (go_simp <;> with_reducible rfl))
            try simp only [Act.put, List.setIfInBounds_toArray, List.set_cons_zero, List.set_cons_succ]
            refine AnyZ.takeU [23, 22, 3, 2] (i := 1) (oi := ⟨some 28, _, _, _, _, _⟩) (v := ?_) rfl (by kernel_rfl) (by kernel_rfl) (by kernel_rfl) (by kernel_rfl) (by kernel_rfl) (by kernel_rfl) (fun _ _ _ h => h) (Or.inl ⟨by rfl, ?_⟩) (by assumption) ?_
            rotate_left
            · (intro w hSw; (try dsimp only at hSw); have kk := HC.out _ hSw.out; have kk0 := kk.1; have kk1 := kk.2.1; have kk2 := kk.2.2.1; have kk3 := kk.2.2.2; (go_simp <;> with_reducible rfl))
            try simp only [Act.put, List.setIfInBounds_toArray, List.set_cons_zero, List.set_cons_succ]
            refine AnyZ.takeU [23, 22, 3] (i := 2) (oi := ⟨some 29, _, _, _, _, _⟩) (v := ?_) rfl (by kernel_rfl) (by kernel_rfl) (by kernel_rfl) (by kernel_rfl) (by kernel_rfl) (by kernel_rfl) (fun _ _ _ h => h) (Or.inl ⟨by rfl, ?_⟩) (by assumption) ?_
            rotate_left
            · (intro w hSw; (try dsimp only at hSw); have kk := HC.out _ hSw.out; have kk0 := kk.1; have kk1 := kk.2.1; have kk2 := kk.2.2.1; have kk3 := kk.2.2.2; (go_simp <;> with_reducible rfl))
            try simp only [Act.put, List.setIfInBounds_toArray, List.set_cons_zero, List.set_cons_succ]
            refine AnyZ.takeU [23, 22] (i := 3) (oi := ⟨some 30, _, _, _, _, _⟩) (v := ?_) rfl (by kernel_rfl) (by kernel_rfl) (by kernel_rfl) (by kernel_rfl) (by kernel_rfl) (by kernel_rfl) (fun _ _ _ h => h) (Or.inl ⟨by rfl, ?_⟩) (by assumption) ?_
            rotate_left
            · (intro w hSw; (try dsimp only at hSw); have kk := HC.out _ hSw.out; have kk0 := kk.1; have kk1 := kk.2.1; have kk2 := kk.2.2.1; have kk3 := kk.2.2.2; (go_simp <;> with_reducible rfl))
            try simp only [Act.put, List.setIfInBounds_toArray, List.set_cons_zero, List.set_cons_succ]
            refine AnyZ.takeU [23, 22, 5] (i := 4) (oi := ⟨some 31, _, _, _, _, _⟩) (v := ?_) rfl (by kernel_rfl) (by kernel_rfl) (by kernel_rfl) (by kernel_rfl) (by kernel_rfl) (by kernel_rfl) (fun _ _ _ h => h) (Or.inl ⟨by rfl, ?_⟩) (by assumption) ?_
            rotate_left
            · (intro w hSw; (try dsimp only at hSw); have kk := HC.out _ hSw.out; have kk0 := kk.1; have kk1 := kk.2.1; have kk2 := kk.2.2.1; have kk3 := kk.2.2.2; (go_simp <;> with_reducible rfl))
            try simp only [Act.put, List.setIfInBounds_toArray, List.set_cons_zero, List.set_cons_succ]
            refine AnyZ.takeU [23, 22] (i := 5) (oi := ⟨some 32, _, _, _, _, _⟩) (v := ?_) rfl (by kernel_rfl) (by kernel_rfl) (by kernel_rfl) (by kernel_rfl) (by kernel_rfl) (by kernel_rfl) (fun _ _ _ h => h) (Or.inl ⟨by rfl, ?_⟩) (by assumption) ?_
            rotate_left
            · (intro w hSw; (try dsimp only at hSw); have kk := HC.out _ hSw.out; have kk0 := kk.1; have kk1 := kk.2.1; have kk2 := kk.2.2.1; have kk3 := kk.2.2.2; (go_simp <;> with_reducible rfl))
            try simp only [Act.put, List.setIfInBounds_toArray, List.set_cons_zero, List.set_cons_succ]
            refine AnyZ.takeU [23, 21, 10, 9, 7] (i := 6) (oi := ⟨some 33, _, _, _, _, _⟩) (v := ?_) rfl (by kernel_rfl) (by kernel_rfl) (by kernel_rfl) (by kernel_rfl) (by kernel_rfl) (by kernel_rfl) (fun _ _ _ h => h) (Or.inl ⟨by rfl, ?_⟩) (by assumption) ?_
            rotate_left
            · (intro w hSw; (try dsimp only at hSw); have kk := HC.out _ hSw.out; have kk0 := kk.1; have kk1 := kk.2.1; have kk2 := kk.2.2.1; have kk3 := kk.2.2.2; (go_simp <;> with_reducible rfl))
            try simp only [Act.put, List.setIfInBounds_toArray, List.set_cons_zero, List.set_cons_succ]
            refine AnyZ.takeU [23, 21, 10, 9] (i := 7) (oi := ⟨some 34, _, _, _, _, _⟩) (v := ?_) rfl (by kernel_rfl) (by kernel_rfl) (by kernel_rfl) (by kernel_rfl) (by kernel_rfl) (by kernel_rfl) (fun _ _ _ h => h) (Or.inl ⟨by rfl, ?_⟩) (by assumption) ?_
            rotate_left
            · (intro w hSw; (try dsimp only at hSw); have kk := HC.out _ hSw.out; have kk0 := kk.1; have kk1 := kk.2.1; have kk2 := kk.2.2.1; have kk3 := kk.2.2.2; (go_simp <;> with_reducible rfl))
            try simp only [Act.put, List.setIfInBounds_toArray, List.set_cons_zero, List.set_cons_succ]
            refine AnyZ.takeU [23, 21, 10, 9] (i := 8) (oi := ⟨some 35, _, _, _, _, _⟩) (v := ?_) rfl (by kernel_rfl) (by kernel_rfl) (by kernel_rfl) (by kernel_rfl) (by kernel_rfl) (by kernel_rfl) (fun _ _ _ h => h) (Or.inl ⟨by rfl, ?_⟩) (by assumption) ?_
            rotate_left
            · (intro w hSw; (try dsimp only at hSw); have kk := HC.out _ hSw.out; have kk0 := kk.1; have kk1 := kk.2.1; have kk2 := kk.2.2.1; have kk3 := kk.2.2.2; (go_simp <;> with_reducible rfl))
            try simp only [Act.put, List.setIfInBounds_toArray, List.set_cons_zero, List.set_cons_succ]
            refine AnyZ.takeU [23, 21, 10] (i := 9) (oi := ⟨some 36, _, _, _, _, _⟩) (v := ?_) rfl (by kernel_rfl) (by kernel_rfl) (by kernel_rfl) (by kernel_rfl) (by kernel_rfl) (by kernel_rfl) (fun _ _ _ h => h) (Or.inl ⟨by rfl, ?_⟩) (by assumption) ?_
            rotate_left
            · (intro w hSw; (try dsimp only at hSw); have kk := HC.out _ hSw.out; have kk0 := kk.1; have kk1 := kk.2.1; have kk2 := kk.2.2.1; have kk3 := kk.2.2.2; (go_simp <;> with_reducible rfl))
            try simp only [Act.put, List.setIfInBounds_toArray, List.set_cons_zero, List.set_cons_succ]
            refine AnyZ.takeU [23, 21, 20, 18, 17, 14, 13, 12] (i := 11) (oi := ⟨some 38, _, _, _, _, _⟩) (v := ?_) rfl (by kernel_rfl) (by kernel_rfl) (by kernel_rfl) (by kernel_rfl) (by kernel_rfl) (by kernel_rfl) (fun _ _ _ h => h) (Or.inl ⟨by rfl, ?_⟩) (by assumption) ?_
            rotate_left
            · (intro w hSw; (try dsimp only at hSw); have kk := HC.out _ hSw.out; have kk0 := kk.1; have kk1 := kk.2.1; have kk2 := kk.2.2.1; have kk3 := kk.2.2.2; (go_simp <;> with_reducible rfl))
            try simp only [Act.put, List.setIfInBounds_toArray, List.set_cons_zero, List.set_cons_succ]
            refine AnyZ.takeU [23, 21, 20, 18, 17, 14, 13] (i := 12) (oi := ⟨some 39, _, _, _, _, _⟩) (v := ?_) rfl (by kernel_rfl) (by kernel_rfl) (by kernel_rfl) (by kernel_rfl) (by kernel_rfl) (by kernel_rfl) (fun _ _ _ h => h) (Or.inl ⟨by rfl, ?_⟩) (by assumption) ?_
            rotate_left
            · (intro w hSw; (try dsimp only at hSw); have kk := HC.out _ hSw.out; have kk0 := kk.1; have kk1 := kk.2.1; have kk2 := kk.2.2.1; have kk3 := kk.2.2.2; (go_simp <;> with_reducible rfl))
            try simp only [Act.put, List.setIfInBounds_toArray, List.set_cons_zero, List.set_cons_succ]
            refine AnyZ.takeU [23, 21, 20, 18, 17, 14] (i := 13) (oi := ⟨some 40, _, _, _, _, _⟩) (v := ?_) rfl (by kernel_rfl) (by kernel_rfl) (by kernel_rfl) (by kernel_rfl) (by kernel_rfl) (by kernel_rfl) (fun _ _ _ h => h) (Or.inl ⟨by rfl, ?_⟩) (by assumption) ?_
            rotate_left
            · (intro w hSw; (try dsimp only at hSw); have kk := HC.out _ hSw.out; have kk0 := kk.1; have kk1 := kk.2.1; have kk2 := kk.2.2.1; have kk3 := kk.2.2.2; (go_simp <;> with_reducible rfl))
            try simp only [Act.put, List.setIfInBounds_toArray, List.set_cons_zero, List.set_cons_succ]
            refine AnyZ.takeU [23, 21, 20, 18, 17] (i := 14) (oi := ⟨some 41, _, _, _, _, _⟩) (v := ?_) rfl (by kernel_rfl) (by kernel_rfl) (by kernel_rfl) (by kernel_rfl) (by kernel_rfl) (by kernel_rfl) (fun _ _ _ h => h) (Or.inl ⟨by rfl, ?_⟩) (by assumption) ?_
            rotate_left
            · (intro w hSw; (try dsimp only at hSw); have kk := HC.out _ hSw.out; have kk0 := kk.1; have kk1 := kk.2.1; have kk2 := kk.2.2.1; have kk3 := kk.2.2.2; (go_simp <;> with_reducible rfl))
            try simp only [Act.put, List.setIfInBounds_toArray, List.set_cons_zero, List.set_cons_succ]
            refine AnyZ.takeU [23, 21, 20, 18, 17, 16] (i := 15) (oi := ⟨some 42, _, _, _, _, _⟩) (v := ?_) rfl (by kernel_rfl) (by kernel_rfl) (by kernel_rfl) (by kernel_rfl) (by kernel_rfl) (by kernel_rfl) (fun _ _ _ h => h) (Or.inl ⟨by rfl, ?_⟩) (by assumption) ?_
            rotate_left
            · (intro w hSw; (try dsimp only at hSw); have kk := HC.out _ hSw.out; have kk0 := kk.1; have kk1 := kk.2.1; have kk2 := kk.2.2.1; have kk3 := kk.2.2.2; (go_simp <;> with_reducible rfl))
            try simp only [Act.put, List.setIfInBounds_toArray, List.set_cons_zero, List.set_cons_succ]
            refine AnyZ.takeU [23, 21, 20, 18, 17] (i := 16) (oi := ⟨some 43, _, _, _, _, _⟩) (v := ?_) rfl (by kernel_rfl) (by kernel_rfl) (by kernel_rfl) (by kernel_rfl) (by kernel_rfl) (by kernel_rfl) (fun _ _ _ h => h) (Or.inl ⟨by rfl, ?_⟩) (by assumption) ?_
            rotate_left
            · (intro w hSw; (try dsimp only at hSw); have kk := HC.out _ hSw.out; have kk0 := kk.1; have kk1 := kk.2.1; have kk2 := kk.2.2.1; have kk3 := kk.2.2.2; (go_simp <;> with_reducible rfl))
            try simp only [Act.put, List.setIfInBounds_toArray, List.set_cons_zero, List.set_cons_succ]
            refine AnyZ.takeU [23, 21, 20, 18] (i := 17) (oi := ⟨some 44, _, _, _, _, _⟩) (v := ?_) rfl (by kernel_rfl) (by kernel_rfl) (by kernel_rfl) (by kernel_rfl) (by kernel_rfl) (by kernel_rfl) (fun _ _ _ h => h) (Or.inl ⟨by rfl, ?_⟩) (by assumption) ?_
            rotate_left
            · (intro w hSw; (try dsimp only at hSw); have kk := HC.out _ hSw.out; have kk0 := kk.1; have kk1 := kk.2.1; have kk2 := kk.2.2.1; have kk3 := kk.2.2.2; (go_simp <;> with_reducible rfl))
            try simp only [Act.put, List.setIfInBounds_toArray, List.set_cons_zero, List.set_cons_succ]
            refine AnyZ.takeU [23, 21, 20] (i := 18) (oi := ⟨some 45, _, _, _, _, _⟩) (v := ?_) rfl (by kernel_rfl) (by kernel_rfl) (by kernel_rfl) (by kernel_rfl) (by kernel_rfl) (by kernel_rfl) (fun _ _ _ h => h) (Or.inl ⟨by rfl, ?_⟩) (by assumption) ?_
            rotate_left
            · (intro w hSw; (try dsimp only at hSw); have kk := HC.out _ hSw.out; have kk0 := kk.1; have kk1 := kk.2.1; have kk2 := kk.2.2.1; have kk3 := kk.2.2.2; (go_simp <;> with_reducible rfl))
            try simp only [Act.put, List.setIfInBounds_toArray, List.set_cons_zero, List.set_cons_succ]
            refine AnyZ.takeU [23, 21, 20] (i := 19) (oi := ⟨some 46, _, _, _, _, _⟩) (v := ?_) rfl (by kernel_rfl) (by kernel_rfl) (by kernel_rfl) (by kernel_rfl) (by kernel_rfl) (by kernel_rfl) (fun _ _ _ h => h) (Or.inl ⟨by rfl, ?_⟩) (by assumption) ?_
            rotate_left
            · (intro w hSw; (try dsimp only at hSw); have kk := HC.out _ hSw.out; have kk0 := kk.1; have kk1 := kk.2.1; have kk2 := kk.2.2.1; have kk3 := kk.2.2.2; (go_simp <;> with_reducible rfl))
            try simp only [Act.put, List.setIfInBounds_toArray, List.set_cons_zero, List.set_cons_succ]
            refine AnyZ.takeU [23, 21] (i := 20) (oi := ⟨some 47, _, _, _, _, _⟩) (v := ?_) rfl (by kernel_rfl) (by kernel_rfl) (by kernel_rfl) (by kernel_rfl) (by kernel_rfl) (by kernel_rfl) (fun _ _ _ h => h) (Or.inl ⟨by rfl, ?_⟩) (by assumption) ?_
            rotate_left
            · (intro w hSw; (try dsimp only at hSw); have kk := HC.out _ hSw.out; have kk0 := kk.1; have kk1 := kk.2.1; have kk2 := kk.2.2.1; have kk3 := kk.2.2.2; (go_simp <;> with_reducible rfl))
            try simp only [Act.put, List.setIfInBounds_toArray, List.set_cons_zero, List.set_cons_succ]
            refine AnyZ.one (i := 10) (by kernel_rfl) rfl (fun K hK => ?_)
            refine at_step rfl (op_ownS by1ok (.const (.slice none 0 0)) (.tmp 36) _ _ _ _ _ rfl Try.underlying38 infoU rfl WW.heap.size (.slice none 0 0) (.slice (some ⟨xb, xo, none⟩) n x.c) [] (x.s.1.take n) rfl rfl HN.out (src1.out _ hb0.out) hz0.out q1.out q2.out ?_)
            intro v7 w7 ho7 hg7
            have HO7 := Lib.hid ho7
            have hc7 := bl_grownC hb0 hg7 hz0 hob
            have hz7 := sz_grownC hg7 hz0
            have hob7 := Lib.hid ho7.lt
            clear ho7 hg7
            refine hK.out _ _ (.inr hc7) ?_
            clear hK K
            try simp only [Act.put, List.setIfInBounds_toArray, List.set_cons_zero, List.set_cons_succ]
            refine AnyZ.one (i := 21) (by kernel_rfl) rfl (fun K hK => ?_)
            refine at_step rfl (op_ownS by1ok (.tmp 37) (.tmp 47) _ _ _ _ _ rfl Try.underlying38 infoU rfl WW.heap.size v7 (.slice (some ⟨ob, oo + n, none⟩) (32 - n) (a0 - n)) ([] ++ x.s.1.take n) (old.1.drop n) rfl rfl HO7.out (src2.out _ hc7.out) hz7.out q3.out q4.out ?_)
            intro v8 w8 ho8 hg8
            have hc8 := bl_grownC hc7 hg8 hz7 hob7
            obtain ⟨A8, c8, G8, rfl, hin8, hch8, hG8⟩ := HinW.out.newS hc8.out p (s := overS n x.s old) ho8
            replace hin8 := Lib.hid hin8
            replace hch8 := Lib.hid hch8
            replace hG8 := Lib.hid hG8
            clear ho8 hg8
            refine hK.out _ _ (.inr hc8) ?_
            clear hK K
            try simp only [Act.put, List.setIfInBounds_toArray, List.set_cons_zero, List.set_cons_succ]
            have kk := HC.out _ hc8.out
            have kk0 := kk.1
            have kk3 := kk.2.2.2
            have kf : w8.frozen? ⟨sb, p, none⟩ = false := HCf.out _ hc8.out
            refine AnyZ.one (i := 22) (by kernel_rfl) rfl (fun K hK => ?_)
            go_simp
            refine hK.out _ _ (.inr hc8) ?_
            clear hK K
            try simp only [Act.put, List.setIfInBounds_toArray, List.set_cons_zero, List.set_cons_succ]
            refine AnyZ.one (i := 23) (by kernel_rfl) rfl (fun K hK => ?_)
            go_simp
            refine hK.out _ _ (.inl rfl) ?_
            clear hK K
            try simp only [Act.put, List.setIfInBounds_toArray, List.set_cons_zero, List.set_cons_succ]
            refine AnyZ.done (by kernel_rfl) ?_ _
            refine NoPanic.normal ?_
            go_wp2_with fail
            go_roundg (gk - 1)
            case measure => omega
            case rel => exact ⟨k + 1, _, _, G8, by go_num, by omega, by show _ = _; rw [List.length_set]; exact hsl.out, hin8.out, HchW.out.trans hch8.out (fun i _ hi => hi), fun i hi => (hG8.out i hi).elim (hGk.out i) (fun q => .inr (by have := HchW.out.size; omega)), hover.out⟩
          · obtain rfl : n = 32 := by omega
            obtain rfl : a0 = 32 := by omega
            have src2 : Hid (∀ W, Below WW.heap.size WW W → Src Try.prog 1 38 (.slice (some ⟨ob, oo, none⟩) 0 0) (old.1.drop 32).length ((old.1.drop 32).flatMap by1) W) := fun W hW => by
              have e : old.1.drop 32 = [] := List.drop_of_length_le (by rw [old.2.1]; omega)
              rw [e]
              exact Src.ofSlice W Try.underlying38 ⟨ob, oo, none⟩ 0 0 [] (by simp) (by simp) (by simp)
            refine AnyZ.takeU [23, 22, 3, 2, 1] (i := 0) (oi := ⟨some 27, _, _, _, _, _⟩) (v := ?_) rfl (by kernel_rfl) (by kernel_rfl) (by kernel_rfl) (by kernel_rfl) (by kernel_rfl) (by kernel_rfl) (fun _ _ _ h => h) (Or.inl ⟨by rfl, ?_⟩) (by assumption) ?_
            rotate_left
            · (intro w hSw; (try dsimp only at hSw); have kk := HC.out _ hSw.out; have kk0 := kk.1; have kk1 := kk.2.1; have kk2 := kk.2.2.1; have kk3 := kk.2.2.2; (go_simp <;> with_reducible rfl))
            try simp only [Act.put, List.setIfInBounds_toArray, List.set_cons_zero, List.set_cons_succ]
            refine AnyZ.takeU [23, 22, 3, 2] (i := 1) (oi := ⟨some 28, _, _, _, _, _⟩) (v := ?_) rfl (by kernel_rfl) (by kernel_rfl) (by kernel_rfl) (by kernel_rfl) (by kernel_rfl) (by kernel_rfl) (fun _ _ _ h => h) (Or.inl ⟨by rfl, ?_⟩) (by assumption) ?_
            rotate_left
            · (intro w hSw; (try dsimp only at hSw); have kk := HC.out _ hSw.out; have kk0 := kk.1; have kk1 := kk.2.1; have kk2 := kk.2.2.1; have kk3 := kk.2.2.2; (go_simp <;> with_reducible rfl))
            try simp only [Act.put, List.setIfInBounds_toArray, List.set_cons_zero, List.set_cons_succ]
            refine AnyZ.takeU [23, 22, 3] (i := 2) (oi := ⟨some 29, _, _, _, _, _⟩) (v := ?_) rfl (by kernel_rfl) (by kernel_rfl) (by kernel_rfl) (by kernel_rfl) (by kernel_rfl) (by kernel_rfl) (fun _ _ _ h => h) (Or.inl ⟨by rfl, ?_⟩) (by assumption) ?_
            rotate_left
            · (intro w hSw; (try dsimp only at hSw); have kk := HC.out _ hSw.out; have kk0 := kk.1; have kk1 := kk.2.1; have kk2 := kk.2.2.1; have kk3 := kk.2.2.2; (go_simp <;> with_reducible rfl))
            try simp only [Act.put, List.setIfInBounds_toArray, List.set_cons_zero, List.set_cons_succ]
            refine AnyZ.takeU [23, 22] (i := 3) (oi := ⟨some 30, _, _, _, _, _⟩) (v := ?_) rfl (by kernel_rfl) (by kernel_rfl) (by kernel_rfl) (by kernel_rfl) (by kernel_rfl) (by kernel_rfl) (fun _ _ _ h => h) (Or.inl ⟨by rfl, ?_⟩) (by assumption) ?_
            rotate_left
            · (intro w hSw; (try dsimp only at hSw); have kk := HC.out _ hSw.out; have kk0 := kk.1; have kk1 := kk.2.1; have kk2 := kk.2.2.1; have kk3 := kk.2.2.2; (go_simp <;> with_reducible rfl))
            try simp only [Act.put, List.setIfInBounds_toArray, List.set_cons_zero, List.set_cons_succ]
            refine AnyZ.takeU [23, 22, 5] (i := 4) (oi := ⟨some 31, _, _, _, _, _⟩) (v := ?_) rfl (by kernel_rfl) (by kernel_rfl) (by kernel_rfl) (by kernel_rfl) (by kernel_rfl) (by kernel_rfl) (fun _ _ _ h => h) (Or.inl ⟨by rfl, ?_⟩) (by assumption) ?_
            rotate_left
            · (intro w hSw; (try dsimp only at hSw); have kk := HC.out _ hSw.out; have kk0 := kk.1; have kk1 := kk.2.1; have kk2 := kk.2.2.1; have kk3 := kk.2.2.2; (go_simp <;> with_reducible rfl))
            try simp only [Act.put, List.setIfInBounds_toArray, List.set_cons_zero, List.set_cons_succ]
            refine AnyZ.takeU [23, 22] (i := 5) (oi := ⟨some 32, _, _, _, _, _⟩) (v := ?_) rfl (by kernel_rfl) (by kernel_rfl) (by kernel_rfl) (by kernel_rfl) (by kernel_rfl) (by kernel_rfl) (fun _ _ _ h => h) (Or.inl ⟨by rfl, ?_⟩) (by assumption) ?_
            rotate_left
            · (intro w hSw; (try dsimp only at hSw); have kk := HC.out _ hSw.out; have kk0 := kk.1; have kk1 := kk.2.1; have kk2 := kk.2.2.1; have kk3 := kk.2.2.2; (go_simp <;> with_reducible rfl))
            try simp only [Act.put, List.setIfInBounds_toArray, List.set_cons_zero, List.set_cons_succ]
            refine AnyZ.takeU [23, 21, 10, 9, 7] (i := 6) (oi := ⟨some 33, _, _, _, _, _⟩) (v := ?_) rfl (by kernel_rfl) (by kernel_rfl) (by kernel_rfl) (by kernel_rfl) (by kernel_rfl) (by kernel_rfl) (fun _ _ _ h => h) (Or.inl ⟨by rfl, ?_⟩) (by assumption) ?_
            rotate_left
            · (intro w hSw; (try dsimp only at hSw); have kk := HC.out _ hSw.out; have kk0 := kk.1; have kk1 := kk.2.1; have kk2 := kk.2.2.1; have kk3 := kk.2.2.2; (go_simp <;> with_reducible rfl))
            try simp only [Act.put, List.setIfInBounds_toArray, List.set_cons_zero, List.set_cons_succ]
            refine AnyZ.takeU [23, 21, 10, 9] (i := 7) (oi := ⟨some 34, _, _, _, _, _⟩) (v := ?_) rfl (by kernel_rfl) (by kernel_rfl) (by kernel_rfl) (by kernel_rfl) (by kernel_rfl) (by kernel_rfl) (fun _ _ _ h => h) (Or.inl ⟨by rfl, ?_⟩) (by assumption) ?_
            rotate_left
            · (intro w hSw; (try dsimp only at hSw); have kk := HC.out _ hSw.out; have kk0 := kk.1; have kk1 := kk.2.1; have kk2 := kk.2.2.1; have kk3 := kk.2.2.2; (go_simp <;> with_reducible rfl))
            try simp only [Act.put, List.setIfInBounds_toArray, List.set_cons_zero, List.set_cons_succ]
            refine AnyZ.takeU [23, 21, 10, 9] (i := 8) (oi := ⟨some 35, _, _, _, _, _⟩) (v := ?_) rfl (by kernel_rfl) (by kernel_rfl) (by kernel_rfl) (by kernel_rfl) (by kernel_rfl) (by kernel_rfl) (fun _ _ _ h => h) (Or.inl ⟨by rfl, ?_⟩) (by assumption) ?_
            rotate_left
            · (intro w hSw; (try dsimp only at hSw); have kk := HC.out _ hSw.out; have kk0 := kk.1; have kk1 := kk.2.1; have kk2 := kk.2.2.1; have kk3 := kk.2.2.2; (go_simp <;> with_reducible rfl))
            try simp only [Act.put, List.setIfInBounds_toArray, List.set_cons_zero, List.set_cons_succ]
            refine AnyZ.takeU [23, 21, 10] (i := 9) (oi := ⟨some 36, _, _, _, _, _⟩) (v := ?_) rfl (by kernel_rfl) (by kernel_rfl) (by kernel_rfl) (by kernel_rfl) (by kernel_rfl) (by kernel_rfl) (fun _ _ _ h => h) (Or.inl ⟨by rfl, ?_⟩) (by assumption) ?_
            rotate_left
            · (intro w hSw; (try dsimp only at hSw); have kk := HC.out _ hSw.out; have kk0 := kk.1; have kk1 := kk.2.1; have kk2 := kk.2.2.1; have kk3 := kk.2.2.2; (go_simp <;> with_reducible rfl))
            try simp only [Act.put, List.setIfInBounds_toArray, List.set_cons_zero, List.set_cons_succ]
            refine AnyZ.takeU [23, 21, 20, 18, 17, 14, 13, 12] (i := 11) (oi := ⟨some 38, _, _, _, _, _⟩) (v := ?_) rfl (by kernel_rfl) (by kernel_rfl) (by kernel_rfl) (by kernel_rfl) (by kernel_rfl) (by kernel_rfl) (fun _ _ _ h => h) (Or.inl ⟨by rfl, ?_⟩) (by assumption) ?_
            rotate_left
            · (intro w hSw; (try dsimp only at hSw); have kk := HC.out _ hSw.out; have kk0 := kk.1; have kk1 := kk.2.1; have kk2 := kk.2.2.1; have kk3 := kk.2.2.2; (go_simp <;> with_reducible rfl))
            try simp only [Act.put, List.setIfInBounds_toArray, List.set_cons_zero, List.set_cons_succ]
            refine AnyZ.takeU [23, 21, 20, 18, 17, 14, 13] (i := 12) (oi := ⟨some 39, _, _, _, _, _⟩) (v := ?_) rfl (by kernel_rfl) (by kernel_rfl) (by kernel_rfl) (by kernel_rfl) (by kernel_rfl) (by kernel_rfl) (fun _ _ _ h => h) (Or.inl ⟨by rfl, ?_⟩) (by assumption) ?_
            rotate_left
            · (intro w hSw; (try dsimp only at hSw); have kk := HC.out _ hSw.out; have kk0 := kk.1; have kk1 := kk.2.1; have kk2 := kk.2.2.1; have kk3 := kk.2.2.2; (go_simp <;> with_reducible rfl))
            try simp only [Act.put, List.setIfInBounds_toArray, List.set_cons_zero, List.set_cons_succ]
            refine AnyZ.takeU [23, 21, 20, 18, 17, 14] (i := 13) (oi := ⟨some 40, _, _, _, _, _⟩) (v := ?_) rfl (by kernel_rfl) (by kernel_rfl) (by kernel_rfl) (by kernel_rfl) (by kernel_rfl) (by kernel_rfl) (fun _ _ _ h => h) (Or.inl ⟨by rfl, ?_⟩) (by assumption) ?_
            rotate_left
            · (intro w hSw; (try dsimp only at hSw); have kk := HC.out _ hSw.out; have kk0 := kk.1; have kk1 := kk.2.1; have kk2 := kk.2.2.1; have kk3 := kk.2.2.2; (go_simp <;> with_reducible rfl))
            try simp only [Act.put, List.setIfInBounds_toArray, List.set_cons_zero, List.set_cons_succ]
            refine AnyZ.takeU [23, 21, 20, 18, 17] (i := 14) (oi := ⟨some 41, _, _, _, _, _⟩) (v := ?_) rfl (by kernel_rfl) (by kernel_rfl) (by kernel_rfl) (by kernel_rfl) (by kernel_rfl) (by kernel_rfl) (fun _ _ _ h => h) (Or.inl ⟨by rfl, ?_⟩) (by assumption) ?_
            rotate_left
            · (intro w hSw; (try dsimp only at hSw); have kk := HC.out _ hSw.out; have kk0 := kk.1; have kk1 := kk.2.1; have kk2 := kk.2.2.1; have kk3 := kk.2.2.2; (go_simp <;> with_reducible rfl))
            try simp only [Act.put, List.setIfInBounds_toArray, List.set_cons_zero, List.set_cons_succ]
            refine AnyZ.takeU [23, 21, 20, 18, 17, 16] (i := 15) (oi := ⟨some 42, _, _, _, _, _⟩) (v := ?_) rfl (by kernel_rfl) (by kernel_rfl) (by kernel_rfl) (by kernel_rfl) (by kernel_rfl) (by kernel_rfl) (fun _ _ _ h => h) (Or.inl ⟨by rfl, ?_⟩) (by assumption) ?_
            rotate_left
            · (intro w hSw; (try dsimp only at hSw); have kk := HC.out _ hSw.out; have kk0 := kk.1; have kk1 := kk.2.1; have kk2 := kk.2.2.1; have kk3 := kk.2.2.2; (go_simp <;> with_reducible rfl))
            try simp only [Act.put, List.setIfInBounds_toArray, List.set_cons_zero, List.set_cons_succ]
            refine AnyZ.takeU [23, 21, 20, 18, 17] (i := 16) (oi := ⟨some 43, _, _, _, _, _⟩) (v := ?_) rfl (by kernel_rfl) (by kernel_rfl) (by kernel_rfl) (by kernel_rfl) (by kernel_rfl) (by kernel_rfl) (fun _ _ _ h => h) (Or.inl ⟨by rfl, ?_⟩) (by assumption) ?_
            rotate_left
            · (intro w hSw; (try dsimp only at hSw); have kk := HC.out _ hSw.out; have kk0 := kk.1; have kk1 := kk.2.1; have kk2 := kk.2.2.1; have kk3 := kk.2.2.2; (go_simp <;> with_reducible rfl))
            try simp only [Act.put, List.setIfInBounds_toArray, List.set_cons_zero, List.set_cons_succ]
            refine AnyZ.takeU [23, 21, 20, 18] (i := 17) (oi := ⟨some 44, _, _, _, _, _⟩) (v := ?_) rfl (by kernel_rfl) (by kernel_rfl) (by kernel_rfl) (by kernel_rfl) (by kernel_rfl) (by kernel_rfl) (fun _ _ _ h => h) (Or.inl ⟨by rfl, ?_⟩) (by assumption) ?_
            rotate_left
            · (intro w hSw; (try dsimp only at hSw); have kk := HC.out _ hSw.out; have kk0 := kk.1; have kk1 := kk.2.1; have kk2 := kk.2.2.1; have kk3 := kk.2.2.2; (go_simp <;> with_reducible rfl))
            try simp only [Act.put, List.setIfInBounds_toArray, List.set_cons_zero, List.set_cons_succ]
            refine AnyZ.takeU [23, 21, 20] (i := 18) (oi := ⟨some 45, _, _, _, _, _⟩) (v := ?_) rfl (by kernel_rfl) (by kernel_rfl) (by kernel_rfl) (by kernel_rfl) (by kernel_rfl) (by kernel_rfl) (fun _ _ _ h => h) (Or.inl ⟨by rfl, ?_⟩) (by assumption) ?_
            rotate_left
            · (intro w hSw; (try dsimp only at hSw); have kk := HC.out _ hSw.out; have kk0 := kk.1; have kk1 := kk.2.1; have kk2 := kk.2.2.1; have kk3 := kk.2.2.2; (go_simp <;> with_reducible rfl))
            try simp only [Act.put, List.setIfInBounds_toArray, List.set_cons_zero, List.set_cons_succ]
            refine AnyZ.takeU [23, 21, 20] (i := 19) (oi := ⟨some 46, _, _, _, _, _⟩) (v := ?_) rfl (by kernel_rfl) (by kernel_rfl) (by kernel_rfl) (by kernel_rfl) (by kernel_rfl) (by kernel_rfl) (fun _ _ _ h => h) (Or.inl ⟨by rfl, ?_⟩) (by assumption) ?_
            rotate_left
            · (intro w hSw; (try dsimp only at hSw); have kk := HC.out _ hSw.out; have kk0 := kk.1; have kk1 := kk.2.1; have kk2 := kk.2.2.1; have kk3 := kk.2.2.2; (go_simp <;> with_reducible rfl))
            try simp only [Act.put, List.setIfInBounds_toArray, List.set_cons_zero, List.set_cons_succ]
            refine AnyZ.takeU [23, 21] (i := 20) (oi := ⟨some 47, _, _, _, _, _⟩) (v := ?_) rfl (by kernel_rfl) (by kernel_rfl) (by kernel_rfl) (by kernel_rfl) (by kernel_rfl) (by kernel_rfl) (fun _ _ _ h => h) (Or.inl ⟨by rfl, ?_⟩) (by assumption) ?_
            rotate_left
            · (intro w hSw; (try dsimp only at hSw); have kk := HC.out _ hSw.out; have kk0 := kk.1; have kk1 := kk.2.1; have kk2 := kk.2.2.1; have kk3 := kk.2.2.2; (go_simp <;> with_reducible rfl))
            try simp only [Act.put, List.setIfInBounds_toArray, List.set_cons_zero, List.set_cons_succ]
            refine AnyZ.one (i := 10) (by kernel_rfl) rfl (fun K hK => ?_)
            refine at_step rfl (op_ownS by1ok (.const (.slice none 0 0)) (.tmp 36) _ _ _ _ _ rfl Try.underlying38 infoU rfl WW.heap.size (.slice none 0 0) (.slice (some ⟨xb, xo, none⟩) 32 x.c) [] (x.s.1.take 32) rfl rfl HN.out (src1.out _ hb0.out) hz0.out q1.out q2.out ?_)
            intro v7 w7 ho7 hg7
            have HO7 := Lib.hid ho7
            have hc7 := bl_grownC hb0 hg7 hz0 hob
            have hz7 := sz_grownC hg7 hz0
            have hob7 := Lib.hid ho7.lt
            clear ho7 hg7
            refine hK.out _ _ (.inr hc7) ?_
            clear hK K
            try simp only [Act.put, List.setIfInBounds_toArray, List.set_cons_zero, List.set_cons_succ]
            refine AnyZ.one (i := 21) (by kernel_rfl) rfl (fun K hK => ?_)
            refine at_step rfl (op_ownS by1ok (.tmp 37) (.tmp 47) _ _ _ _ _ rfl Try.underlying38 infoU rfl WW.heap.size v7 (.slice (some ⟨ob, oo, none⟩) 0 0) ([] ++ x.s.1.take 32) (old.1.drop 32) rfl rfl HO7.out (src2.out _ hc7.out) hz7.out q3.out q4.out ?_)
            intro v8 w8 ho8 hg8
            have hc8 := bl_grownC hc7 hg8 hz7 hob7
            obtain ⟨A8, c8, G8, rfl, hin8, hch8, hG8⟩ := HinW.out.newS hc8.out p (s := overS 32 x.s old) ho8
            replace hin8 := Lib.hid hin8
            replace hch8 := Lib.hid hch8
            replace hG8 := Lib.hid hG8
            clear ho8 hg8
            refine hK.out _ _ (.inr hc8) ?_
            clear hK K
            try simp only [Act.put, List.setIfInBounds_toArray, List.set_cons_zero, List.set_cons_succ]
            have kk := HC.out _ hc8.out
            have kk0 := kk.1
            have kk3 := kk.2.2.2
            have kf : w8.frozen? ⟨sb, p, none⟩ = false := HCf.out _ hc8.out
            refine AnyZ.one (i := 22) (by kernel_rfl) rfl (fun K hK => ?_)
            go_simp
            refine hK.out _ _ (.inr hc8) ?_
            clear hK K
            try simp only [Act.put, List.setIfInBounds_toArray, List.set_cons_zero, List.set_cons_succ]
            refine AnyZ.one (i := 23) (by kernel_rfl) rfl (fun K hK => ?_)
            go_simp
            refine hK.out _ _ (.inl rfl) ?_
            clear hK K
            try simp only [Act.put, List.setIfInBounds_toArray, List.set_cons_zero, List.set_cons_succ]
            refine AnyZ.done (by kernel_rfl) ?_ _
            refine NoPanic.normal ?_
            go_wp2_with fail
            go_roundg (gk - 1)
            case measure => omega
            case rel => exact ⟨k + 1, _, _, G8, by go_num, by omega, by show _ = _; rw [List.length_set]; exact hsl.out, hin8.out, HchW.out.trans hch8.out (fun i _ hi => hi), fun i hi => (hG8.out i hi).elim (hGk.out i) (fun q => .inr (by have := HchW.out.size; omega)), hover.out⟩
      · have htb : ((k : Int) == ft) = false := by simpa using ht
        rcases (Decidable.em (k < fk.length)) with hkl | hkl
        · have hfx : fk[k]? = some fk[k] := List.getElem?_eq_getElem hkl
          have i2 : (k : Int) < (fk.length : Int) := by omega
          obtain ⟨pb, fo, rfl, fc⟩ : ∃ pb fo, KB = some ⟨pb, fo, none⟩ ∧ WW.cell? ⟨pb, fo + k, none⟩ = some (.bool fk[k]) := by
            have hne : fk ≠ [] := fun e => by rw [e] at hkl; simp at hkl
            rcases HfkW.out hne with h0 | ⟨pb, fo, rfl, fl, fcell⟩
            · exact absurd h0 hne
            · refine ⟨pb, fo, rfl, ?_⟩
              have := fcell k _ hfx 0 _ rfl
              rwa [Nat.mul_one, Nat.add_zero] at this
          generalize hv : fk[k] = v at *
          rcases v with _ | _
          · have q4 := Lib.hid (hstep.out S' (by rw [if_neg ht, if_neg (by rw [hfx]; simp)]))
            go_wp2
            go_roundg (gk - 1)
            case measure => omega
            case rel => exact ⟨k + 1, xs', S', Gk, by go_num, by omega, hsl.out, HinW.out, HchW.out, hGk.out, q4.out⟩
          · have q4 := Lib.hid (hstep.out _ (by rw [if_neg ht, if_pos hfx]))
            have hinD := Lib.hid (HinW.out.below (Below.refl _ WW).drew)
            have hinnD := Lib.hid (hinnW.out.chg (w' := WW.drew) (H := fun _ => False) (Below.chg (Below.refl _ WW).drew _) (fun _ _ h => h))
            have q0 : WW.drew.cell? ⟨wr.heap.size, 0, none⟩ = some (.int .i64 p) := blk_cell (w := WW) HK.out _
            have q1 : WW.drew.cell? ⟨wr.heap.size, 1, none⟩ = some (.slice x.A 32 x.c) := blk_cell (w := WW) HK.out _
            have k0 : WW.drew.cell? ⟨g, 0, none⟩ = some (.slice (some ⟨sb, 0, none⟩) xs.length ac) := by rw [blk_cell hinD.out.blk]; rfl
            have kf : WW.drew.frozen? ⟨sb, p, none⟩ = false := by
              obtain ⟨cs', hh⟩ := own_elem hinD.out.o1 sb rfl
              exact blk_free hh p
            obtain ⟨y, kc⟩ : ∃ y, WW.cell? ⟨sb, p, none⟩ = some y := by
              obtain ⟨A0, a0, sb0, es0, cs0, inn0⟩ := HinW.out.at hpS.out
              cases es0
              exact ⟨_, cs0⟩
            have hfin := Lib.hid (hinD.out.setS rfl p hinnD.out)
            go_wp2_with fail
            refine wp_region_noPanic ?_
            refine wp_regionZ 9 (fun W => Hid (W = WW.drew)) (by kernel_rfl) ?_
            have hS0 : Hid (WW.drew = WW.drew) := rfl
            refine AnyZ.takeU [9, 8, 3, 2, 1] (i := 0) (oi := ⟨some 62, _, _, _, _, _⟩) (v := ?_) rfl (by kernel_rfl) (by kernel_rfl) (by kernel_rfl) (by kernel_rfl) (by kernel_rfl) (by kernel_rfl) (fun _ _ _ h => h) (Or.inl ⟨by rfl, ?_⟩) (by assumption) ?_
            rotate_left
            · (intro w hSw; (try dsimp only at hSw); obtain rfl := hSw.out; (go_simp <;> with_reducible rfl))
            try simp only [Act.put, List.setIfInBounds_toArray, List.set_cons_zero, List.set_cons_succ]
            refine AnyZ.takeU [9, 8, 3, 2] (i := 1) (oi := ⟨some 63, _, _, _, _, _⟩) (v := ?_) rfl (by kernel_rfl) (by kernel_rfl) (by kernel_rfl) (by kernel_rfl) (by kernel_rfl) (by kernel_rfl) (fun _ _ _ h => h) (Or.inl ⟨by rfl, ?_⟩) (by assumption) ?_
            rotate_left
            · (intro w hSw; (try dsimp only at hSw); obtain rfl := hSw.out; (go_simp <;> with_reducible rfl))
            try simp only [Act.put, List.setIfInBounds_toArray, List.set_cons_zero, List.set_cons_succ]
            refine AnyZ.takeU [9, 8, 3] (i := 2) (oi := ⟨some 64, _, _, _, _, _⟩) (v := ?_) rfl (by kernel_rfl) (by kernel_rfl) (by kernel_rfl) (by kernel_rfl) (by kernel_rfl) (by kernel_rfl) (fun _ _ _ h => h) (Or.inl ⟨by rfl, ?_⟩) (by assumption) ?_
            rotate_left
            · (intro w hSw; (try dsimp only at hSw); obtain rfl := hSw.out; (go_simp <;> with_reducible rfl))
            try simp only [Act.put, List.setIfInBounds_toArray, List.set_cons_zero, List.set_cons_succ]
            refine AnyZ.takeU [9, 8] (i := 3) (oi := ⟨some 65, _, _, _, _, _⟩) (v := ?_) rfl (by kernel_rfl) (by kernel_rfl) (by kernel_rfl) (by kernel_rfl) (by kernel_rfl) (by kernel_rfl) (fun _ _ _ h => h) (Or.inl ⟨by rfl, ?_⟩) (by assumption) ?_
            rotate_left
            · (intro w hSw; (try dsimp only at hSw); obtain rfl := hSw.out; (go_simp <;> with_reducible rfl))
            try simp only [Act.put, List.setIfInBounds_toArray, List.set_cons_zero, List.set_cons_succ]
            refine AnyZ.takeU [9, 8, 5] (i := 4) (oi := ⟨some 66, _, _, _, _, _⟩) (v := ?_) rfl (by kernel_rfl) (by kernel_rfl) (by kernel_rfl) (by kernel_rfl) (by kernel_rfl) (by kernel_rfl) (fun _ _ _ h => h) (Or.inl ⟨by rfl, ?_⟩) (by assumption) ?_
            rotate_left
            · (intro w hSw; (try dsimp only at hSw); obtain rfl := hSw.out; (go_simp <;> with_reducible rfl))
            try simp only [Act.put, List.setIfInBounds_toArray, List.set_cons_zero, List.set_cons_succ]
            refine AnyZ.takeU [9, 8] (i := 5) (oi := ⟨some 67, _, _, _, _, _⟩) (v := ?_) rfl (by kernel_rfl) (by kernel_rfl) (by kernel_rfl) (by kernel_rfl) (by kernel_rfl) (by kernel_rfl) (fun _ _ _ h => h) (Or.inl ⟨by rfl, ?_⟩) (by assumption) ?_
            rotate_left
            · (intro w hSw; (try dsimp only at hSw); obtain rfl := hSw.out; (go_simp <;> with_reducible rfl))
            try simp only [Act.put, List.setIfInBounds_toArray, List.set_cons_zero, List.set_cons_succ]
            refine AnyZ.takeU [9, 7] (i := 6) (oi := ⟨some 68, _, _, _, _, _⟩) (v := ?_) rfl (by kernel_rfl) (by kernel_rfl) (by kernel_rfl) (by kernel_rfl) (by kernel_rfl) (by kernel_rfl) (fun _ _ _ h => h) (Or.inl ⟨by rfl, ?_⟩) (by assumption) ?_
            rotate_left
            · (intro w hSw; (try dsimp only at hSw); obtain rfl := hSw.out; (go_simp <;> with_reducible rfl))
            try simp only [Act.put, List.setIfInBounds_toArray, List.set_cons_zero, List.set_cons_succ]
            refine AnyZ.takeU [9] (i := 7) (oi := ⟨some 69, _, _, _, _, _⟩) (v := ?_) rfl (by kernel_rfl) (by kernel_rfl) (by kernel_rfl) (by kernel_rfl) (by kernel_rfl) (by kernel_rfl) (fun _ _ _ h => h) (Or.inl ⟨by rfl, ?_⟩) (by assumption) ?_
            rotate_left
            · (intro w hSw; (try dsimp only at hSw); obtain rfl := hSw.out; (go_simp <;> with_reducible rfl))
            try simp only [Act.put, List.setIfInBounds_toArray, List.set_cons_zero, List.set_cons_succ]
            refine AnyZ.takeU [9] (i := 8) (oi := ⟨some 70, _, _, _, _, _⟩) (v := ?_) rfl (by kernel_rfl) (by kernel_rfl) (by kernel_rfl) (by kernel_rfl) (by kernel_rfl) (by kernel_rfl) (fun _ _ _ h => h) (Or.inl ⟨by rfl, ?_⟩) (by assumption) ?_
            rotate_left
            · (intro w hSw; (try dsimp only at hSw); obtain rfl := hSw.out; (go_simp <;> with_reducible rfl))
            try simp only [Act.put, List.setIfInBounds_toArray, List.set_cons_zero, List.set_cons_succ]
            refine AnyZ.one (i := 9) (by kernel_rfl) rfl (fun K hK => ?_)
            go_simp
            refine hK.out _ _ (.inl rfl) ?_
            clear hK K
            try simp only [Act.put, List.setIfInBounds_toArray, List.set_cons_zero, List.set_cons_succ]
            refine AnyZ.done (by kernel_rfl) ?_ _
            refine NoPanic.normal ?_
            go_wp2_with fail
            go_roundg (gk - 1)
            case measure => omega
            case rel => exact ⟨k + 1, _, _, Gk, by go_num, by omega, by show _ = _; rw [List.length_set]; exact hsl.out, hfin.out.1, (HchW.out.trans (Below.chg (Below.refl _ WW).drew F) (fun _ _ h => h)).trans hfin.out.2 (fun i _ hi => hi), hGk.out, q4.out⟩
        · have q4 := Lib.hid (hstep.out S' (by rw [if_neg ht, if_neg (by rw [List.getElem?_eq_none (by omega)]; simp)]))
          have i2 : ¬ (k : Int) < (fk.length : Int) := by omega
          go_wp2
          go_roundg (gk - 1)
          case measure => omega
          case rel => exact ⟨k + 1, xs', S', Gk, by go_num, by omega, hsl.out, HinW.out, HchW.out, hGk.out, q4.out⟩
    · obtain rfl : k = cs.length := by omega
      have c1 : wr.cell? ⟨g, 1, none⟩ = some (.slice B cs.length bc) := by rw [blk_cell hin.out.blk]; rfl
      have cf := fun i => blk_free hin.out.blk i
      have c3 : wr.cell? ⟨g, 3, none⟩ = some (.int .i64 X.left) := by rw [blk_cell hin.out.blk]; rfl
      have c4 : wr.cell? ⟨g, 4, none⟩ = some (.bool X.dead) := by rw [blk_cell hin.out.blk]; rfl
      have hfin : Hid (RefDid F G w (((wr.setCell ⟨g, 1, none⟩ (.slice none 0 0)).setCell ⟨g, 4, none⟩ (.bool false)).setCell ⟨g, 3, none⟩ (.int .i64 (-1))) g (X.crash ⟨fk, ft, fb⟩)) := by
        show RefDid _ _ _ _ _ _
        have e := hcr.out
        rw [List.drop_of_length_le (by rw [← hlc.out]; omega)] at e
        simp only [crashS] at e
        have := (RefIn.crash hin.out).after ((Below.chg HB1.out F).trans hch.out (fun i _ hi => hi)) (fun i hi => .inl hi) hGk.out
        rw [e] at this
        exact this
      clear hin hch y0 y1 y2 hxr
      go_wp2
      go_end0
      exact ⟨rfl, hfin.out⟩
theorem refCrash_calls (h : RefAt w g F G X) (hv : ∀ x ∈ X.cache, 0 ≤ x.pos ∧ x.pos < X.S.length) (f : Fate) (KB : Option Addr) (kc : Nat) (hf : Rd boolEnc 1 w KB f.keep) (hKF : f.keep ≠ [] → ∀ a, KB = some a → ¬ F a.block) :
    Calls Try.prog 45 #[.pointer (some ⟨g, 0, none⟩), .agg #[.slice KB f.keep.length kc, .int .i64 f.torn, .int .i64 f.bytes]] w fun e w' => e = .returned (.tuple #[]) ∧ RefDid F G w w' g (X.crash f) :=
  refCrash_calls0 h hv f.keep f.torn f.bytes KB kc hf hKF
end
end Go.Proofs.Ytglpckdmiohciaa
