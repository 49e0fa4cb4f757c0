/- ref27.Patch -/
import Derived.Test.YtofdmkglhjpbcaaPatchR
import Derived.Deep.RegionHeld3
namespace Go.Proofs.Ytofdmkglhjpbcaa
open Go.RowKit
set_option linter.unusedVariables false
set_option linter.unusedSimpArgs false

theorem chg_first {key was now : Str} {had has : Bool} : chgErr ⟨key, had, was, has, now⟩ = (if keyErr key ≠ 0 then keyErr key else if textE had was ≠ 0 then textE had was else textE has now) := rfl

set_option maxRecDepth 100000 in
set_option maxHeartbeats 2000000 in
theorem Patch_calls (w : World) (A : Option Addr) (c : Nat) (l : List Change) (hm : l.length ≤ 1000000) (hs : ∀ x ∈ l, x.key.size ≤ 9223372036854775807 ∧ x.was.size ≤ 9223372036854775807 ∧ x.now.size ≤ 9223372036854775807) (h : Rd Change.enc 5 w A l) :
    Calls Try.prog 38 #[.slice A l.length c] w fun e w' => e = .returned (.int .i64 (patchErr l)) ∧ Below w.heap.size w w' := by
  have hs' := Lib.hid hs
  have HA := Lib.hid h
  clear hs h
  go_enter Try.func38, Try.ntmps38
  go_wp2
  go_loopg [9] l.length (fun n i wr => ∃ k : Nat, i = .int .i64 k ∧ k + n = l.length ∧ Hid (patchErr l = patchGo (prevKey l k) (l.drop k)) ∧ Hid (Below w.heap.size w wr))
  case atStart => exact ⟨0, rfl, by omega, rfl, Below.refl _ _⟩
  case round =>
    obtain ⟨k, rfl, hk, hg, hb⟩ := hrel
    by_cases hlt : k < l.length
    · obtain ⟨n', hn'⟩ : ∃ n', gk = n' + 1 := ⟨gk - 1, by omega⟩
      subst hn'
      rcases HA.out.below hb.out (Nat.le_refl _) with h0 | ⟨b, off, rfl, hbl, hc⟩
      · simp [h0] at hlt
      have hx := List.getElem?_eq_getElem hlt
      have c0 : wr.cell? ⟨b, off + k * 5, none⟩ = some (.string l[k].key) := hc k l[k] hx 0 _ rfl
      have c1 : wr.cell? ⟨b, off + k * 5 + 1, none⟩ = some (.bool l[k].had) := hc k l[k] hx 1 _ rfl
      have c2 : wr.cell? ⟨b, off + k * 5 + 2, none⟩ = some (.string l[k].was) := hc k l[k] hx 2 _ rfl
      have c3 : wr.cell? ⟨b, off + k * 5 + 3, none⟩ = some (.bool l[k].has) := hc k l[k] hx 3 _ rfl
      have c4 : wr.cell? ⟨b, off + k * 5 + 4, none⟩ = some (.string l[k].now) := hc k l[k] hx 4 _ rfl
      have hd : l.drop k = l[k] :: l.drop (k + 1) := by simp
      have hpn : Hid (prevKey l (k + 1) = some l[k].key) := prevKey_succ hx
      have hg2 : Hid (patchErr l = patchGo (prevKey l k) (l[k] :: l.drop (k + 1))) := by show _ = _; rw [hg.out, hd]
      obtain ⟨s0, s1, s2⟩ := hs'.out l[k] (List.getElem_mem _)
      have p0 : ∀ j, k = j + 1 → ∃ pk : Str, Hid (prevKey l k = some pk) ∧ wr.cell? ⟨b, off + j * 5, none⟩ = some (.string pk) := fun j e => by
        have hj : j < l.length := by omega
        exact ⟨l[j].key, by subst e; exact prevKey_succ (List.getElem?_eq_getElem hj), hc j l[j] (List.getElem?_eq_getElem hj) 0 _ rfl⟩
      have hz : Hid (k = 0 → prevKey l k = none) := fun e => by subst e; rfl
      generalize l[k] = x at *
      obtain ⟨key, had, was, has, now⟩ := x
      simp only at c0 c1 c2 c3 c4 s0 s1 s2 hpn
      have KK := Lib.hid (fun W => refKey_calls W key s0)
      have KW := Lib.hid (fun W => rside_calls W had was s1)
      have KN := Lib.hid (fun W => rside_calls W has now s2)
      have hce : Hid (chgErr ⟨key, had, was, has, now⟩ = (if keyErr key ≠ 0 then keyErr key else if textE had was ≠ 0 then textE had was else textE has now)) := rfl
      clear hc hx hd hg s0 s1 s2
      generalize keyErr key = e1 at *
      generalize textE had was = e2 at *
      generalize textE has now = e3 at *
      have hbN := Lib.hid (blk_new wr (.cells #[.string key, .bool had, .string was, .bool has, .string now] 35))
      have hb0 : Hid (Below w.heap.size w (wr.alloc (.cells #[.string key, .bool had, .string was, .bool has, .string now] 35))) := bl_alloc hb.out _
      have hq0 : Hid (∀ j pk, k = j + 1 → wr.cell? ⟨b, off + j * 5, none⟩ = some (.string pk) → (wr.alloc (.cells #[.string key, .bool had, .string was, .bool has, .string now] 35)).cell? ⟨b, off + j * 5, none⟩ = some (.string pk)) := fun j pk _ h => ((bl_alloc (Below.refl _ wr) _).cell (by exact hbl)).trans h
      go_wp2_with fail
      generalize hW0 : wr.alloc (.cells #[.string key, .bool had, .string was, .bool has, .string now] 35) = W0 at *
      have HF : Hid (∀ W, Below W0.heap.size W0 W → W.cell? ⟨wr.heap.size, 0, none⟩ = some (.string key) ∧ W.cell? ⟨wr.heap.size, 1, none⟩ = some (.bool had) ∧ W.cell? ⟨wr.heap.size, 2, none⟩ = some (.string was) ∧ W.cell? ⟨wr.heap.size, 3, none⟩ = some (.bool has) ∧ W.cell? ⟨wr.heap.size, 4, none⟩ = some (.string now)) := fun W hW => by
        have h := blk_below hW hbN.out (blk_lt hbN.out)
        exact ⟨by rw [blk_cell h]; rfl, by rw [blk_cell h]; rfl, by rw [blk_cell h]; rfl, by rw [blk_cell h]; rfl, by rw [blk_cell h]; rfl⟩
      have hbl0 : Hid (b < W0.heap.size) := by show _ < _; rw [← hW0, World.size_alloc]; omega
      generalize wr.heap.size = N at *
      clear hW0 c0 c1 c2 c3 c4
      refine wp_region_noPanic ?_
      refine wp_region_held_drew (S := (fun W' => Hid (Below W0.heap.size W0 W'))) (by kernel_rfl) ((Below.refl _ _).drew) (fun hHeld => ?_)
      refine wpAnyH_take (i := 0) (oi := ⟨some 14, _, _, _, _, _⟩) (v := ?_) rfl (by kernel_rfl) (by kernel_rfl) (by kernel_rfl) (fun _ _ _ h => h) (Or.inl ⟨by rfl, ?_⟩) (by assumption) ?_
      rotate_left
      · (intro w hSw; (try dsimp only at hSw); obtain ⟨y0, y1, y2, y3, y4⟩ := HF.out _ hSw.out; (go_simp <;> with_reducible rfl))
      try simp only [Act.put, List.setIfInBounds_toArray, List.set_cons_zero, List.set_cons_succ]
      refine wpAnyH_take (i := 1) (oi := ⟨some 15, _, _, _, _, _⟩) (v := ?_) rfl (by kernel_rfl) (by kernel_rfl) (by kernel_rfl) (fun _ _ _ h => h) (Or.inl ⟨by rfl, ?_⟩) (by assumption) ?_
      rotate_left
      · (intro w hSw; (try dsimp only at hSw); obtain ⟨y0, y1, y2, y3, y4⟩ := HF.out _ hSw.out; (go_simp <;> with_reducible rfl))
      try simp only [Act.put, List.setIfInBounds_toArray, List.set_cons_zero, List.set_cons_succ]
      refine wpAnyH_take (i := 3) (oi := ⟨some 17, _, _, _, _, _⟩) (v := ?_) rfl (by kernel_rfl) (by kernel_rfl) (by kernel_rfl) (fun _ _ _ h => h) (Or.inl ⟨by rfl, ?_⟩) (by assumption) ?_
      rotate_left
      · (intro w hSw; (try dsimp only at hSw); obtain ⟨y0, y1, y2, y3, y4⟩ := HF.out _ hSw.out; (go_simp <;> with_reducible rfl))
      try simp only [Act.put, List.setIfInBounds_toArray, List.set_cons_zero, List.set_cons_succ]
      refine wpAnyH_take (i := 4) (oi := ⟨some 18, _, _, _, _, _⟩) (v := ?_) rfl (by kernel_rfl) (by kernel_rfl) (by kernel_rfl) (fun _ _ _ h => h) (Or.inl ⟨by rfl, ?_⟩) (by assumption) ?_
      rotate_left
      · (intro w hSw; (try dsimp only at hSw); obtain ⟨y0, y1, y2, y3, y4⟩ := HF.out _ hSw.out; (go_simp <;> with_reducible rfl))
      try simp only [Act.put, List.setIfInBounds_toArray, List.set_cons_zero, List.set_cons_succ]
      refine wpAnyH_take (i := 5) (oi := ⟨some 19, _, _, _, _, _⟩) (v := ?_) rfl (by kernel_rfl) (by kernel_rfl) (by kernel_rfl) (fun _ _ _ h => h) (Or.inl ⟨by rfl, ?_⟩) (by assumption) ?_
      rotate_left
      · (intro w hSw; (try dsimp only at hSw); obtain ⟨y0, y1, y2, y3, y4⟩ := HF.out _ hSw.out; (go_simp <;> with_reducible rfl))
      try simp only [Act.put, List.setIfInBounds_toArray, List.set_cons_zero, List.set_cons_succ]
      refine wpAnyH_take (i := 6) (oi := ⟨some 20, _, _, _, _, _⟩) (v := ?_) rfl (by kernel_rfl) (by kernel_rfl) (by kernel_rfl) (fun _ _ _ h => h) (Or.inl ⟨by rfl, ?_⟩) (by assumption) ?_
      rotate_left
      · (intro w hSw; (try dsimp only at hSw); obtain ⟨y0, y1, y2, y3, y4⟩ := HF.out _ hSw.out; (go_simp <;> with_reducible rfl))
      try simp only [Act.put, List.setIfInBounds_toArray, List.set_cons_zero, List.set_cons_succ]
      refine wpAnyH_take (i := 8) (oi := ⟨some 22, _, _, _, _, _⟩) (v := ?_) rfl (by kernel_rfl) (by kernel_rfl) (by kernel_rfl) (fun _ _ _ h => h) (Or.inl ⟨by rfl, ?_⟩) (by assumption) ?_
      rotate_left
      · (intro w hSw; (try dsimp only at hSw); obtain ⟨y0, y1, y2, y3, y4⟩ := HF.out _ hSw.out; (go_simp <;> with_reducible rfl))
      try simp only [Act.put, List.setIfInBounds_toArray, List.set_cons_zero, List.set_cons_succ]
      refine wpAnyH_take (i := 9) (oi := ⟨some 23, _, _, _, _, _⟩) (v := ?_) rfl (by kernel_rfl) (by kernel_rfl) (by kernel_rfl) (fun _ _ _ h => h) (Or.inl ⟨by rfl, ?_⟩) (by assumption) ?_
      rotate_left
      · (intro w hSw; (try dsimp only at hSw); obtain ⟨y0, y1, y2, y3, y4⟩ := HF.out _ hSw.out; (go_simp <;> with_reducible rfl))
      try simp only [Act.put, List.setIfInBounds_toArray, List.set_cons_zero, List.set_cons_succ]
      refine wpAnyH_take (i := 10) (oi := ⟨some 24, _, _, _, _, _⟩) (v := ?_) rfl (by kernel_rfl) (by kernel_rfl) (by kernel_rfl) (fun _ _ _ h => h) (Or.inl ⟨by rfl, ?_⟩) (by assumption) ?_
      rotate_left
      · (intro w hSw; (try dsimp only at hSw); obtain ⟨y0, y1, y2, y3, y4⟩ := HF.out _ hSw.out; (go_simp <;> with_reducible rfl))
      try simp only [Act.put, List.setIfInBounds_toArray, List.set_cons_zero, List.set_cons_succ]
      refine wpAnyH_take (i := 11) (oi := ⟨some 25, _, _, _, _, _⟩) (v := ?_) rfl (by kernel_rfl) (by kernel_rfl) (by kernel_rfl) (fun _ _ _ h => h) (Or.inl ⟨by rfl, ?_⟩) (by assumption) ?_
      rotate_left
      · (intro w hSw; (try dsimp only at hSw); obtain ⟨y0, y1, y2, y3, y4⟩ := HF.out _ hSw.out; (go_simp <;> with_reducible rfl))
      try simp only [Act.put, List.setIfInBounds_toArray, List.set_cons_zero, List.set_cons_succ]
      refine wpAnyH_take (i := 15) (oi := ⟨some 29, _, _, _, _, _⟩) (v := ?_) rfl (by kernel_rfl) (by kernel_rfl) (by kernel_rfl) (fun _ _ _ h => h) (Or.inl ⟨by rfl, ?_⟩) (by assumption) ?_
      rotate_left
      · (intro w hSw; (try dsimp only at hSw); obtain ⟨y0, y1, y2, y3, y4⟩ := HF.out _ hSw.out; (go_simp <;> with_reducible rfl))
      try simp only [Act.put, List.setIfInBounds_toArray, List.set_cons_zero, List.set_cons_succ]
      refine wpAnyH_ready (rs := [2]) (by kernel_rfl) (by simp) ?_
      refine AllReadyH.cons rfl (fun K hK => ?_) AllReadyH.nil
      go_simp
      go_at_call 73
      with_reducible refine (KK.out _).mono ?_
      rintro e w1 ⟨rfl, rfl⟩
      refine hK.out _ _ (by assumption) (fun _ => ?_)
      clear hK K
      try simp only [Act.put, List.setIfInBounds_toArray, List.set_cons_zero, List.set_cons_succ]
      refine wpAnyH_ready (rs := [7]) (by kernel_rfl) (by simp) ?_
      refine AllReadyH.cons rfl (fun K hK => ?_) AllReadyH.nil
      go_simp
      go_at_call 74
      with_reducible refine (KW.out _).mono ?_
      rintro e w1 ⟨rfl, rfl⟩
      refine hK.out _ _ (by assumption) (fun _ => ?_)
      clear hK K
      try simp only [Act.put, List.setIfInBounds_toArray, List.set_cons_zero, List.set_cons_succ]
      refine wpAnyH_ready (rs := [12]) (by kernel_rfl) (by simp) ?_
      refine AllReadyH.cons rfl (fun K hK => ?_) AllReadyH.nil
      go_simp
      go_at_call 74
      with_reducible refine (KN.out _).mono ?_
      rintro e w1 ⟨rfl, rfl⟩
      refine hK.out _ _ (by assumption) (fun _ => ?_)
      clear hK K
      try simp only [Act.put, List.setIfInBounds_toArray, List.set_cons_zero, List.set_cons_succ]
      refine wpAnyH_ready (rs := [13]) (by kernel_rfl) (by simp) ?_
      refine AllReadyH.cons rfl (fun K hK => ?_) AllReadyH.nil
      go_simp
      have S2 : Hid (Below W0.heap.size W0 (W0.drew.alloc (.cells #[.int .i64 e1, .int .i64 e2, .int .i64 e3] 3))) := bl_alloc (Below.refl _ _).drew _
      refine hK.out _ _ (by assumption) (fun _ => ?_)
      clear hK K
      try simp only [Act.put, List.setIfInBounds_toArray, List.set_cons_zero, List.set_cons_succ]
      refine wpAnyH_take (i := 14) (oi := ⟨some 28, _, _, _, _, _⟩) (v := ?_) rfl (by kernel_rfl) (by kernel_rfl) (by kernel_rfl) (fun _ _ _ h => h) (Or.inl ⟨by rfl, ?_⟩) (by assumption) ?_
      rotate_left
      · (intro w hSw; (try dsimp only at hSw); obtain ⟨y0, y1, y2, y3, y4⟩ := HF.out _ hSw.out; (go_simp <;> with_reducible rfl))
      try simp only [Act.put, List.setIfInBounds_toArray, List.set_cons_zero, List.set_cons_succ]
      refine wpAnyH_done (by kernel_rfl) ?_ _
      refine NoPanic.normal ?_
      have hBn : Hid (((W0.alloc (.cells #[.int .i64 e1, .int .i64 e2, .int .i64 e3] 3)).drew).heap[W0.heap.size]? = some (.cells #[.int .i64 e1, .int .i64 e2, .int .i64 e3] 3)) := blk_drew (blk_new W0 _)
      have B2 : Hid (Below w.heap.size w (W0.alloc (.cells #[.int .i64 e1, .int .i64 e2, .int .i64 e3] 3)).drew) := (bl_alloc hb0.out _).drew
      have S3 : Hid (Below W0.heap.size W0 (W0.alloc (.cells #[.int .i64 e1, .int .i64 e2, .int .i64 e3] 3)).drew) := (bl_alloc (Below.refl _ _) _).drew
      clear S2
      generalize hW2 : (W0.alloc (.cells #[.int .i64 e1, .int .i64 e2, .int .i64 e3] 3)).drew = W2 at *
      have hE : Hid (∀ (j : Nat) (e : Int), ([e1, e2, e3] : List Int)[j]? = some e → W2.cell? ⟨W0.heap.size, j, none⟩ = some (.int .i64 e)) := fun j e he => by
        rw [blk_cell hBn.out]
        match j, he with
        | 0, he => cases he; rfl
        | 1, he => cases he; rfl
        | 2, he => cases he; rfl
      have hF2 := HF.out W2 S3.out
      have hP2 : Hid (∀ j pk, k = j + 1 → wr.cell? ⟨b, off + j * 5, none⟩ = some (.string pk) → W2.cell? ⟨b, off + j * 5, none⟩ = some (.string pk)) := fun j pk e h => (S3.out.cell hbl0.out).trans (hq0.out j pk e h)
      obtain ⟨y0, y1, y2, y3, y4⟩ := hF2
      have hbl2 : b < W2.heap.size := Nat.lt_of_lt_of_le hbl0.out S3.out.size
      clear hW2 hBn HF hq0 hHeld
      obtain ⟨G, hG⟩ : ∃ G, G = n' := ⟨_, rfl⟩
      go_wp2
      go_loopg [29] 3 (fun m i wx => ∃ j : Nat, i = .int .i64 j ∧ j + m = 3 ∧ Hid (∀ i, i < j → ([e1, e2, e3] : List Int)[i]? = some 0) ∧ W2 = wx)
      case atStart => exact ⟨0, rfl, rfl, fun i h => by omega, rfl⟩
      case round =>
        obtain ⟨j, rfl, hj, hfirst, rfl⟩ := hrel
        by_cases hlj : j < 3
        · obtain ⟨m', hm'⟩ : ∃ m', gk = m' + 1 := ⟨gk - 1, by omega⟩
          subst hm'
          obtain ⟨ej, hej⟩ : ∃ ej, ([e1, e2, e3] : List Int)[j]? = some ej := ⟨_, List.getElem?_eq_getElem (by simpa using hlj)⟩
          have ce := hE.out j ej hej
          by_cases hz0 : ej = 0
          · subst hz0
            have hfirst' : Hid (∀ i, i < j + 1 → ([e1, e2, e3] : List Int)[i]? = some 0) := fun i hi => by
              by_cases e : i = j
              · subst e; exact hej
              · exact hfirst.out i (by omega)
            have hej' := Lib.hid hej
            clear hej y0 y1 y2 y3 y4
            go_wp2
            go_roundg m'
            case measure => omega
            case rel => exact ⟨j + 1, by go_num, by omega, hfirst', rfl⟩
          · have hv : Hid (patchErr l = ej) := by
              show _ = _
              rw [hg2.out]
              refine patchGo_bad ?_ hz0
              rw [hce.out]
              match j, hej, hlj with
              | 0, hej, _ => cases hej; rw [if_pos hz0]
              | 1, hej, _ =>
                cases hej
                have h1 : e1 = 0 := by have := hfirst.out 0 (by omega); simpa using this
                rw [if_neg (by simp [h1]), if_pos hz0]
              | 2, hej, _ =>
                cases hej
                have h1 : e1 = 0 := by have := hfirst.out 0 (by omega); simpa using this
                have h2 : e2 = 0 := by have := hfirst.out 1 (by omega); simpa using this
                rw [if_neg (by simp [h1]), if_neg (by simp [h2])]
            have hzb : (ej != 0) = true := by simpa using hz0
            clear hej y0 y1 y2 y3 y4 hz0
            go_wp2
            go_ret
            exact ⟨by rw [hv.out]; rfl, B2.out⟩
        · have h00 : Hid (chgErr ⟨key, had, was, has, now⟩ = 0) := by
            show _ = _
            have h1 : e1 = 0 := by have := hfirst.out 0 (by omega); simpa using this
            have h2 : e2 = 0 := by have := hfirst.out 1 (by omega); simpa using this
            have h3 : e3 = 0 := by have := hfirst.out 2 (by omega); simpa using this
            rw [hce.out, h1, h2, h3]; rfl
          clear hce
          cases k with
          | zero =>
            have h000 : decide ((0 : Int) < ((0 : Nat) : Int)) = false := by simp
            clear p0 hP2
            by_cases e1 : had = has
            · have f1 : (had == has) = true := by simpa using e1
              by_cases e2 : was = now
              · have f2 : (was.toList == now.toList) = true := by rw [toList_beq]; exact decide_eq_true e2
                have hv : Hid (patchErr l = 170) := by show _ = _; rw [hg2.out]; exact patchGo_170 h00.out (show (notUp (prevKey l 0) key || idle ⟨key, had, was, has, now⟩) = true from by rw [hz.out rfl]; simp [notUp, idle_t e1 e2])
                clear e1 e2
                go_wp2
                go_quiet (fail)
                go_wp2
                go_ret
                exact ⟨by rw [hv.out]; rfl, bl_drewN B2.out _⟩
              · have f2 : (was.toList == now.toList) = false := by rw [toList_beq]; exact decide_eq_false e2
                have hv : Hid (patchErr l = patchGo (prevKey l (0 + 1)) (l.drop (0 + 1))) := by show _ = _; rw [hg2.out, hpn.out]; exact patchGo_on h00.out (show (notUp (prevKey l 0) key || idle ⟨key, had, was, has, now⟩) = false from by rw [hz.out rfl]; simp [notUp, idle_f2 e2])
                clear e1 e2
                go_wp2
                go_quiet (fail)
                go_wp2
                go_roundg n'
                case measure => omega
                case rel => exact ⟨0 + 1, by go_num, by omega, hv, bl_drewN B2.out _⟩
            · have f1 : (had == has) = false := by simpa using e1
              have hv : Hid (patchErr l = patchGo (prevKey l (0 + 1)) (l.drop (0 + 1))) := by show _ = _; rw [hg2.out, hpn.out]; exact patchGo_on h00.out (show (notUp (prevKey l 0) key || idle ⟨key, had, was, has, now⟩) = false from by rw [hz.out rfl]; simp [notUp, idle_f1 e1])
              clear e1
              go_wp2
              go_quiet (fail)
              go_wp2
              go_roundg n'
              case measure => omega
              case rel => exact ⟨0 + 1, by go_num, by omega, hv, bl_drewN B2.out _⟩
          | succ j =>
            obtain ⟨pk, hpk, q00⟩ := p0 j rfl
            have q0 := hP2.out j pk rfl q00
            clear p0 hz hP2 q00
            by_cases hup : slt pk key = true
            · have hq : Op.bytesLess pk.toList key.toList = true := hup
              by_cases e1 : had = has
              · have f1 : (had == has) = true := by simpa using e1
                by_cases e2 : was = now
                · have f2 : (was.toList == now.toList) = true := by rw [toList_beq]; exact decide_eq_true e2
                  have hv : Hid (patchErr l = 170) := by show _ = _; rw [hg2.out]; exact patchGo_170 h00.out (show (notUp (prevKey l (j + 1)) key || idle ⟨key, had, was, has, now⟩) = true from by rw [hpk.out]; simp [notUp, hup, idle_t e1 e2])
                  clear e1 e2
                  go_wp2
                  go_quiet (fail)
                  go_wp2
                  go_ret
                  exact ⟨by rw [hv.out]; rfl, bl_drewN B2.out _⟩
                · have f2 : (was.toList == now.toList) = false := by rw [toList_beq]; exact decide_eq_false e2
                  have hv : Hid (patchErr l = patchGo (prevKey l (j + 1 + 1)) (l.drop (j + 1 + 1))) := by show _ = _; rw [hg2.out, hpn.out]; exact patchGo_on h00.out (show (notUp (prevKey l (j + 1)) key || idle ⟨key, had, was, has, now⟩) = false from by rw [hpk.out]; simp [notUp, hup, idle_f2 e2])
                  clear e1 e2
                  go_wp2
                  go_quiet (fail)
                  go_wp2
                  go_roundg n'
                  case measure => omega
                  case rel => exact ⟨j + 1 + 1, by go_num, by omega, hv, bl_drewN B2.out _⟩
              · have f1 : (had == has) = false := by simpa using e1
                have hv : Hid (patchErr l = patchGo (prevKey l (j + 1 + 1)) (l.drop (j + 1 + 1))) := by show _ = _; rw [hg2.out, hpn.out]; exact patchGo_on h00.out (show (notUp (prevKey l (j + 1)) key || idle ⟨key, had, was, has, now⟩) = false from by rw [hpk.out]; simp [notUp, hup, idle_f1 e1])
                clear e1
                go_wp2
                go_quiet (fail)
                go_wp2
                go_roundg n'
                case measure => omega
                case rel => exact ⟨j + 1 + 1, by go_num, by omega, hv, bl_drewN B2.out _⟩
            · have hq : Op.bytesLess pk.toList key.toList = false := by unfold slt at hup; simpa using hup
              have hup2 : slt pk key = false := by simpa using hup
              have hv : Hid (patchErr l = 170) := by show _ = _; rw [hg2.out]; exact patchGo_170 h00.out (show (notUp (prevKey l (j + 1)) key || idle ⟨key, had, was, has, now⟩) = true from by rw [hpk.out]; simp [notUp, hup2])
              clear hup hup2
              go_wp2
              go_quiet (fail)
              go_wp2
              go_ret
              exact ⟨by rw [hv.out]; rfl, bl_drewN B2.out _⟩
    · have hv : Hid (patchErr l = 0) := by show _ = _; rw [hg.out, List.drop_of_length_le (by omega)]; unfold patchGo; rfl
      go_wp2
      go_ret
      exact ⟨by rw [hv.out]; rfl, hb.out⟩
end Go.Proofs.Ytofdmkglhjpbcaa
