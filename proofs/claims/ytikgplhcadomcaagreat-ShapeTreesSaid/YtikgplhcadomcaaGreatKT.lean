/- Rows of texts held against each other: ref01.SameTexts, slices.Equal. Rows of rows of texts held against each other: ref09.SameLevels, slices.EqualFunc, shape.Same. -/
import Derived.Test.YtikgplhcadomcaaGreatProg
import Derived.Test.YtikgplhcadomcaaGreatKP
import Derived.Deep.QuietTactic
import Derived.BigQuiet
namespace Go.Proofs.YtikgplhcadomcaaGreat
open Go.RowKit
set_option linter.unusedVariables false
set_option linter.unusedSimpArgs false
theorem sameTexts_calls (w : World) (A B : Option Addr) (c e : Nat) (l m : List Str) (hl : l.length ≤ 9223372036854775807) (hm : m.length ≤ 9223372036854775807) (h : Rd strEnc 1 w A l) (k : Rd strEnc 1 w B m) :
    Calls Tryz.prog 66 #[.slice A l.length c, .slice B m.length e] w fun e w' => e = .returned (.bool (decide (l = m))) ∧ Below w.heap.size w w' := by
  by_cases hlen : l.length = m.length
  · have hq : ((l.length : Int) != (m.length : Int)) = false := by simp [hlen]
    have HL := Lib.hid hlen
    clear hlen
    go_enter Tryz.func66, Tryz.ntmps66
    go_wp2
    go_loopw [13] (fun i wr => ∃ k : Nat, k ≤ l.length ∧ i = .int .i64 k ∧ Hid (∀ i : Nat, i < k → l[i]? = m[i]?) ∧ Below w.heap.size w wr) (fun i _ => l.length - (intOf i).toNat)
    case atStart => exact ⟨0, Nat.zero_le _, rfl, fun i h => by omega, Below.refl _ _⟩
    case round =>
      obtain ⟨n, hn, rfl, hg, hb⟩ := hrel
      by_cases hlt : n < l.length
      · have hlt' : n < m.length := by rw [← HL.out]; exact hlt
        rcases h.below hb (Nat.le_refl _) with h0 | ⟨b, off, rfl, hbl, hc⟩
        · simp [h0] at hlt
        rcases k.below hb (Nat.le_refl _) with h0 | ⟨b', off', rfl, hbl', hc'⟩
        · simp [h0] at hlt'
        have c0 : wr.cell? ⟨b, off + n, none⟩ = some (.string l[n]) := by have := hc n l[n] (by simp [hlt]) 0 _ rfl; simpa using this
        have d0 : wr.cell? ⟨b', off' + n, none⟩ = some (.string m[n]) := by have := hc' n m[n] (by simp [hlt']) 0 _ rfl; simpa using this
        clear hc hc' h k
        by_cases he : l[n] = m[n]
        · have hd1 : (l[n].toList == m[n].toList) = true := by simp [he]
          have hg' : Hid (∀ i : Nat, i < n + 1 → l[i]? = m[i]?) := fun i hi => by
            by_cases e : i = n
            · subst e; simp [hlt, hlt', he]
            · exact hg.out i (by omega)
          clear he
          go_wp2
          go_quiet (fail)
          go_wp2
          exact ⟨⟨n + 1, by omega, by go_num, hg', bl_drewN hb _⟩, by simp [intOf]; omega⟩
        · have hd1 : (l[n].toList == m[n].toList) = false := by rw [toList_beq]; simp [he]
          have hv : Hid (decide (l = m) = false) := by
            show _ = _
            rw [decide_eq_false_iff_not]
            intro e
            exact he (by simp [e])
          clear he
          go_wp2
          go_quiet (fail)
          go_wp2
          go_ret
          exact ⟨by rw [hv.out]; rfl, bl_drewN hb _⟩
      · have hv : Hid (decide (l = m) = true) := by
          show _ = _
          rw [decide_eq_true_iff]
          apply List.ext_getElem?
          intro i
          by_cases hi : i < n
          · exact hg.out i hi
          · have := HL.out
            rw [List.getElem?_eq_none (by omega), List.getElem?_eq_none (by omega)]
        go_wp2
        go_ret
        exact ⟨by rw [hv.out]; rfl, hb⟩
  · have hq : ((l.length : Int) != (m.length : Int)) = true := by rw [bne_iff_ne]; omega
    have hv : Hid (decide (l = m) = false) := by
      show _ = _
      rw [decide_eq_false_iff_not]
      intro e
      exact hlen (by simp [e])
    clear hlen
    go_enter Tryz.func66, Tryz.ntmps66
    go_wp2
    go_ret
    exact ⟨by rw [hv.out]; rfl, Below.refl _ _⟩
theorem equalT_calls (w : World) (A B : Option Addr) (c e : Nat) (l m : List Str) (hl : l.length ≤ 9223372036854775807) (hm : m.length ≤ 9223372036854775807) (h : Rd strEnc 1 w A l) (k : Rd strEnc 1 w B m) :
    Calls Tryz.prog 70 #[.slice A l.length c, .slice B m.length e] w fun e w' => e = .returned (.bool (decide (l = m))) ∧ Below w.heap.size w w' := by
  by_cases hlen : l.length = m.length
  · have hq : ((l.length : Int) != (m.length : Int)) = false := by simp [hlen]
    have HL := Lib.hid hlen
    clear hlen
    go_enter Tryz.func70, Tryz.ntmps70
    go_wp2
    go_loopw [13] (fun i wr => ∃ k : Nat, k ≤ l.length ∧ i = .int .i64 k ∧ Hid (∀ i : Nat, i < k → l[i]? = m[i]?) ∧ Below w.heap.size w wr) (fun i _ => l.length - (intOf i).toNat)
    case atStart => exact ⟨0, Nat.zero_le _, rfl, fun i h => by omega, Below.refl _ _⟩
    case round =>
      obtain ⟨n, hn, rfl, hg, hb⟩ := hrel
      by_cases hlt : n < l.length
      · have hlt' : n < m.length := by rw [← HL.out]; exact hlt
        rcases h.below hb (Nat.le_refl _) with h0 | ⟨b, off, rfl, hbl, hc⟩
        · simp [h0] at hlt
        rcases k.below hb (Nat.le_refl _) with h0 | ⟨b', off', rfl, hbl', hc'⟩
        · simp [h0] at hlt'
        have c0 : wr.cell? ⟨b, off + n, none⟩ = some (.string l[n]) := by have := hc n l[n] (by simp [hlt]) 0 _ rfl; simpa using this
        have d0 : wr.cell? ⟨b', off' + n, none⟩ = some (.string m[n]) := by have := hc' n m[n] (by simp [hlt']) 0 _ rfl; simpa using this
        clear hc hc' h k
        by_cases he : l[n] = m[n]
        · have hd1 : (l[n].toList == m[n].toList) = true := by simp [he]
          have hg' : Hid (∀ i : Nat, i < n + 1 → l[i]? = m[i]?) := fun i hi => by
            by_cases e : i = n
            · subst e; simp [hlt, hlt', he]
            · exact hg.out i (by omega)
          clear he
          go_wp2
          go_quiet (fail)
          go_wp2
          exact ⟨⟨n + 1, by omega, by go_num, hg', bl_drewN hb _⟩, by simp [intOf]; omega⟩
        · have hd1 : (l[n].toList == m[n].toList) = false := by rw [toList_beq]; simp [he]
          have hv : Hid (decide (l = m) = false) := by
            show _ = _
            rw [decide_eq_false_iff_not]
            intro e
            exact he (by simp [e])
          clear he
          go_wp2
          go_quiet (fail)
          go_wp2
          go_ret
          exact ⟨by rw [hv.out]; rfl, bl_drewN hb _⟩
      · have hv : Hid (decide (l = m) = true) := by
          show _ = _
          rw [decide_eq_true_iff]
          apply List.ext_getElem?
          intro i
          by_cases hi : i < n
          · exact hg.out i hi
          · have := HL.out
            rw [List.getElem?_eq_none (by omega), List.getElem?_eq_none (by omega)]
        go_wp2
        go_ret
        exact ⟨by rw [hv.out]; rfl, hb⟩
  · have hq : ((l.length : Int) != (m.length : Int)) = true := by rw [bne_iff_ne]; omega
    have hv : Hid (decide (l = m) = false) := by
      show _ = _
      rw [decide_eq_false_iff_not]
      intro e
      exact hlen (by simp [e])
    clear hlen
    go_enter Tryz.func70, Tryz.ntmps70
    go_wp2
    go_ret
    exact ⟨by rw [hv.out]; rfl, Below.refl _ _⟩
end Go.Proofs.YtikgplhcadomcaaGreat

namespace Go.Proofs.YtikgplhcadomcaaGreat
open Go.RowKit
set_option linter.unusedVariables false
set_option linter.unusedSimpArgs false
def SmS (b o b' o' : Nat) (A : Option Addr) (n c : Nat) (A' : Option Addr) (n' c' : Nat) (W : World) : Prop := W.cell? ⟨b, o, none⟩ = some (.slice A n c) ∧ b < W.heap.size ∧ W.cell? ⟨b', o', none⟩ = some (.slice A' n' c') ∧ b' < W.heap.size
theorem SmS.below {b o b' o' : Nat} {A : Option Addr} {n c : Nat} {A' : Option Addr} {n' c' : Nat} {W W' : World} (h : SmS b o b' o' A n c A' n' c' W) (hb : Below W.heap.size W W') : SmS b o b' o' A n c A' n' c' W' :=
  ⟨(hb.cell (p := ⟨b, o, none⟩) h.2.1).trans h.1, Nat.lt_of_lt_of_le h.2.1 hb.size, (hb.cell (p := ⟨b', o', none⟩) h.2.2.2).trans h.2.2.1, Nat.lt_of_lt_of_le h.2.2.2 hb.size⟩
set_option maxRecDepth 100000 in
set_option maxHeartbeats 2000000 in
theorem sameLevels_calls (w : World) (A B : Option Addr) (c e : Nat) (l m : List (List Str)) (hl : l.length ≤ 9223372036854775807) (hm : m.length ≤ 9223372036854775807) (hls : ∀ x ∈ l, x.length ≤ 9223372036854775807) (hms : ∀ x ∈ m, x.length ≤ 9223372036854775807) (h : RwR strEnc 1 w A l) (k : RwR strEnc 1 w B m) :
    Calls Tryz.prog 17 #[.slice A l.length c, .slice B m.length e] w fun e w' => e = .returned (.bool (decide (l = m))) ∧ Below w.heap.size w w' := by
  have LS := Lib.hid hls
  have MS := Lib.hid hms
  clear hls hms
  by_cases hlen : l.length = m.length
  · have hq : ((l.length : Int) != (m.length : Int)) = false := by simp [hlen]
    have HL := Lib.hid hlen
    obtain ⟨vs, v1, v2, v3⟩ := h
    obtain ⟨us, u1, u2, u3⟩ := k
    have VL := Lib.hid v1
    have UL := Lib.hid u1
    have V2 := Lib.hid v2
    have U2 := Lib.hid u2
    have V3 := Lib.hid v3
    have U3 := Lib.hid u3
    clear hlen v1 v2 v3 u1 u2 u3
    go_enter Tryz.func17, Tryz.ntmps17
    go_wp2
    go_loopw [13] (fun i wr => ∃ k : Nat, k ≤ l.length ∧ i = .int .i64 k ∧ Hid (∀ i : Nat, i < k → l[i]? = m[i]?) ∧ Below w.heap.size w wr) (fun i _ => l.length - (intOf i).toNat)
    case atStart => exact ⟨0, Nat.zero_le _, rfl, fun i h => by omega, Below.refl _ _⟩
    case round =>
      obtain ⟨n, hn, rfl, hg, hb⟩ := hrel
      by_cases hlt : n < l.length
      · have hlt' : n < m.length := by rw [← HL.out]; exact hlt
        have hvl : n < vs.length := by rw [VL.out]; exact hlt
        have hul : n < us.length := by rw [UL.out]; exact hlt'
        rcases V2.out.below hb (Nat.le_refl _) with h0 | ⟨b, off, rfl, hbl, hc⟩
        · simp [h0] at hvl
        rcases U2.out.below hb (Nat.le_refl _) with h0 | ⟨b', off', rfl, hbl', hc'⟩
        · simp [h0] at hul
        have hvn : vs[n]? = some vs[n] := List.getElem?_eq_getElem hvl
        have hun : us[n]? = some us[n] := List.getElem?_eq_getElem hul
        have hxn : l[n]? = some l[n] := List.getElem?_eq_getElem hlt
        have hyn : m[n]? = some m[n] := List.getElem?_eq_getElem hlt'
        obtain ⟨p1, p2, p3⟩ := V3.out n _ _ hvn hxn
        obtain ⟨q1, q2, q3⟩ := U3.out n _ _ hun hyn
        have c0 : wr.cell? ⟨b, off + n, none⟩ = some (.slice vs[n].A vs[n].len vs[n].cap) := by have := hc n _ hvn 0 _ rfl; simpa using this
        have d0 : wr.cell? ⟨b', off' + n, none⟩ = some (.slice us[n].A us[n].len us[n].cap) := by have := hc' n _ hun 0 _ rfl; simpa using this
        have lx := LS.out _ (List.getElem_mem hlt)
        have ly := MS.out _ (List.getElem_mem hlt')
        have p3r := p3.below hb (Nat.le_refl _)
        have q3r := q3.below hb (Nat.le_refl _)
        clear hc hc' p3 q3
        generalize vs[n] = r at *
        generalize us[n] = s at *
        generalize l[n] = x at *
        generalize m[n] = y at *
        obtain ⟨rA, rl, rc⟩ := r
        obtain ⟨sA, sl, sc⟩ := s
        dsimp only at p1 p2 p3r q1 q2 q3r c0 d0
        subst p1 q1
        have HX := Lib.hid hxn
        have HY := Lib.hid hyn
        have X0 := Lib.hid (p3r.below (Below.refl wr.heap.size wr).drew (Nat.le_refl _))
        have Y0 := Lib.hid (q3r.below (Below.refl wr.heap.size wr).drew (Nat.le_refl _))
        have X1 := Lib.hid p3r
        have Y1 := Lib.hid q3r
        have S0 : SmS b (off + n) b' (off' + n) rA x.length rc sA y.length sc wr.drew := ⟨c0, hbl, d0, hbl'⟩
        clear hvn hun hxn hyn hvl hul p3r q3r
        by_cases he : x = y
        · have HD : Hid (decide (x = y) = true) := by show _ = _; simp [he]
          have hg' : Hid (∀ i : Nat, i < n + 1 → l[i]? = m[i]?) := fun i hi => by
            by_cases e : i = n
            · subst e; rw [HX.out, HY.out, he]
            · exact hg.out i (by omega)
          clear he
          go_upto_region 6 with fail
          refine wp_region_noPanic ?_
          refine wp_region_held_drew (S := SmS b (off + n) b' (off' + n) rA x.length rc sA y.length sc) (by kernel_rfl) (S0) (fun hHeld => ?_)
          refine wpAnyH_take (i := 0) (oi := ⟨some 16, _, _, _, _, _⟩) (v := ?_) rfl (by kernel_rfl) (by kernel_rfl) (by kernel_rfl) (fun _ _ _ h => h) (Or.inl ⟨by rfl, ?_⟩) (by assumption) ?_
          rotate_left
          · (intro w hSw; (try dsimp only at hSw); obtain ⟨k0, k1, k2, k3⟩ := hSw; (go_simp <;> with_reducible rfl))
          try simp only [Act.put, List.setIfInBounds_toArray, List.set_cons_zero, List.set_cons_succ]
          refine wpAnyH_take (i := 1) (oi := ⟨some 17, _, _, _, _, _⟩) (v := ?_) rfl (by kernel_rfl) (by kernel_rfl) (by kernel_rfl) (fun _ _ _ h => h) (Or.inl ⟨by rfl, ?_⟩) (by assumption) ?_
          rotate_left
          · (intro w hSw; (try dsimp only at hSw); obtain ⟨k0, k1, k2, k3⟩ := hSw; (go_simp <;> with_reducible rfl))
          try simp only [Act.put, List.setIfInBounds_toArray, List.set_cons_zero, List.set_cons_succ]
          refine wpAnyH_take (i := 2) (oi := ⟨some 18, _, _, _, _, _⟩) (v := ?_) rfl (by kernel_rfl) (by kernel_rfl) (by kernel_rfl) (fun _ _ _ h => h) (Or.inl ⟨by rfl, ?_⟩) (by assumption) ?_
          rotate_left
          · (intro w hSw; (try dsimp only at hSw); obtain ⟨k0, k1, k2, k3⟩ := hSw; (go_simp <;> with_reducible rfl))
          try simp only [Act.put, List.setIfInBounds_toArray, List.set_cons_zero, List.set_cons_succ]
          refine wpAnyH_take (i := 3) (oi := ⟨some 19, _, _, _, _, _⟩) (v := ?_) rfl (by kernel_rfl) (by kernel_rfl) (by kernel_rfl) (fun _ _ _ h => h) (Or.inl ⟨by rfl, ?_⟩) (by assumption) ?_
          rotate_left
          · (intro w hSw; (try dsimp only at hSw); obtain ⟨k0, k1, k2, k3⟩ := hSw; (go_simp <;> with_reducible rfl))
          try simp only [Act.put, List.setIfInBounds_toArray, List.set_cons_zero, List.set_cons_succ]
          refine wpAnyH_take (i := 4) (oi := ⟨some 20, _, _, _, _, _⟩) (v := ?_) rfl (by kernel_rfl) (by kernel_rfl) (by kernel_rfl) (fun _ _ _ h => h) (Or.inl ⟨by rfl, ?_⟩) (by assumption) ?_
          rotate_left
          · (intro w hSw; (try dsimp only at hSw); obtain ⟨k0, k1, k2, k3⟩ := hSw; (go_simp <;> with_reducible rfl))
          try simp only [Act.put, List.setIfInBounds_toArray, List.set_cons_zero, List.set_cons_succ]
          refine wpAnyH_take (i := 5) (oi := ⟨some 21, _, _, _, _, _⟩) (v := ?_) rfl (by kernel_rfl) (by kernel_rfl) (by kernel_rfl) (fun _ _ _ h => h) (Or.inl ⟨by rfl, ?_⟩) (by assumption) ?_
          rotate_left
          · (intro w hSw; (try dsimp only at hSw); obtain ⟨k0, k1, k2, k3⟩ := hSw; (go_simp <;> with_reducible rfl))
          try simp only [Act.put, List.setIfInBounds_toArray, List.set_cons_zero, List.set_cons_succ]
          refine wpAnyH_take (i := 6) (oi := ⟨some 22, _, _, _, _, _⟩) (v := ?_) rfl (by kernel_rfl) (by kernel_rfl) (by kernel_rfl) (fun _ _ _ h => h) (Or.inl ⟨by rfl, ?_⟩) (by assumption) ?_
          rotate_left
          · (intro w hSw; (try dsimp only at hSw); obtain ⟨k0, k1, k2, k3⟩ := hSw; (go_simp <;> with_reducible rfl))
          try simp only [Act.put, List.setIfInBounds_toArray, List.set_cons_zero, List.set_cons_succ]
          refine wpAnyH_take (i := 7) (oi := ⟨some 23, _, _, _, _, _⟩) (v := ?_) rfl (by kernel_rfl) (by kernel_rfl) (by kernel_rfl) (fun _ _ _ h => h) (Or.inl ⟨by rfl, ?_⟩) (by assumption) ?_
          rotate_left
          · (intro w hSw; (try dsimp only at hSw); obtain ⟨k0, k1, k2, k3⟩ := hSw; (go_simp <;> with_reducible rfl))
          try simp only [Act.put, List.setIfInBounds_toArray, List.set_cons_zero, List.set_cons_succ]
          refine wpAnyH_ready (rs := [8]) (by kernel_rfl) (by simp) ?_
          refine AllReadyH.cons rfl (fun K hK => ?_) AllReadyH.nil
          go_simp
          go_at_call 66
          refine (sameTexts_calls wr.drew rA sA rc sc x y (by omega) (by omega) X0.out Y0.out).mono ?_
          rintro e w6 ⟨rfl, hb6⟩
          rw [HD.out]
          have S6 := S0.below hb6
          have B6 := Lib.hid (bl_then hb.drew hb.drew.size hb6)
          clear hb6
          refine hK.out _ _ (by assumption) (fun _ => ?_)
          clear hK K
          try simp only [Act.put, List.setIfInBounds_toArray, List.set_cons_zero, List.set_cons_succ]
          refine wpAnyH_take (i := 9) (oi := ⟨some 25, _, _, _, _, _⟩) (v := ?_) rfl (by kernel_rfl) (by kernel_rfl) (by kernel_rfl) (fun _ _ _ h => h) (Or.inl ⟨by rfl, ?_⟩) (by assumption) ?_
          rotate_left
          · (intro w hSw; (try dsimp only at hSw); obtain ⟨k0, k1, k2, k3⟩ := hSw; (go_simp <;> with_reducible rfl))
          try simp only [Act.put, List.setIfInBounds_toArray, List.set_cons_zero, List.set_cons_succ]
          refine wpAnyH_done (by kernel_rfl) ?_ _
          refine NoPanic.normal ?_
          go_wp2
          exact ⟨⟨n + 1, by omega, by go_num, hg', B6.out⟩, by simp [intOf]; omega⟩
        · have HD : Hid (decide (x = y) = false) := by show _ = _; simp [he]
          have hv : Hid (decide (l = m) = false) := by
            show _ = _
            rw [decide_eq_false_iff_not]
            intro e
            have h1 := HX.out
            rw [e, HY.out] at h1
            exact he (Option.some.inj h1.symm)
          clear he
          go_upto_region 6 with fail
          refine wp_region_noPanic ?_
          refine wp_region_held_drew (S := SmS b (off + n) b' (off' + n) rA x.length rc sA y.length sc) (by kernel_rfl) (S0) (fun hHeld => ?_)
          refine wpAnyH_take (i := 0) (oi := ⟨some 16, _, _, _, _, _⟩) (v := ?_) rfl (by kernel_rfl) (by kernel_rfl) (by kernel_rfl) (fun _ _ _ h => h) (Or.inl ⟨by rfl, ?_⟩) (by assumption) ?_
          rotate_left
          · (intro w hSw; (try dsimp only at hSw); obtain ⟨k0, k1, k2, k3⟩ := hSw; (go_simp <;> with_reducible rfl))
          try simp only [Act.put, List.setIfInBounds_toArray, List.set_cons_zero, List.set_cons_succ]
          refine wpAnyH_take (i := 1) (oi := ⟨some 17, _, _, _, _, _⟩) (v := ?_) rfl (by kernel_rfl) (by kernel_rfl) (by kernel_rfl) (fun _ _ _ h => h) (Or.inl ⟨by rfl, ?_⟩) (by assumption) ?_
          rotate_left
          · (intro w hSw; (try dsimp only at hSw); obtain ⟨k0, k1, k2, k3⟩ := hSw; (go_simp <;> with_reducible rfl))
          try simp only [Act.put, List.setIfInBounds_toArray, List.set_cons_zero, List.set_cons_succ]
          refine wpAnyH_take (i := 2) (oi := ⟨some 18, _, _, _, _, _⟩) (v := ?_) rfl (by kernel_rfl) (by kernel_rfl) (by kernel_rfl) (fun _ _ _ h => h) (Or.inl ⟨by rfl, ?_⟩) (by assumption) ?_
          rotate_left
          · (intro w hSw; (try dsimp only at hSw); obtain ⟨k0, k1, k2, k3⟩ := hSw; (go_simp <;> with_reducible rfl))
          try simp only [Act.put, List.setIfInBounds_toArray, List.set_cons_zero, List.set_cons_succ]
          refine wpAnyH_take (i := 3) (oi := ⟨some 19, _, _, _, _, _⟩) (v := ?_) rfl (by kernel_rfl) (by kernel_rfl) (by kernel_rfl) (fun _ _ _ h => h) (Or.inl ⟨by rfl, ?_⟩) (by assumption) ?_
          rotate_left
          · (intro w hSw; (try dsimp only at hSw); obtain ⟨k0, k1, k2, k3⟩ := hSw; (go_simp <;> with_reducible rfl))
          try simp only [Act.put, List.setIfInBounds_toArray, List.set_cons_zero, List.set_cons_succ]
          refine wpAnyH_take (i := 4) (oi := ⟨some 20, _, _, _, _, _⟩) (v := ?_) rfl (by kernel_rfl) (by kernel_rfl) (by kernel_rfl) (fun _ _ _ h => h) (Or.inl ⟨by rfl, ?_⟩) (by assumption) ?_
          rotate_left
          · (intro w hSw; (try dsimp only at hSw); obtain ⟨k0, k1, k2, k3⟩ := hSw; (go_simp <;> with_reducible rfl))
          try simp only [Act.put, List.setIfInBounds_toArray, List.set_cons_zero, List.set_cons_succ]
          refine wpAnyH_take (i := 5) (oi := ⟨some 21, _, _, _, _, _⟩) (v := ?_) rfl (by kernel_rfl) (by kernel_rfl) (by kernel_rfl) (fun _ _ _ h => h) (Or.inl ⟨by rfl, ?_⟩) (by assumption) ?_
          rotate_left
          · (intro w hSw; (try dsimp only at hSw); obtain ⟨k0, k1, k2, k3⟩ := hSw; (go_simp <;> with_reducible rfl))
          try simp only [Act.put, List.setIfInBounds_toArray, List.set_cons_zero, List.set_cons_succ]
          refine wpAnyH_take (i := 6) (oi := ⟨some 22, _, _, _, _, _⟩) (v := ?_) rfl (by kernel_rfl) (by kernel_rfl) (by kernel_rfl) (fun _ _ _ h => h) (Or.inl ⟨by rfl, ?_⟩) (by assumption) ?_
          rotate_left
          · (intro w hSw; (try dsimp only at hSw); obtain ⟨k0, k1, k2, k3⟩ := hSw; (go_simp <;> with_reducible rfl))
          try simp only [Act.put, List.setIfInBounds_toArray, List.set_cons_zero, List.set_cons_succ]
          refine wpAnyH_take (i := 7) (oi := ⟨some 23, _, _, _, _, _⟩) (v := ?_) rfl (by kernel_rfl) (by kernel_rfl) (by kernel_rfl) (fun _ _ _ h => h) (Or.inl ⟨by rfl, ?_⟩) (by assumption) ?_
          rotate_left
          · (intro w hSw; (try dsimp only at hSw); obtain ⟨k0, k1, k2, k3⟩ := hSw; (go_simp <;> with_reducible rfl))
          try simp only [Act.put, List.setIfInBounds_toArray, List.set_cons_zero, List.set_cons_succ]
          refine wpAnyH_ready (rs := [8]) (by kernel_rfl) (by simp) ?_
          refine AllReadyH.cons rfl (fun K hK => ?_) AllReadyH.nil
          go_simp
          go_at_call 66
          refine (sameTexts_calls wr.drew rA sA rc sc x y (by omega) (by omega) X0.out Y0.out).mono ?_
          rintro e w6 ⟨rfl, hb6⟩
          rw [HD.out]
          have S6 := S0.below hb6
          have B6 := Lib.hid (bl_then hb.drew hb.drew.size hb6)
          clear hb6
          refine hK.out _ _ (by assumption) (fun _ => ?_)
          clear hK K
          try simp only [Act.put, List.setIfInBounds_toArray, List.set_cons_zero, List.set_cons_succ]
          refine wpAnyH_take (i := 9) (oi := ⟨some 25, _, _, _, _, _⟩) (v := ?_) rfl (by kernel_rfl) (by kernel_rfl) (by kernel_rfl) (fun _ _ _ h => h) (Or.inl ⟨by rfl, ?_⟩) (by assumption) ?_
          rotate_left
          · (intro w hSw; (try dsimp only at hSw); obtain ⟨k0, k1, k2, k3⟩ := hSw; (go_simp <;> with_reducible rfl))
          try simp only [Act.put, List.setIfInBounds_toArray, List.set_cons_zero, List.set_cons_succ]
          refine wpAnyH_done (by kernel_rfl) ?_ _
          refine NoPanic.normal ?_
          go_wp2
          go_ret
          exact ⟨by rw [hv.out]; rfl, B6.out⟩
      · have hv : Hid (decide (l = m) = true) := by
          show _ = _
          rw [decide_eq_true_iff]
          apply List.ext_getElem?
          intro i
          by_cases hi : i < n
          · exact hg.out i hi
          · have := HL.out
            rw [List.getElem?_eq_none (by omega), List.getElem?_eq_none (by omega)]
        have hnn : ¬ (n : Int) < (l.length : Int) := by omega
        go_wp2
        go_ret
        exact ⟨by rw [hv.out]; rfl, hb⟩
  · have hq : ((l.length : Int) != (m.length : Int)) = true := by rw [bne_iff_ne]; omega
    have hv : Hid (decide (l = m) = false) := by
      show _ = _
      rw [decide_eq_false_iff_not]
      intro e
      exact hlen (by simp [e])
    clear hlen
    go_enter Tryz.func17, Tryz.ntmps17
    go_wp2
    go_ret
    exact ⟨by rw [hv.out]; rfl, Below.refl _ _⟩
set_option maxRecDepth 100000 in
set_option maxHeartbeats 2000000 in
theorem equalF_calls (w : World) (A B : Option Addr) (c e : Nat) (l m : List (List Str)) (hl : l.length ≤ 9223372036854775807) (hm : m.length ≤ 9223372036854775807) (hls : ∀ x ∈ l, x.length ≤ 9223372036854775807) (hms : ∀ x ∈ m, x.length ≤ 9223372036854775807) (h : RwR strEnc 1 w A l) (k : RwR strEnc 1 w B m) :
    Calls Tryz.prog 69 #[.slice A l.length c, .slice B m.length e, .func (.func 70) #[] #[]] w fun e w' => e = .returned (.bool (decide (l = m))) ∧ Below w.heap.size w w' := by
  have LS := Lib.hid hls
  have MS := Lib.hid hms
  clear hls hms
  by_cases hlen : l.length = m.length
  · have hq : ((l.length : Int) != (m.length : Int)) = false := by simp [hlen]
    have HL := Lib.hid hlen
    obtain ⟨vs, v1, v2, v3⟩ := h
    obtain ⟨us, u1, u2, u3⟩ := k
    have VL := Lib.hid v1
    have UL := Lib.hid u1
    have V2 := Lib.hid v2
    have U2 := Lib.hid u2
    have V3 := Lib.hid v3
    have U3 := Lib.hid u3
    clear hlen v1 v2 v3 u1 u2 u3
    go_enter Tryz.func69, Tryz.ntmps69
    go_wp2
    go_loopw [17] (fun i wr => ∃ k : Nat, k ≤ l.length ∧ i = .int .i64 k ∧ Hid (∀ i : Nat, i < k → l[i]? = m[i]?) ∧ Below w.heap.size w wr) (fun i _ => l.length - (intOf i).toNat)
    case atStart => exact ⟨0, Nat.zero_le _, rfl, fun i h => by omega, Below.refl _ _⟩
    case round =>
      obtain ⟨n, hn, rfl, hg, hb⟩ := hrel
      by_cases hlt : n < l.length
      · have hlt' : n < m.length := by rw [← HL.out]; exact hlt
        have hvl : n < vs.length := by rw [VL.out]; exact hlt
        have hul : n < us.length := by rw [UL.out]; exact hlt'
        rcases V2.out.below hb (Nat.le_refl _) with h0 | ⟨b, off, rfl, hbl, hc⟩
        · simp [h0] at hvl
        rcases U2.out.below hb (Nat.le_refl _) with h0 | ⟨b', off', rfl, hbl', hc'⟩
        · simp [h0] at hul
        have hvn : vs[n]? = some vs[n] := List.getElem?_eq_getElem hvl
        have hun : us[n]? = some us[n] := List.getElem?_eq_getElem hul
        have hxn : l[n]? = some l[n] := List.getElem?_eq_getElem hlt
        have hyn : m[n]? = some m[n] := List.getElem?_eq_getElem hlt'
        obtain ⟨p1, p2, p3⟩ := V3.out n _ _ hvn hxn
        obtain ⟨q1, q2, q3⟩ := U3.out n _ _ hun hyn
        have c0 : wr.cell? ⟨b, off + n, none⟩ = some (.slice vs[n].A vs[n].len vs[n].cap) := by have := hc n _ hvn 0 _ rfl; simpa using this
        have d0 : wr.cell? ⟨b', off' + n, none⟩ = some (.slice us[n].A us[n].len us[n].cap) := by have := hc' n _ hun 0 _ rfl; simpa using this
        have lx := LS.out _ (List.getElem_mem hlt)
        have ly := MS.out _ (List.getElem_mem hlt')
        have p3r := p3.below hb (Nat.le_refl _)
        have q3r := q3.below hb (Nat.le_refl _)
        clear hc hc' p3 q3
        generalize vs[n] = r at *
        generalize us[n] = s at *
        generalize l[n] = x at *
        generalize m[n] = y at *
        obtain ⟨rA, rl, rc⟩ := r
        obtain ⟨sA, sl, sc⟩ := s
        dsimp only at p1 p2 p3r q1 q2 q3r c0 d0
        subst p1 q1
        have HX := Lib.hid hxn
        have HY := Lib.hid hyn
        have X0 := Lib.hid (p3r.below (Below.refl wr.heap.size wr).drew (Nat.le_refl _))
        have Y0 := Lib.hid (q3r.below (Below.refl wr.heap.size wr).drew (Nat.le_refl _))
        have X1 := Lib.hid p3r
        have Y1 := Lib.hid q3r
        have S0 : SmS b (off + n) b' (off' + n) rA x.length rc sA y.length sc wr.drew := ⟨c0, hbl, d0, hbl'⟩
        clear hvn hun hxn hyn hvl hul p3r q3r
        by_cases he : x = y
        · have HD : Hid (decide (x = y) = true) := by show _ = _; simp [he]
          have hg' : Hid (∀ i : Nat, i < n + 1 → l[i]? = m[i]?) := fun i hi => by
            by_cases e : i = n
            · subst e; rw [HX.out, HY.out, he]
            · exact hg.out i (by omega)
          clear he
          go_wp2_with fail
          refine (equalT_calls wr rA sA rc sc x y (by omega) (by omega) X1.out Y1.out).mono ?_
          rintro e w6 ⟨rfl, hb6⟩
          rw [HD.out]
          have B6 := Lib.hid (bl_then hb hb.size hb6)
          clear hb6
          go_wp2
          exact ⟨⟨n + 1, by omega, by go_num, hg', B6.out⟩, by simp [intOf]; omega⟩
        · have HD : Hid (decide (x = y) = false) := by show _ = _; simp [he]
          have hv : Hid (decide (l = m) = false) := by
            show _ = _
            rw [decide_eq_false_iff_not]
            intro e
            have h1 := HX.out
            rw [e, HY.out] at h1
            exact he (Option.some.inj h1.symm)
          clear he
          go_wp2_with fail
          refine (equalT_calls wr rA sA rc sc x y (by omega) (by omega) X1.out Y1.out).mono ?_
          rintro e w6 ⟨rfl, hb6⟩
          rw [HD.out]
          have B6 := Lib.hid (bl_then hb hb.size hb6)
          clear hb6
          go_wp2
          go_ret
          exact ⟨by rw [hv.out]; rfl, B6.out⟩
      · have hv : Hid (decide (l = m) = true) := by
          show _ = _
          rw [decide_eq_true_iff]
          apply List.ext_getElem?
          intro i
          by_cases hi : i < n
          · exact hg.out i hi
          · have := HL.out
            rw [List.getElem?_eq_none (by omega), List.getElem?_eq_none (by omega)]
        have hnn : ¬ (n : Int) < (l.length : Int) := by omega
        go_wp2
        go_ret
        exact ⟨by rw [hv.out]; rfl, hb⟩
  · have hq : ((l.length : Int) != (m.length : Int)) = true := by rw [bne_iff_ne]; omega
    have hv : Hid (decide (l = m) = false) := by
      show _ = _
      rw [decide_eq_false_iff_not]
      intro e
      exact hlen (by simp [e])
    clear hlen
    go_enter Tryz.func69, Tryz.ntmps69
    go_wp2
    go_ret
    exact ⟨by rw [hv.out]; rfl, Below.refl _ _⟩
theorem same_calls (w : World) (A B : Option Addr) (c e : Nat) (l m : List (List Str)) (hl : l.length ≤ 9223372036854775807) (hm : m.length ≤ 9223372036854775807) (hls : ∀ x ∈ l, x.length ≤ 9223372036854775807) (hms : ∀ x ∈ m, x.length ≤ 9223372036854775807) (h : RwR strEnc 1 w A l) (k : RwR strEnc 1 w B m) :
    Calls Tryz.prog 19 #[.slice A l.length c, .slice B m.length e] w fun e w' => e = .returned (.bool (decide (l = m))) ∧ Below w.heap.size w w' := by
  have H := Lib.hid (equalF_calls w A B c e l m hl hm hls hms h k)
  clear hls hms h k
  go_enter Tryz.func19, Tryz.ntmps19
  go_wp2_with fail
  refine H.out.mono ?_
  rintro e w1 ⟨rfl, hb⟩
  have B1 := Lib.hid hb
  clear hb
  go_wp2
  go_ret
  exact ⟨rfl, B1.out⟩
end Go.Proofs.YtikgplhcadomcaaGreat
