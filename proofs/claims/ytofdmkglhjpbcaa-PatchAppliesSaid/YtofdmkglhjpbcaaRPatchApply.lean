/- ref27.Apply -/
import Derived.Test.YtofdmkglhjpbcaaPatchApply
import Derived.Test.YtofdmkglhjpbcaaRefApply
import Derived.Deep.RegionHeld3
namespace Go.Proofs.Ytofdmkglhjpbcaa
open Go.RowKit
set_option linter.unusedVariables false
set_option linter.unusedSimpArgs false

theorem setGo_true (k v v' : Str) : ∀ l : List Entry, setGo k v l true = setGo k v' l true
  | [] => rfl
  | x :: l => by unfold setGo; simp only [Bool.true_or]; rw [setGo_true k v v' l]; simp
theorem set_edit (m : List Entry) (c : Change) : setRef m c.key ⟨c.has, c.now⟩ = setRef m (editOf c).key ⟨!(editOf c).gone, (editOf c).val⟩ := by
  cases h : c.has with
  | true => rw [editOf_t h]; rfl
  | false => rw [editOf_f h]; unfold setRef; exact setGo_true _ _ _ _
theorem refE_succ {a : List Entry} {l : List Change} {k : Nat} {c : Change} (h : l[k]? = some c) : refApply a ((l.take (k + 1)).map editOf) = setRef (refApply a ((l.take k).map editOf)) c.key ⟨c.has, c.now⟩ := by
  rw [take_snoc' h, List.map_append, set_edit]
  exact refApply_snoc _ _ _

set_option maxRecDepth 100000 in
set_option maxHeartbeats 2000000 in
theorem RApply_calls (w : World) (A B : Option Addr) (c d : Nat) (a : List Entry) (l : List Change) (la : a.length + l.length ≤ 1000000) (qa : a.length ≤ c) (qa' : c ≤ 9223372036854775807) (zl : SmallC l)
    (hA : Rd Entry.enc 2 w A a) (hB : Rd Change.enc 5 w B l) :
    Calls Try.prog 32 #[.slice A a.length c, .slice B l.length d] w fun e w' => ∃ A' c', e = .returned (.tuple #[.slice A' (patchApply a l).1.length c', .int .i64 (patchApply a l).2]) ∧ (patchApply a l).1.length ≤ 1000000 ∧ Rd Entry.enc 2 w' A' (patchApply a l).1 ∧ Below w.heap.size w w' := by
  have HA := Lib.hid hA
  have HB := Lib.hid hB
  have ZL := Lib.hid zl
  clear hA hB zl
  cases he : decide (patchErr l = 0) with
  | false =>
    have hne : ¬ patchErr l = 0 := by simpa using he
    have hp := Lib.hid (patchApply_bad (a := a) hne)
    have hnb : (patchErr l != 0) = true := by simpa using hne
    clear he hne
    go_enter Try.func32, Try.ntmps32
    go_wp2_with fail
    refine (Patch_calls _ B d l (by omega) ZL.out HB.out).mono ?_
    rintro e w1 ⟨rfl, hb1⟩
    generalize patchErr l = pe at *
    go_wp2
    go_ret2
    exact ⟨none, 0, by rw [hp.out]; rfl, by rw [hp.out]; simp, by rw [hp.out]; exact .inl rfl, hb1⟩
  | true =>
    have hz : patchErr l = 0 := by simpa using he
    have HZ := Lib.hid hz
    clear he hz
    go_enter Try.func32, Try.ntmps32
    go_wp2_with fail
    refine (Patch_calls _ B d l (by omega) ZL.out HB.out).mono ?_
    rintro e w1 ⟨rfl, hb1⟩
    rw [HZ.out]
    have B1 := Lib.hid hb1
    clear hb1
    go_wp2
    go_loopg [7, 18] l.length (fun n v i wr => ∃ k : Nat, i = .int .i64 k ∧ k + n = l.length ∧ Hid (∀ j c, j < k → l[j]? = some c → fits a c = true) ∧ Hid ((refApply a ((l.take k).map editOf)).length ≤ a.length + k) ∧
      Hid (∃ A' c', v = .slice A' (refApply a ((l.take k).map editOf)).length c' ∧ Rd Entry.enc 2 wr A' (refApply a ((l.take k).map editOf))) ∧ Hid (Below w.heap.size w wr))
    case atStart => exact ⟨0, rfl, by omega, fun j c h => by omega, by show _ ≤ _; simp [refApply], ⟨A, c, rfl, HA.out.below B1.out (Nat.le_refl _)⟩, B1.out⟩
    case round =>
      obtain ⟨k, rfl, hk, hf, hln, hm, hbw⟩ := hrel
      obtain ⟨A', c', rfl, h3⟩ := hm.out
      by_cases hlt : k < l.length
      · obtain ⟨n', hn'⟩ : ∃ n', gk = n' + 1 := ⟨gk - 1, by omega⟩
        subst hn'
        rcases HB.out.below hbw.out (Nat.le_refl _) with h0 | ⟨b, off, rfl, hbl, hc⟩
        · simp [h0] at hlt
        have hx := List.getElem?_eq_getElem hlt
        have hmem := List.getElem_mem hlt
        have c0 : wr.cell? ⟨b, off + k * 5, none⟩ = some (.string l[k].key) := hc k l[k] hx 0 _ rfl
        have c1 : wr.cell? ⟨b, off + k * 5 + 1, none⟩ = some (.bool l[k].had) := hc k l[k] hx 1 _ rfl
        have c2 : wr.cell? ⟨b, off + k * 5 + 2, none⟩ = some (.string l[k].was) := hc k l[k] hx 2 _ rfl
        have c3 : wr.cell? ⟨b, off + k * 5 + 3, none⟩ = some (.bool l[k].has) := hc k l[k] hx 3 _ rfl
        have c4 : wr.cell? ⟨b, off + k * 5 + 4, none⟩ = some (.string l[k].now) := hc k l[k] hx 4 _ rfl
        have HX := Lib.hid hx
        have HM := Lib.hid hmem
        have hd := Lib.hid (refE_succ (a := a) hx)
        generalize l[k] = x at *
        obtain ⟨key, had, was, has, now⟩ := x
        simp only at c0 c1 c2 c3 c4 hd
        have KG : Hid (∀ W, Below (wr.alloc (.cells #[.string key, .bool had, .string was, .bool has, .string now] 35)).heap.size (wr.alloc (.cells #[.string key, .bool had, .string was, .bool has, .string now] 35)) W →
            Calls Try.prog 28 #[.slice A a.length c, .string key] W fun e w' => e = .returned (.agg #[.bool (get a key).has, .string (get a key).val]) ∧ Below W.heap.size W w') := fun W hW =>
          Get_calls' W A c a key (by omega) ((HA.out.below (bl_alloc hbw.out _) (Nat.le_refl _)).below hW (Nat.le_refl _))
        have hfit : Hid (fits a ⟨key, had, was, has, now⟩ = decide (get a key = ⟨had, was⟩)) := rfl
        generalize get a key = s at *
        obtain ⟨sh, sv⟩ := s
        simp only at KG
        have heq := fun (d : Nat) (W : World) => eqSideL' d W sh had sv was
        obtain ⟨q, hq⟩ : ∃ q, q = decide ((⟨sh, sv⟩ : Side) = ⟨had, was⟩) := ⟨_, rfl⟩
        rw [← hq] at heq hfit
        clear hq hc hx hmem
        obtain ⟨m, hme⟩ : ∃ m, m = refApply a ((l.take k).map editOf) := ⟨_, rfl⟩
        rw [← hme] at h3 hln hd
        rw [← hme]
        clear hme hm
        have hbN := Lib.hid (blk_new wr (.cells #[.string key, .bool had, .string was, .bool has, .string now] 35))
        have hb0 : Hid (Below w.heap.size w (wr.alloc (.cells #[.string key, .bool had, .string was, .bool has, .string now] 35))) := bl_alloc hbw.out _
        have h30 : Hid (Rd Entry.enc 2 (wr.alloc (.cells #[.string key, .bool had, .string was, .bool has, .string now] 35)) A' m) := h3.below (bl_alloc (Below.refl wr.heap.size wr) _) (Nat.le_refl _)
        go_wp2_with fail
        generalize hW0 : wr.alloc (.cells #[.string key, .bool had, .string was, .bool has, .string now] 35) = W0 at *
        have HF : Hid (∀ W, Below W0.heap.size W0 W → W.cell? ⟨wr.heap.size, 0, none⟩ = some (.string key) ∧ W.cell? ⟨wr.heap.size, 1, none⟩ = some (.bool had) ∧ W.cell? ⟨wr.heap.size, 2, none⟩ = some (.string was) ∧ W.cell? ⟨wr.heap.size, 3, none⟩ = some (.bool has) ∧ W.cell? ⟨wr.heap.size, 4, none⟩ = some (.string now)) := fun W hW => by
          have h := blk_below hW hbN.out (blk_lt hbN.out)
          exact ⟨by rw [blk_cell h]; rfl, by rw [blk_cell h]; rfl, by rw [blk_cell h]; rfl, by rw [blk_cell h]; rfl, by rw [blk_cell h]; rfl⟩
        generalize wr.heap.size = N at *
        clear hW0 c0 c1 c2 c3 c4 h3
        refine wp_region_noPanic ?_
        refine wp_region_held_drew (S := (fun W' => Hid (Below W0.heap.size W0 W'))) (by kernel_rfl) ((Below.refl _ _).drew) (fun hHeld => ?_)
        refine wpAnyH_take (i := 0) (oi := ⟨some 22, _, _, _, _, _⟩) (v := ?_) rfl (by kernel_rfl) (by kernel_rfl) (by kernel_rfl) (fun _ _ _ h => h) (Or.inl ⟨by rfl, ?_⟩) (by assumption) ?_
        rotate_left
        · (intro w hSw; (try dsimp only at hSw); obtain ⟨y0, y1, y2, y3, y4⟩ := HF.out _ hSw.out; (go_simp <;> with_reducible rfl))
        try simp only [Act.put, List.setIfInBounds_toArray, List.set_cons_zero, List.set_cons_succ]
        refine wpAnyH_take (i := 1) (oi := ⟨some 23, _, _, _, _, _⟩) (v := ?_) rfl (by kernel_rfl) (by kernel_rfl) (by kernel_rfl) (fun _ _ _ h => h) (Or.inl ⟨by rfl, ?_⟩) (by assumption) ?_
        rotate_left
        · (intro w hSw; (try dsimp only at hSw); obtain ⟨y0, y1, y2, y3, y4⟩ := HF.out _ hSw.out; (go_simp <;> with_reducible rfl))
        try simp only [Act.put, List.setIfInBounds_toArray, List.set_cons_zero, List.set_cons_succ]
        refine wpAnyH_take (i := 2) (oi := ⟨some 24, _, _, _, _, _⟩) (v := ?_) rfl (by kernel_rfl) (by kernel_rfl) (by kernel_rfl) (fun _ _ _ h => h) (Or.inl ⟨by rfl, ?_⟩) (by assumption) ?_
        rotate_left
        · (intro w hSw; (try dsimp only at hSw); obtain ⟨y0, y1, y2, y3, y4⟩ := HF.out _ hSw.out; (go_simp <;> with_reducible rfl))
        try simp only [Act.put, List.setIfInBounds_toArray, List.set_cons_zero, List.set_cons_succ]
        refine wpAnyH_take (i := 4) (oi := ⟨some 26, _, _, _, _, _⟩) (v := ?_) rfl (by kernel_rfl) (by kernel_rfl) (by kernel_rfl) (fun _ _ _ h => h) (Or.inl ⟨by rfl, ?_⟩) (by assumption) ?_
        rotate_left
        · (intro w hSw; (try dsimp only at hSw); obtain ⟨y0, y1, y2, y3, y4⟩ := HF.out _ hSw.out; (go_simp <;> with_reducible rfl))
        try simp only [Act.put, List.setIfInBounds_toArray, List.set_cons_zero, List.set_cons_succ]
        refine wpAnyH_take (i := 5) (oi := ⟨some 27, _, _, _, _, _⟩) (v := ?_) rfl (by kernel_rfl) (by kernel_rfl) (by kernel_rfl) (fun _ _ _ h => h) (Or.inl ⟨by rfl, ?_⟩) (by assumption) ?_
        rotate_left
        · (intro w hSw; (try dsimp only at hSw); obtain ⟨y0, y1, y2, y3, y4⟩ := HF.out _ hSw.out; (go_simp <;> with_reducible rfl))
        try simp only [Act.put, List.setIfInBounds_toArray, List.set_cons_zero, List.set_cons_succ]
        refine wpAnyH_take (i := 6) (oi := ⟨some 28, _, _, _, _, _⟩) (v := ?_) rfl (by kernel_rfl) (by kernel_rfl) (by kernel_rfl) (fun _ _ _ h => h) (Or.inl ⟨by rfl, ?_⟩) (by assumption) ?_
        rotate_left
        · (intro w hSw; (try dsimp only at hSw); obtain ⟨y0, y1, y2, y3, y4⟩ := HF.out _ hSw.out; (go_simp <;> with_reducible rfl))
        try simp only [Act.put, List.setIfInBounds_toArray, List.set_cons_zero, List.set_cons_succ]
        refine wpAnyH_take (i := 7) (oi := ⟨some 29, _, _, _, _, _⟩) (v := ?_) rfl (by kernel_rfl) (by kernel_rfl) (by kernel_rfl) (fun _ _ _ h => h) (Or.inl ⟨by rfl, ?_⟩) (by assumption) ?_
        rotate_left
        · (intro w hSw; (try dsimp only at hSw); obtain ⟨y0, y1, y2, y3, y4⟩ := HF.out _ hSw.out; (go_simp <;> with_reducible rfl))
        try simp only [Act.put, List.setIfInBounds_toArray, List.set_cons_zero, List.set_cons_succ]
        refine wpAnyH_take (i := 8) (oi := ⟨some 30, _, _, _, _, _⟩) (v := ?_) rfl (by kernel_rfl) (by kernel_rfl) (by kernel_rfl) (fun _ _ _ h => h) (Or.inl ⟨by rfl, ?_⟩) (by assumption) ?_
        rotate_left
        · (intro w hSw; (try dsimp only at hSw); obtain ⟨y0, y1, y2, y3, y4⟩ := HF.out _ hSw.out; (go_simp <;> with_reducible rfl))
        try simp only [Act.put, List.setIfInBounds_toArray, List.set_cons_zero, List.set_cons_succ]
        refine wpAnyH_ready (rs := [3]) (by kernel_rfl) (by simp) ?_
        refine AllReadyH.cons rfl (fun K hK => ?_) AllReadyH.nil
        go_simp
        go_at_call 28
        with_reducible refine (KG.out _ ((Below.refl _ W0).drew)).mono ?_
        rintro e w1 ⟨rfl, q1⟩
        have S2 : Hid (Below W0.heap.size W0 w1) := bl_then (Below.refl _ W0).drew (Nat.le_refl _) q1
        clear q1
        refine hK.out _ _ (by assumption) (fun _ => ?_)
        clear hK K
        try simp only [Act.put, List.setIfInBounds_toArray, List.set_cons_zero, List.set_cons_succ]
        refine wpAnyH_take (i := 9) (oi := ⟨some 31, _, _, _, _, _⟩) (v := ?_) rfl (by kernel_rfl) (by kernel_rfl) (by kernel_rfl) (fun _ _ _ h => h) (Or.inl ⟨by rfl, ?_⟩) (by assumption) ?_
        rotate_left
        · (intro w hSw; (try dsimp only at hSw); obtain ⟨y0, y1, y2, y3, y4⟩ := HF.out _ hSw.out; (go_simp <;> with_reducible rfl))
        try simp only [Act.put, List.setIfInBounds_toArray, List.set_cons_zero, List.set_cons_succ]
        refine wpAnyH_done (by kernel_rfl) ?_ _
        refine NoPanic.normal ?_
        obtain ⟨y0, y1, y2, y3, y4⟩ := HF.out w1 S2.out
        have hbw1 := Lib.hid (bl_then hb0.out hb0.out.size S2.out)
        have h31 := Lib.hid (h30.out.below S2.out (Nat.le_refl _))
        clear hHeld HF KG hb0 h30
        cases q with
        | false =>
          have hp : Hid (patchApply a l = ([], 170)) := patchApply_170 HZ.out HM.out (by rw [hfit.out])
          go_wp2
          go_ret2
          exact ⟨none, 0, by rw [hp.out]; rfl, by rw [hp.out]; simp, by rw [hp.out]; exact .inl rfl, hbw1.out⟩
        | true =>
          have hf' : Hid (∀ j c, j < k + 1 → l[j]? = some c → fits a c = true) := fun j c hj hc => by
            by_cases e : j = k
            · subst e
              rw [HX.out] at hc
              cases hc
              rw [hfit.out]
            · exact hf.out j c (by omega) hc
          have hm1 : m.length ≤ 1000000 := by have := hln.out; omega
          have hsl := Lib.hid (setRef_len m key ⟨has, now⟩)
          have KS := Lib.hid (fun W h => refSet_calls W A' c' m key ⟨has, now⟩ hm1 h)
          go_wp2_with fail
          refine (KS.out _ h31.out).mono ?_
          rintro e w2 ⟨v2, rfl, ho, hb2⟩
          obtain ⟨A2, c2, rfl, k1, k2, k3, k4⟩ := ho.rd Entry.ok
          have K3 := Lib.hid k3
          have hbw2 := Lib.hid (bl_then hbw1.out hbw1.out.size hb2)
          clear ho k3 k4 hb2 y0 y1 y2 y3 y4
          go_wp2
          go_roundg n'
          case measure => omega
          case rel =>
            refine ⟨k + 1, by go_num, by omega, hf', ?_, ?_, hbw2.out⟩
            · show _ ≤ _; rw [hd.out]; have := hsl.out; have := hln.out; omega
            · show ∃ A' c', _
              rw [hd.out]
              exact ⟨A2, c2, rfl, K3.out⟩
      · have hk' : k = l.length := by omega
        have hp : Hid (patchApply a l = (refApply a ((l.take k).map editOf), 0)) := by
          show _ = _
          rw [hk', List.take_length]
          exact patchApply_ok HZ.out (List.all_eq_true.2 fun x hx => by
            obtain ⟨j, hj⟩ := List.getElem?_of_mem hx
            have := (List.getElem?_eq_some_iff.1 hj).1
            exact hf.out j x (by omega) hj)
        have H3 := Lib.hid h3
        clear h3 hm
        go_wp2
        go_ret2
        exact ⟨A', c', by rw [hp.out]; rfl, by rw [hp.out]; have := hln.out; show (refApply a _).length ≤ _; omega, by rw [hp.out]; exact H3.out, hbw.out⟩
end Go.Proofs.Ytofdmkglhjpbcaa
