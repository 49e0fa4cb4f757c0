/- ref27.PutPatch -/
import Derived.Test.YtofdmkglhjpbcaaPatchPut
import Derived.Test.YtofdmkglhjpbcaaPatchQ
import Derived.Deep.RegionHeld3
namespace Go.Proofs.Ytofdmkglhjpbcaa
open Go.RowKit
set_option linter.unusedVariables false
set_option linter.unusedSimpArgs false

set_option maxRecDepth 100000 in
set_option maxHeartbeats 2000000 in
theorem rPutPatch_calls (w : World) (A : Option Addr) (c : Nat) (l : List Change) (hl : l.length ≤ 100) (ht : Tiny l) (h : Rd Change.enc 5 w A l) :
    Calls Try.prog 34 #[.slice A l.length c] w fun e w' => ∃ v, e = .returned (.tuple #[v, .int .i64 (patchPut l).2]) ∧ Own u8e 1 5 w.heap.size w' v (patchPut l).1 ∧ Below w.heap.size w w' := by
  have HA := Lib.hid h
  have HT := Lib.hid ht
  have hz : ∀ x ∈ l, x.key.size ≤ 9223372036854775807 ∧ x.was.size ≤ 9223372036854775807 ∧ x.now.size ≤ 9223372036854775807 := fun x hx => by have := ht x hx; omega
  have HZ := Lib.hid hz
  have hfl := Lib.hid (flat_changes ht)
  have h10 := Lib.hid (lebI_len10 l.length (by omega))
  have hwl : IntKind.u64.wrap (l.length : Int) = (l.length : Int) := by rw [IntKind.wrap_u64]; omega
  clear h ht hz
  by_cases e1 : patchErr l = 0
  rotate_left
  · have hv : Hid (patchPut l = ([], patchErr l)) := if_pos e1
    have hnb : (patchErr l != 0) = true := by simpa using e1
    clear e1
    go_enter Try.func34, Try.ntmps34
    go_wp2_with fail
    refine (Patch_calls _ A c l (by omega) HZ.out HA.out).mono ?_
    rintro e w1 ⟨rfl, hb1⟩
    generalize patchErr l = pe at *
    go_wp2
    go_ret2
    exact ⟨.slice none 0 0, by rw [hv.out]; rfl, by rw [hv.out]; exact Own.nil, hb1⟩
  have E1 := Lib.hid e1
  have hv : Hid (patchPut l = (lebI l.length ++ l.flatMap changeI, 0)) := by show _ = _; unfold patchPut; rw [if_neg (by simp [e1])]; rfl
  clear e1
  go_enter Try.func34, Try.ntmps34
  go_wp2_with fail
  refine (Patch_calls _ A c l (by omega) HZ.out HA.out).mono ?_
  rintro e w1 ⟨rfl, hb1⟩
  rw [E1.out]
  have B1 := Lib.hid hb1
  clear hb1
  go_wp2_with fail
  refine (rNum_calls _ (.slice none 0 0) [] l.length (by omega) (by simp) w1.heap.size (Nat.le_refl _) Own.nil).mono ?_
  rintro e w2 ⟨v2, rfl, hO2, hb2, -⟩
  have O2 : Hid (Own u8e 1 5 w1.heap.size w2 v2 (lebI l.length)) := hO2
  have B2 := Lib.hid hb2
  clear hO2 hb2
  go_wp2
  go_loopg [5, 19] l.length (fun n v i wr => ∃ k : Nat, i = .int .i64 k ∧ k + n = l.length ∧ Hid (Own u8e 1 5 w1.heap.size wr v (lebI l.length ++ (l.take k).flatMap changeI)) ∧ Hid (Below w1.heap.size w1 wr))
  case atStart => exact ⟨0, rfl, by omega, by show Own _ _ _ _ _ _ _; simpa using O2.out, B2.out⟩
  case round =>
    obtain ⟨k, rfl, hk, hW, hb⟩ := hrel
    have hbw := Lib.hid (bl_then B1.out B1.out.size hb.out)
    by_cases hlt : k < l.length
    · obtain ⟨n', hn'⟩ : ∃ n', gk = n' + 1 := ⟨gk - 1, by omega⟩
      subst hn'
      rcases HA.out.below hbw.out (Nat.le_refl _) with h0 | ⟨b, off, rfl, hbl, hc⟩
      · simp [h0] at hlt
      have hx := List.getElem?_eq_getElem hlt
      have c0 : wr.cell? ⟨b, off + k * 5, none⟩ = some (.string l[k].key) := hc k l[k] hx 0 _ rfl
      have c1 : wr.cell? ⟨b, off + k * 5 + 1, none⟩ = some (.bool l[k].had) := hc k l[k] hx 1 _ rfl
      have c2 : wr.cell? ⟨b, off + k * 5 + 2, none⟩ = some (.string l[k].was) := hc k l[k] hx 2 _ rfl
      have c3 : wr.cell? ⟨b, off + k * 5 + 3, none⟩ = some (.bool l[k].has) := hc k l[k] hx 3 _ rfl
      have c4 : wr.cell? ⟨b, off + k * 5 + 4, none⟩ = some (.string l[k].now) := hc k l[k] hx 4 _ rfl
      have hd : Hid (lebI l.length ++ (l.take (k + 1)).flatMap changeI = lebI l.length ++ (l.take k).flatMap changeI ++ changeI l[k]) := by show _ = _; rw [List.take_add_one, hx]; simp only [Option.toList_some, List.flatMap_append, List.flatMap_cons, List.flatMap_nil, List.append_nil, List.append_assoc]
      have htn := Lib.hid (HT.out l[k] (List.getElem_mem hlt))
      have hln : Hid ((lebI l.length ++ (l.take k).flatMap changeI).length ≤ 310000) := by show _ ≤ _; rw [List.length_append]; have := h10.out; have := hfl.out k; omega
      generalize l[k] = x at *
      obtain ⟨key, had, was, has, now⟩ := x
      simp only at c0 c1 c2 c3 c4
      obtain ⟨t0, t1, t2⟩ := htn.out
      simp only at t0 t1 t2
      have q0 := Lib.hid (textI_len t0)
      have q1 := Lib.hid (textI_len t1)
      have q2 := Lib.hid (textI_len t2)
      obtain ⟨bs, hbs⟩ : ∃ x, x = lebI l.length ++ (l.take k).flatMap changeI := ⟨_, rfl⟩
      rw [← hbs] at hW hd hln
      clear hbs hc hx
      have hN := Lib.hid (blk_new wr (.cells #[.string key, .bool had, .string was, .bool has, .string now] 35))
      have hOa := Lib.hid (hW.out.alloc (.cells #[.string key, .bool had, .string was, .bool has, .string now] 35))
      have hBa := Lib.hid (bl_alloc hb.out (.cells #[.string key, .bool had, .string was, .bool has, .string now] 35))
      have n35 : Hid (35 ≠ 5 ∧ 35 ≠ 94) := by show _ ∧ _; decide
      have f0 := flagI_len had
      have f1 := flagI_len has
      go_wp2_with fail
      generalize hW0 : wr.alloc (.cells #[.string key, .bool had, .string was, .bool has, .string now] 35) = W0 at *
      have N0 : Hid (W0.drew.heap[wr.heap.size]? = some (.cells #[.string key, .bool had, .string was, .bool has, .string now] 35)) := hN.out
      have D0 : Hid (Below w1.heap.size w1 W0.drew) := hBa.out.drew
      have O0 : Hid (Own u8e 1 5 w1.heap.size W0.drew u5 bs) := hOa.out.drew
      generalize wr.heap.size = N at *
      clear hW0 c0 c1 c2 c3 c4 hN hOa hBa
      refine wp_region_noPanic ?_
      refine wp_region_held_drew (S := (fun W' => Hid (W'.heap[N]? = some (.cells #[.string key, .bool had, .string was, .bool has, .string now] 35)))) (by kernel_rfl) (N0.out) (fun hHeld => ?_)
      refine wpAnyH_take (i := 0) (oi := ⟨some 23, _, _, _, _, _⟩) (v := ?_) rfl (by kernel_rfl) (by kernel_rfl) (by kernel_rfl) (fun _ _ _ h => h) (Or.inl ⟨by rfl, ?_⟩) (by assumption) ?_
      rotate_left
      · (intro w hSw; (try dsimp only at hSw); have y := hSw.out; have y0 : w.cell? ⟨N, 0, none⟩ = some (.string key) := (by rw [blk_cell y]; rfl); have y1 : w.cell? ⟨N, 1, none⟩ = some (.bool had) := (by rw [blk_cell y]; rfl); have y2 : w.cell? ⟨N, 2, none⟩ = some (.string was) := (by rw [blk_cell y]; rfl); have y3 : w.cell? ⟨N, 3, none⟩ = some (.bool has) := (by rw [blk_cell y]; rfl); have y4 : w.cell? ⟨N, 4, none⟩ = some (.string now) := (by rw [blk_cell y]; rfl); clear y; (go_simp <;> with_reducible rfl))
      try simp only [Act.put, List.setIfInBounds_toArray, List.set_cons_zero, List.set_cons_succ]
      refine wpAnyH_take (i := 1) (oi := ⟨some 24, _, _, _, _, _⟩) (v := ?_) rfl (by kernel_rfl) (by kernel_rfl) (by kernel_rfl) (fun _ _ _ h => h) (Or.inl ⟨by rfl, ?_⟩) (by assumption) ?_
      rotate_left
      · (intro w hSw; (try dsimp only at hSw); have y := hSw.out; have y0 : w.cell? ⟨N, 0, none⟩ = some (.string key) := (by rw [blk_cell y]; rfl); have y1 : w.cell? ⟨N, 1, none⟩ = some (.bool had) := (by rw [blk_cell y]; rfl); have y2 : w.cell? ⟨N, 2, none⟩ = some (.string was) := (by rw [blk_cell y]; rfl); have y3 : w.cell? ⟨N, 3, none⟩ = some (.bool has) := (by rw [blk_cell y]; rfl); have y4 : w.cell? ⟨N, 4, none⟩ = some (.string now) := (by rw [blk_cell y]; rfl); clear y; (go_simp <;> with_reducible rfl))
      try simp only [Act.put, List.setIfInBounds_toArray, List.set_cons_zero, List.set_cons_succ]
      refine wpAnyH_take (i := 2) (oi := ⟨some 25, _, _, _, _, _⟩) (v := ?_) rfl (by kernel_rfl) (by kernel_rfl) (by kernel_rfl) (fun _ _ _ h => h) (Or.inl ⟨by rfl, ?_⟩) (by assumption) ?_
      rotate_left
      · (intro w hSw; (try dsimp only at hSw); have y := hSw.out; have y0 : w.cell? ⟨N, 0, none⟩ = some (.string key) := (by rw [blk_cell y]; rfl); have y1 : w.cell? ⟨N, 1, none⟩ = some (.bool had) := (by rw [blk_cell y]; rfl); have y2 : w.cell? ⟨N, 2, none⟩ = some (.string was) := (by rw [blk_cell y]; rfl); have y3 : w.cell? ⟨N, 3, none⟩ = some (.bool has) := (by rw [blk_cell y]; rfl); have y4 : w.cell? ⟨N, 4, none⟩ = some (.string now) := (by rw [blk_cell y]; rfl); clear y; (go_simp <;> with_reducible rfl))
      try simp only [Act.put, List.setIfInBounds_toArray, List.set_cons_zero, List.set_cons_succ]
      refine wpAnyH_take (i := 4) (oi := ⟨some 27, _, _, _, _, _⟩) (v := ?_) rfl (by kernel_rfl) (by kernel_rfl) (by kernel_rfl) (fun _ _ _ h => h) (Or.inl ⟨by rfl, ?_⟩) (by assumption) ?_
      rotate_left
      · (intro w hSw; (try dsimp only at hSw); have y := hSw.out; have y0 : w.cell? ⟨N, 0, none⟩ = some (.string key) := (by rw [blk_cell y]; rfl); have y1 : w.cell? ⟨N, 1, none⟩ = some (.bool had) := (by rw [blk_cell y]; rfl); have y2 : w.cell? ⟨N, 2, none⟩ = some (.string was) := (by rw [blk_cell y]; rfl); have y3 : w.cell? ⟨N, 3, none⟩ = some (.bool has) := (by rw [blk_cell y]; rfl); have y4 : w.cell? ⟨N, 4, none⟩ = some (.string now) := (by rw [blk_cell y]; rfl); clear y; (go_simp <;> with_reducible rfl))
      try simp only [Act.put, List.setIfInBounds_toArray, List.set_cons_zero, List.set_cons_succ]
      refine wpAnyH_take (i := 5) (oi := ⟨some 28, _, _, _, _, _⟩) (v := ?_) rfl (by kernel_rfl) (by kernel_rfl) (by kernel_rfl) (fun _ _ _ h => h) (Or.inl ⟨by rfl, ?_⟩) (by assumption) ?_
      rotate_left
      · (intro w hSw; (try dsimp only at hSw); have y := hSw.out; have y0 : w.cell? ⟨N, 0, none⟩ = some (.string key) := (by rw [blk_cell y]; rfl); have y1 : w.cell? ⟨N, 1, none⟩ = some (.bool had) := (by rw [blk_cell y]; rfl); have y2 : w.cell? ⟨N, 2, none⟩ = some (.string was) := (by rw [blk_cell y]; rfl); have y3 : w.cell? ⟨N, 3, none⟩ = some (.bool has) := (by rw [blk_cell y]; rfl); have y4 : w.cell? ⟨N, 4, none⟩ = some (.string now) := (by rw [blk_cell y]; rfl); clear y; (go_simp <;> with_reducible rfl))
      try simp only [Act.put, List.setIfInBounds_toArray, List.set_cons_zero, List.set_cons_succ]
      refine wpAnyH_take (i := 7) (oi := ⟨some 30, _, _, _, _, _⟩) (v := ?_) rfl (by kernel_rfl) (by kernel_rfl) (by kernel_rfl) (fun _ _ _ h => h) (Or.inl ⟨by rfl, ?_⟩) (by assumption) ?_
      rotate_left
      · (intro w hSw; (try dsimp only at hSw); have y := hSw.out; have y0 : w.cell? ⟨N, 0, none⟩ = some (.string key) := (by rw [blk_cell y]; rfl); have y1 : w.cell? ⟨N, 1, none⟩ = some (.bool had) := (by rw [blk_cell y]; rfl); have y2 : w.cell? ⟨N, 2, none⟩ = some (.string was) := (by rw [blk_cell y]; rfl); have y3 : w.cell? ⟨N, 3, none⟩ = some (.bool has) := (by rw [blk_cell y]; rfl); have y4 : w.cell? ⟨N, 4, none⟩ = some (.string now) := (by rw [blk_cell y]; rfl); clear y; (go_simp <;> with_reducible rfl))
      try simp only [Act.put, List.setIfInBounds_toArray, List.set_cons_zero, List.set_cons_succ]
      refine wpAnyH_take (i := 8) (oi := ⟨some 31, _, _, _, _, _⟩) (v := ?_) rfl (by kernel_rfl) (by kernel_rfl) (by kernel_rfl) (fun _ _ _ h => h) (Or.inl ⟨by rfl, ?_⟩) (by assumption) ?_
      rotate_left
      · (intro w hSw; (try dsimp only at hSw); have y := hSw.out; have y0 : w.cell? ⟨N, 0, none⟩ = some (.string key) := (by rw [blk_cell y]; rfl); have y1 : w.cell? ⟨N, 1, none⟩ = some (.bool had) := (by rw [blk_cell y]; rfl); have y2 : w.cell? ⟨N, 2, none⟩ = some (.string was) := (by rw [blk_cell y]; rfl); have y3 : w.cell? ⟨N, 3, none⟩ = some (.bool has) := (by rw [blk_cell y]; rfl); have y4 : w.cell? ⟨N, 4, none⟩ = some (.string now) := (by rw [blk_cell y]; rfl); clear y; (go_simp <;> with_reducible rfl))
      try simp only [Act.put, List.setIfInBounds_toArray, List.set_cons_zero, List.set_cons_succ]
      refine wpAnyH_ready (rs := [3]) (by kernel_rfl) (by simp) ?_
      refine AllReadyH.cons rfl (fun K hK => ?_) AllReadyH.nil
      go_simp
      go_at_call 60
      with_reducible refine (rText_calls _ u5 bs key (by omega) (by have := hln.out; have := q0.out; have := q1.out; have := q2.out; (try simp only [List.length_append, f0, f1]); omega) w1.heap.size D0.out.size O0.out).mono ?_
      rintro e x1 ⟨v1, rfl, ho1, hb1, ht1⟩
      have O1 := Lib.hid ho1
      have D1 := Lib.hid (D0.out.trans hb1)
      have N1 : Hid (x1.heap[N]? = some (.cells #[.string key, .bool had, .string was, .bool has, .string now] 35)) := ht1 _ n35.out.1 n35.out.2 _ _ _ N0.out
      clear ho1 hb1 ht1
      refine hK.out _ _ (by assumption) (fun _ => ?_)
      clear hK K
      try simp only [Act.put, List.setIfInBounds_toArray, List.set_cons_zero, List.set_cons_succ]
      refine wpAnyH_ready (rs := [6]) (by kernel_rfl) (by simp) ?_
      refine AllReadyH.cons rfl (fun K hK => ?_) AllReadyH.nil
      go_simp
      go_at_call 61
      with_reducible refine (rFlag_calls _ v1 _ had (by have := hln.out; have := q0.out; have := q1.out; have := q2.out; (try simp only [List.length_append, f0, f1]); omega) w1.heap.size D1.out.size O1.out).mono ?_
      rintro e x2 ⟨v2, rfl, ho2, hb2, ht2⟩
      have O2 := Lib.hid ho2
      have D2 := Lib.hid (D1.out.trans hb2)
      have N2 : Hid (x2.heap[N]? = some (.cells #[.string key, .bool had, .string was, .bool has, .string now] 35)) := ht2 _ n35.out.1 n35.out.2 _ _ _ N1.out
      clear ho2 hb2 ht2 O1
      refine hK.out _ _ (by assumption) (fun _ => ?_)
      clear hK K
      try simp only [Act.put, List.setIfInBounds_toArray, List.set_cons_zero, List.set_cons_succ]
      refine wpAnyH_ready (rs := [9]) (by kernel_rfl) (by simp) ?_
      refine AllReadyH.cons rfl (fun K hK => ?_) AllReadyH.nil
      go_simp
      go_at_call 60
      with_reducible refine (rText_calls _ v2 _ was (by omega) (by have := hln.out; have := q0.out; have := q1.out; have := q2.out; (try simp only [List.length_append, f0, f1]); omega) w1.heap.size D2.out.size O2.out).mono ?_
      rintro e x3 ⟨v3, rfl, ho3, hb3, ht3⟩
      have O3 := Lib.hid ho3
      have D3 := Lib.hid (D2.out.trans hb3)
      have N3 : Hid (x3.heap[N]? = some (.cells #[.string key, .bool had, .string was, .bool has, .string now] 35)) := ht3 _ n35.out.1 n35.out.2 _ _ _ N2.out
      clear ho3 hb3 ht3 O2
      refine hK.out _ _ (by assumption) (fun _ => ?_)
      clear hK K
      try simp only [Act.put, List.setIfInBounds_toArray, List.set_cons_zero, List.set_cons_succ]
      refine wpAnyH_take (i := 10) (oi := ⟨some 5, _, _, _, _, _⟩) (v := ?_) rfl (by kernel_rfl) (by kernel_rfl) (by kernel_rfl) (fun _ _ _ h => h) (Or.inl ⟨by rfl, ?_⟩) (by assumption) ?_
      rotate_left
      · (intro w hSw; (try dsimp only at hSw); have y := hSw.out; have y0 : w.cell? ⟨N, 0, none⟩ = some (.string key) := (by rw [blk_cell y]; rfl); have y1 : w.cell? ⟨N, 1, none⟩ = some (.bool had) := (by rw [blk_cell y]; rfl); have y2 : w.cell? ⟨N, 2, none⟩ = some (.string was) := (by rw [blk_cell y]; rfl); have y3 : w.cell? ⟨N, 3, none⟩ = some (.bool has) := (by rw [blk_cell y]; rfl); have y4 : w.cell? ⟨N, 4, none⟩ = some (.string now) := (by rw [blk_cell y]; rfl); clear y; (go_simp <;> with_reducible rfl))
      try simp only [Act.put, List.setIfInBounds_toArray, List.set_cons_zero, List.set_cons_succ]
      refine wpAnyH_done (by kernel_rfl) ?_ _
      refine NoPanic.normal ?_
      have y0 : x3.cell? ⟨N, 3, none⟩ = some (.bool has) := by rw [blk_cell N3.out]; rfl
      clear N1 N2 hHeld D1 D2
      go_wp2_with fail
      refine wp_region_noPanic ?_
      refine wp_region_held_drew (S := (fun W' => Hid (W'.heap[N]? = some (.cells #[.string key, .bool had, .string was, .bool has, .string now] 35)))) (by kernel_rfl) (N3.out) (fun hHeld => ?_)
      refine wpAnyH_take (i := 0) (oi := ⟨some 33, _, _, _, _, _⟩) (v := ?_) rfl (by kernel_rfl) (by kernel_rfl) (by kernel_rfl) (fun _ _ _ h => h) (Or.inl ⟨by rfl, ?_⟩) (by assumption) ?_
      rotate_left
      · (intro w hSw; (try dsimp only at hSw); have y := hSw.out; have y0 : w.cell? ⟨N, 0, none⟩ = some (.string key) := (by rw [blk_cell y]; rfl); have y1 : w.cell? ⟨N, 1, none⟩ = some (.bool had) := (by rw [blk_cell y]; rfl); have y2 : w.cell? ⟨N, 2, none⟩ = some (.string was) := (by rw [blk_cell y]; rfl); have y3 : w.cell? ⟨N, 3, none⟩ = some (.bool has) := (by rw [blk_cell y]; rfl); have y4 : w.cell? ⟨N, 4, none⟩ = some (.string now) := (by rw [blk_cell y]; rfl); clear y; (go_simp <;> with_reducible rfl))
      try simp only [Act.put, List.setIfInBounds_toArray, List.set_cons_zero, List.set_cons_succ]
      refine wpAnyH_take (i := 1) (oi := ⟨some 34, _, _, _, _, _⟩) (v := ?_) rfl (by kernel_rfl) (by kernel_rfl) (by kernel_rfl) (fun _ _ _ h => h) (Or.inl ⟨by rfl, ?_⟩) (by assumption) ?_
      rotate_left
      · (intro w hSw; (try dsimp only at hSw); have y := hSw.out; have y0 : w.cell? ⟨N, 0, none⟩ = some (.string key) := (by rw [blk_cell y]; rfl); have y1 : w.cell? ⟨N, 1, none⟩ = some (.bool had) := (by rw [blk_cell y]; rfl); have y2 : w.cell? ⟨N, 2, none⟩ = some (.string was) := (by rw [blk_cell y]; rfl); have y3 : w.cell? ⟨N, 3, none⟩ = some (.bool has) := (by rw [blk_cell y]; rfl); have y4 : w.cell? ⟨N, 4, none⟩ = some (.string now) := (by rw [blk_cell y]; rfl); clear y; (go_simp <;> with_reducible rfl))
      try simp only [Act.put, List.setIfInBounds_toArray, List.set_cons_zero, List.set_cons_succ]
      refine wpAnyH_take (i := 2) (oi := ⟨some 35, _, _, _, _, _⟩) (v := ?_) rfl (by kernel_rfl) (by kernel_rfl) (by kernel_rfl) (fun _ _ _ h => h) (Or.inl ⟨by rfl, ?_⟩) (by assumption) ?_
      rotate_left
      · (intro w hSw; (try dsimp only at hSw); have y := hSw.out; have y0 : w.cell? ⟨N, 0, none⟩ = some (.string key) := (by rw [blk_cell y]; rfl); have y1 : w.cell? ⟨N, 1, none⟩ = some (.bool had) := (by rw [blk_cell y]; rfl); have y2 : w.cell? ⟨N, 2, none⟩ = some (.string was) := (by rw [blk_cell y]; rfl); have y3 : w.cell? ⟨N, 3, none⟩ = some (.bool has) := (by rw [blk_cell y]; rfl); have y4 : w.cell? ⟨N, 4, none⟩ = some (.string now) := (by rw [blk_cell y]; rfl); clear y; (go_simp <;> with_reducible rfl))
      try simp only [Act.put, List.setIfInBounds_toArray, List.set_cons_zero, List.set_cons_succ]
      refine wpAnyH_take (i := 4) (oi := ⟨some 37, _, _, _, _, _⟩) (v := ?_) rfl (by kernel_rfl) (by kernel_rfl) (by kernel_rfl) (fun _ _ _ h => h) (Or.inl ⟨by rfl, ?_⟩) (by assumption) ?_
      rotate_left
      · (intro w hSw; (try dsimp only at hSw); have y := hSw.out; have y0 : w.cell? ⟨N, 0, none⟩ = some (.string key) := (by rw [blk_cell y]; rfl); have y1 : w.cell? ⟨N, 1, none⟩ = some (.bool had) := (by rw [blk_cell y]; rfl); have y2 : w.cell? ⟨N, 2, none⟩ = some (.string was) := (by rw [blk_cell y]; rfl); have y3 : w.cell? ⟨N, 3, none⟩ = some (.bool has) := (by rw [blk_cell y]; rfl); have y4 : w.cell? ⟨N, 4, none⟩ = some (.string now) := (by rw [blk_cell y]; rfl); clear y; (go_simp <;> with_reducible rfl))
      try simp only [Act.put, List.setIfInBounds_toArray, List.set_cons_zero, List.set_cons_succ]
      refine wpAnyH_take (i := 5) (oi := ⟨some 38, _, _, _, _, _⟩) (v := ?_) rfl (by kernel_rfl) (by kernel_rfl) (by kernel_rfl) (fun _ _ _ h => h) (Or.inl ⟨by rfl, ?_⟩) (by assumption) ?_
      rotate_left
      · (intro w hSw; (try dsimp only at hSw); have y := hSw.out; have y0 : w.cell? ⟨N, 0, none⟩ = some (.string key) := (by rw [blk_cell y]; rfl); have y1 : w.cell? ⟨N, 1, none⟩ = some (.bool had) := (by rw [blk_cell y]; rfl); have y2 : w.cell? ⟨N, 2, none⟩ = some (.string was) := (by rw [blk_cell y]; rfl); have y3 : w.cell? ⟨N, 3, none⟩ = some (.bool has) := (by rw [blk_cell y]; rfl); have y4 : w.cell? ⟨N, 4, none⟩ = some (.string now) := (by rw [blk_cell y]; rfl); clear y; (go_simp <;> with_reducible rfl))
      try simp only [Act.put, List.setIfInBounds_toArray, List.set_cons_zero, List.set_cons_succ]
      refine wpAnyH_ready (rs := [3]) (by kernel_rfl) (by simp) ?_
      refine AllReadyH.cons rfl (fun K hK => ?_) AllReadyH.nil
      go_simp
      go_at_call 61
      with_reducible refine (rFlag_calls _ v3 _ has (by have := hln.out; have := q0.out; have := q1.out; have := q2.out; (try simp only [List.length_append, f0, f1]); omega) w1.heap.size D3.out.drew.size O3.out.drew).mono ?_
      rintro e x4 ⟨v4, rfl, ho4, hb4, ht4⟩
      have O4 := Lib.hid ho4
      have D4 := Lib.hid (D3.out.drew.trans hb4)
      have N4 : Hid (x4.heap[N]? = some (.cells #[.string key, .bool had, .string was, .bool has, .string now] 35)) := ht4 _ n35.out.1 n35.out.2 _ _ _ N3.out
      clear ho4 hb4 ht4 O3
      refine hK.out _ _ (by assumption) (fun _ => ?_)
      clear hK K
      try simp only [Act.put, List.setIfInBounds_toArray, List.set_cons_zero, List.set_cons_succ]
      refine wpAnyH_ready (rs := [6]) (by kernel_rfl) (by simp) ?_
      refine AllReadyH.cons rfl (fun K hK => ?_) AllReadyH.nil
      go_simp
      go_at_call 60
      with_reducible refine (rText_calls _ v4 _ now (by omega) (by have := hln.out; have := q0.out; have := q1.out; have := q2.out; (try simp only [List.length_append, f0, f1]); omega) w1.heap.size D4.out.size O4.out).mono ?_
      rintro e x5 ⟨v5, rfl, ho5, hb5, ht5⟩
      have O5 := Lib.hid ho5
      have D5 := Lib.hid (D4.out.trans hb5)
      have N5 : Hid (x5.heap[N]? = some (.cells #[.string key, .bool had, .string was, .bool has, .string now] 35)) := ht5 _ n35.out.1 n35.out.2 _ _ _ N4.out
      clear ho5 hb5 ht5 O4
      refine hK.out _ _ (by assumption) (fun _ => ?_)
      clear hK K
      try simp only [Act.put, List.setIfInBounds_toArray, List.set_cons_zero, List.set_cons_succ]
      refine wpAnyH_take (i := 7) (oi := ⟨some 5, _, _, _, _, _⟩) (v := ?_) rfl (by kernel_rfl) (by kernel_rfl) (by kernel_rfl) (fun _ _ _ h => h) (Or.inl ⟨by rfl, ?_⟩) (by assumption) ?_
      rotate_left
      · (intro w hSw; (try dsimp only at hSw); have y := hSw.out; have y0 : w.cell? ⟨N, 0, none⟩ = some (.string key) := (by rw [blk_cell y]; rfl); have y1 : w.cell? ⟨N, 1, none⟩ = some (.bool had) := (by rw [blk_cell y]; rfl); have y2 : w.cell? ⟨N, 2, none⟩ = some (.string was) := (by rw [blk_cell y]; rfl); have y3 : w.cell? ⟨N, 3, none⟩ = some (.bool has) := (by rw [blk_cell y]; rfl); have y4 : w.cell? ⟨N, 4, none⟩ = some (.string now) := (by rw [blk_cell y]; rfl); clear y; (go_simp <;> with_reducible rfl))
      try simp only [Act.put, List.setIfInBounds_toArray, List.set_cons_zero, List.set_cons_succ]
      refine wpAnyH_done (by kernel_rfl) ?_ _
      refine NoPanic.normal ?_
      clear N3 N4 N5 hHeld D3 D4
      go_wp2
      go_roundg n'
      case measure => omega
      case rel =>
        refine ⟨k + 1, by go_num, by omega, ?_, D5.out⟩
        show Own _ _ _ _ _ _ _
        rw [hd.out]
        have := O5.out
        unfold changeI
        simpa only [List.append_assoc] using this
    · have hk' : k = l.length := by omega
      subst hk'
      rw [List.take_length] at hW
      have hln : Hid ((lebI l.length ++ l.flatMap changeI).length ≤ 310000) := by show _ ≤ _; rw [List.length_append]; have := h10.out; have := hfl.out l.length; rw [List.take_length] at this; omega
      go_wp2
      go_ret2
      exact ⟨_, by rw [hv.out]; rfl, by rw [hv.out]; exact hW.out.mono B1.out.size, hbw.out⟩
end Go.Proofs.Ytofdmkglhjpbcaa
