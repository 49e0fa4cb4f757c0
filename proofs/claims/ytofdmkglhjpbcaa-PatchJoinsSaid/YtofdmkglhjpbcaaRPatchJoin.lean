/- ref27.Join -/
import Derived.Test.YtofdmkglhjpbcaaChangeOf
import Derived.Test.YtofdmkglhjpbcaaPatchQ
import Derived.Test.YtofdmkglhjpbcaaKeys
import Derived.Test.YtofdmkglhjpbcaaAppendS
import Derived.Deep.RegionHeld3
namespace Go.Proofs.Ytofdmkglhjpbcaa
open Go.RowKit
set_option linter.unusedVariables false
set_option linter.unusedSimpArgs false

theorem infoEnJ : (Try.prog.info? 72).map (fun i => (i.zero, i.size, i.bytes)) = some (some (.agg #[.string ⟨#[]⟩, .string ⟨#[]⟩]), 2, 32) := by kernel_rfl
theorem joinAt_vals (p q : List Change) (k : Str) : joinAt p q k = match chOf p k, chOf q k with | some x, some y => some (joinC x y) | some x, none => some x | none, some y => some y | none, none => none := rfl

set_option maxRecDepth 100000 in
set_option maxHeartbeats 4000000 in
theorem RJoin_calls (w : World) (A B : Option Addr) (c d : Nat) (p q : List Change) (lp : p.length ≤ 1000) (lq : q.length ≤ 1000) (zp : SmC p) (zq : SmC q) (hA : Rd Change.enc 5 w A p) (hB : Rd Change.enc 5 w B q) :
    Calls Try.prog 40 #[.slice A p.length c, .slice B q.length d] w fun e w' => ∃ v, e = .returned (.tuple #[v, .int .i64 (patchJoin p q).2]) ∧ Own Change.enc 5 35 w.heap.size w' v (patchJoin p q).1 ∧ Below w.heap.size w w' := by
  have HA := Lib.hid hA
  have HB := Lib.hid hB
  have ZP := Lib.hid zp
  have ZQ := Lib.hid zq
  clear hA hB zp zq
  by_cases e1 : patchErr p = 0
  rotate_left
  · have hv : Hid (patchJoin p q = ([], patchErr p)) := if_pos e1
    have hnb : (patchErr p != 0) = true := by simpa using e1
    clear e1
    go_enter Try.func40, Try.ntmps40
    go_wp2_with fail
    refine (Patch_calls _ A c p (by omega) ZP.out HA.out).mono ?_
    rintro e w1 ⟨rfl, hb1⟩
    generalize patchErr p = pe at *
    go_wp2
    go_ret2
    exact ⟨.slice none 0 0, by rw [hv.out]; rfl, by rw [hv.out]; exact Own.nil, hb1⟩
  have E1 := Lib.hid e1
  by_cases e2 : patchErr q = 0
  rotate_left
  · have hv : Hid (patchJoin p q = ([], patchErr q)) := by show _ = _; unfold patchJoin; rw [if_neg (by simp [e1]), if_pos e2]
    have hnb : (patchErr q != 0) = true := by simpa using e2
    clear e1 e2
    go_enter Try.func40, Try.ntmps40
    go_wp2_with fail
    refine (Patch_calls _ A c p (by omega) ZP.out HA.out).mono ?_
    rintro e w1 ⟨rfl, hb1⟩
    rw [E1.out]
    have B1 := Lib.hid hb1
    clear hb1
    go_wp2_with fail
    refine (Patch_calls _ B d q (by omega) ZQ.out (HB.out.below B1.out (Nat.le_refl _))).mono ?_
    rintro e w2 ⟨rfl, hb2⟩
    have B2 := Lib.hid (bl_then B1.out B1.out.size hb2)
    clear hb2
    generalize patchErr q = pe at *
    go_wp2
    go_ret2
    exact ⟨.slice none 0 0, by rw [hv.out]; rfl, by rw [hv.out]; exact Own.nil, B2.out⟩
  have E2 := Lib.hid e2
  have SQ := Lib.hid (patch_ok.1 e2).2
  clear e1 e2
  have hj : Hid ((∀ c ∈ q, badC p c = false) → patchJoin p q = ((joinKeys p q).flatMap (joinL p q), 0)) := join_ok E1.out E2.out
  have hjb : Hid (∀ c ∈ q, badC p c = true → patchJoin p q = ([], 170)) := fun c hc hb => join_bad E1.out E2.out hc hb
  go_enter Try.func40, Try.ntmps40
  go_wp2_with fail
  refine (Patch_calls _ A c p (by omega) ZP.out HA.out).mono ?_
  rintro e w1 ⟨rfl, hb1⟩
  rw [E1.out]
  have B1 := Lib.hid hb1
  clear hb1
  go_wp2_with fail
  refine (Patch_calls _ B d q (by omega) ZQ.out (HB.out.below B1.out (Nat.le_refl _))).mono ?_
  rintro e w2 ⟨rfl, hb2⟩
  rw [E2.out]
  have B2 := Lib.hid (bl_then B1.out B1.out.size hb2)
  clear hb2 B1 ZP ZQ E1 E2
  have t1 : Hid ((Value.agg #[.string ⟨#[]⟩, .bool false, .string ⟨#[]⟩, .bool false, .string ⟨#[]⟩]).cells.size = 5) := rfl
  have SA : Hid (Src Try.prog 5 25 (.slice A p.length c) p.length (p.flatMap Change.enc) w2) := Rd.src Change.ok Try.underlying25 c (HA.out.below B2.out (Nat.le_refl _))
  have l1 : Hid (([] : List Change).length + p.length ≤ 140737488355328) := by show _ ≤ _; simp; omega
  have l2 : Hid ((([] : List Change).length + p.length) * 64 ≤ 140737488355328) := by show _ ≤ _; simp; omega
  have l3 : Hid (p.length + q.length ≤ 140737488355328) := by show _ ≤ _; omega
  have l4 : Hid ((p.length + q.length) * 64 ≤ 140737488355328) := by show _ ≤ _; omega
  have SBW : Hid (∀ W, Below w2.heap.size w2 W → Src Try.prog 5 25 (.slice B q.length d) q.length (q.flatMap Change.enc) W) := fun W hW => Rd.src Change.ok Try.underlying25 d ((HB.out.below B2.out (Nat.le_refl _)).below hW (Nat.le_refl _))
  go_wp2_with (first
    | (at_builtin; refine at_list rfl (fun K hK => op_ownS Change.ok _ _ _ _ _ _ _ rfl Try.underlying25 infoChJ t1.out w2.heap.size (.slice none 0 0) (.slice A p.length c) [] p rfl rfl Own.nil SA.out (Nat.le_refl _) l2.out l1.out (fun v3 w3 ho3 hg3 => hK _ _ ?_)); have B3 := Lib.hid (Below.grown (Below.refl w2.heap.size w2) hg3 (Nat.le_refl _) (fun k e => by cases e)); have S3 := SBW.out _ B3.out; have O3 := Lib.hid ho3; have z3 := Lib.hid B3.out.size)
    | (at_builtin; refine at_list rfl (fun K hK => op_ownS Change.ok _ _ _ _ _ _ _ rfl Try.underlying25 infoChJ t1.out w2.heap.size v3 (.slice B q.length d) ([] ++ p) q rfl rfl O3.out S3 z3.out l4.out l3.out (fun v4 w4 ho4 hg4 => hK _ _ ?_)); have B4 := Lib.hid (Below.grown B3.out hg4 B3.out.size (fun k e => (O3.out.lt _ e).1)); obtain ⟨Aa, ca, rfl, ia, ia', ra, -⟩ := Own.rd Change.ok ho4; obtain ⟨al, hal⟩ : ∃ al, al = [] ++ p ++ q := ⟨_, rfl⟩; rw [← hal] at ia ra; rw [← hal]; have HAL0 := Lib.hid hal; clear hal; have RA := Lib.hid ra; clear ho3 hg3 ho4 hg4 ra O3 S3 z3 B3))
  have hal := HAL0.out
  rw [List.nil_append] at hal
  have hall : Hid (al.length ≤ 2000) := by show _ ≤ _; rw [hal]; simp; omega
  have HAL := Lib.hid hal
  clear hal HAL0 SA SBW l1 l2 l3 l4
  go_wp2
  go_loopg [8, 33] al.length (fun n v i wr => ∃ k : Nat, i = .int .i64 k ∧ k + n = al.length ∧ Hid (Own Entry.enc 2 72 w4.heap.size wr v ((al.take k).map entC)) ∧ Hid (Below w4.heap.size w4 wr))
  case atStart => exact ⟨0, rfl, by omega, Own.nil, Below.refl _ _⟩
  case round =>
    obtain ⟨k, rfl, hk, ho, hb⟩ := hrel
    by_cases hlt : k < al.length
    · obtain ⟨n', hn'⟩ : ∃ n', gk = n' + 1 := ⟨gk - 1, by omega⟩
      subst hn'
      rcases RA.out.below hb.out (Nat.le_refl _) with h0 | ⟨b, off, rfl, hbl, hc⟩
      · simp [h0] at hlt
      have hx := List.getElem?_eq_getElem hlt
      have c0 : wr.cell? ⟨b, off + k * 5, none⟩ = some (.string al[k].key) := hc k al[k] hx 0 _ rfl
      have c1 : wr.cell? ⟨b, off + k * 5 + 1, none⟩ = some (.bool al[k].had) := hc k al[k] hx 1 _ rfl
      have c2 : wr.cell? ⟨b, off + k * 5 + 2, none⟩ = some (.string al[k].was) := hc k al[k] hx 2 _ rfl
      have c3 : wr.cell? ⟨b, off + k * 5 + 3, none⟩ = some (.bool al[k].has) := hc k al[k] hx 3 _ rfl
      have c4 : wr.cell? ⟨b, off + k * 5 + 4, none⟩ = some (.string al[k].now) := hc k al[k] hx 4 _ rfl
      have hd : Hid ((al.take (k + 1)).map entC = (al.take k).map entC ++ [entC al[k]]) := by show _ = _; rw [List.take_add_one, hx, List.map_append]; rfl
      generalize al[k] = x at *
      obtain ⟨key, had, was, has, now⟩ := x
      simp only at c0 c1 c2 c3 c4
      clear hc hx
      obtain ⟨done, hdn⟩ : ∃ d, d = (al.take k).map entC := ⟨_, rfl⟩
      have hdl : Hid (done.length ≤ k) := by show _ ≤ _; rw [hdn, List.length_map, List.length_take]; omega
      rw [← hdn] at ho hd
      clear hdn
      have ho2 := Lib.hid (ho.out.alloc (.cells #[.string key, .bool had, .string was, .bool has, .string now] 35))
      have hob := Lib.hid ho2.out.lt
      have hb2 := Lib.hid (bl_alloc hb.out (.cells #[.string key, .bool had, .string was, .bool has, .string now] 35))
      have hz2 : Hid ((wr.alloc (.cells #[.string key, .bool had, .string was, .bool has, .string now] 35)).heap.size = wr.heap.size + 1) := by show _ = _; simp
      have hz3 : Hid (w4.heap.size ≤ (wr.alloc (.cells #[.string key, .bool had, .string was, .bool has, .string now] 35)).heap.size) := hb2.out.size
      have HC2 : Hid ((done.length + 1) * 32 ≤ 140737488355328) := by show _ ≤ _; have := hdl.out; have := hall.out; omega
      have HC3 : Hid (done.length + 1 ≤ 140737488355328) := by show _ ≤ _; have := hdl.out; have := hall.out; omega
      go_wp2_with (at_builtin; refine ap_own Entry.ok rfl _ _ _ _ _ _ rfl Try.underlying22 infoEnJ rfl w4.heap.size u8 done ⟨key, ⟨#[]⟩⟩ #[_, _] rfl rfl (wr.heap.size + 1) hz2.out rfl ho2.out hz3.out HC2.out HC3.out ?_; intro gg cap w5 o5 hg5 hat5 hlt5)
      go_roundg n'
      case measure => omega
      case rel => exact ⟨k + 1, by go_num, by omega, by show Own _ _ _ _ _ _ _; rw [hd.out]; simpa [entC, emptyS] using o5, hb2.out.grown hg5 hb2.out.size (fun k e => (hob.out _ e).1)⟩
    · have hk' : k = al.length := by omega
      subst hk'
      rw [List.take_length] at ho
      have hjk0 : Hid (keysOf [al.map entC] = joinKeys p q) := by show _ = _; rw [HAL.out]; rfl
      have hml : Hid ((al.map entC).length ≤ 2000) := by show _ ≤ _; rw [List.length_map]; exact hall.out
      obtain ⟨Ae, ce, rfl, ie, ie', re, -⟩ := ho.out.rd Entry.ok
      have RE := Lib.hid re
      have B5 := Lib.hid (bl_then B2.out B2.out.size (bl_then B4.out B4.out.size hb.out))
      generalize al.map entC = E at *
      have hL : Hid (RdL (wr.alloc (.cells #[.slice Ae E.length ce] 22)) (some ⟨wr.heap.size, 0, none⟩) [E]) := by
        refine .inr ⟨_, _, rfl, by simp, fun i x hx => ?_⟩
        rw [blk_cell (blk_new _ _)]
        match i, hx with
        | 0, hx => simp at hx; subst hx; exact ⟨Ae, ce, rfl, ie, ie', RE.out.below (bl_alloc (Below.refl wr.heap.size wr) _) (Nat.le_refl _)⟩
      have hcnt : Hid (cnt [E] ≤ 1000000) := by show _ ≤ _; have := hml.out; simp [cnt]; omega
      clear ho re hlt hk RA hb B2 B4
      go_wp2_with fail
      refine (Keys_calls _ _ 1 [E] (by simp) (by omega) hcnt.out hL.out).mono ?_
      rintro e w6 ⟨kv, rfl, hok, hb6⟩
      rw [hjk0.out] at hok
      obtain ⟨Ak, ck, rfl, kc, kc', kr, -⟩ := hok.rd strOk
      have KR := Lib.hid kr
      have B6 := Lib.hid (bl_then (bl_alloc B5.out _) (bl_alloc B5.out _).size hb6)
      have hkl := Lib.hid (joinKeys_len p q)
      have hmk : Hid (∀ k, k ∈ joinKeys p q ↔ k ∈ ckeys p ∨ k ∈ ckeys q) := fun _ => mem_joinKeys
      have hjl : Hid (∀ k, joinL p q k = movesOf (match chOf p k, chOf q k with | some x, some y => some (joinC x y) | some x, none => some x | none, some y => some y | none, none => none)) := fun _ => rfl
      clear hok kr hb6 hL hcnt hjk0 B5
      generalize joinL p q = jl at *
      generalize joinKeys p q = ks at *
      go_wp2
      go_loopg [11, 48] ks.length (fun n v i wr => ∃ k : Nat, i = .int .i64 k ∧ k + n = ks.length ∧ Hid (∀ j key, j < k → ks[j]? = some key → ∀ y, chOf q key = some y → badC p y = false) ∧ Hid (Own Change.enc 5 35 w6.heap.size wr v ((ks.take k).flatMap jl)) ∧ Hid (((ks.take k).flatMap jl).length ≤ k) ∧ Hid (Below w6.heap.size w6 wr))
      case atStart => exact ⟨0, rfl, by omega, fun j key h => by omega, Own.nil, by show _ ≤ _; simp, Below.refl _ _⟩
      case round =>
        obtain ⟨k, rfl, hk, hf, ho, hln, hb⟩ := hrel
        by_cases hlt : k < ks.length
        · obtain ⟨n', hn'⟩ : ∃ n', gk = n' + 1 := ⟨gk - 1, by omega⟩
          subst hn'
          rcases KR.out.below hb.out (Nat.le_refl _) with h0 | ⟨bk, off, rfl, hbl, hcell⟩
          · simp [h0] at hlt
          have hx := List.getElem?_eq_getElem hlt
          have c0 : wr.cell? ⟨bk, off + k, none⟩ = some (.string ks[k]) := by have := hcell k ks[k] hx 0 _ rfl; simpa using this
          have hd : Hid ((ks.take (k + 1)).flatMap jl = (ks.take k).flatMap jl ++ jl ks[k]) := take_flatC hx
          have hin := Lib.hid ((hmk.out ks[k]).1 (List.getElem_mem hlt))
          have hjk := Lib.hid (hjl.out ks[k])
          have HX := Lib.hid hx
          generalize ks[k] = key at *
          obtain ⟨done, hdn⟩ : ∃ d, d = (ks.take k).flatMap jl := ⟨_, rfl⟩
          rw [← hdn] at ho hln hd
          clear hcell hx hdn
          have C1 : Hid (∀ W, Below w.heap.size w W → Calls Try.prog 77 #[.slice A p.length c, .string key] W fun e w' => e = .returned (.tuple #[chV ((chOf p key).getD noChg), .bool (chOf p key).isSome]) ∧ Below W.heap.size W w') := fun W hW => changeOf_calls W A c p key (by omega) (HA.out.below hW (Nat.le_refl _))
          have C2 : Hid (∀ W, Below w.heap.size w W → Calls Try.prog 77 #[.slice B q.length d, .string key] W fun e w' => e = .returned (.tuple #[chV ((chOf q key).getD noChg), .bool (chOf q key).isSome]) ∧ Below W.heap.size W w') := fun W hW => changeOf_calls W B d q key (by omega) (HB.out.below hW (Nat.le_refl _))
          have hbd : Hid (∀ y, chOf q key = some y → y ∈ q ∧ badC p y = match chOf p key with | some x => !(decide (x.has = y.had) && decide (x.now = y.was)) | none => false) := fun y hy => by
            obtain ⟨h1, h2⟩ := chOf_some hy
            refine ⟨h1, ?_⟩
            unfold badC
            rw [h2]
            cases chOf p key <;> rfl
          have hpn := Lib.hid (chOf_none (l := p) (k := key))
          have hqn := Lib.hid (chOf_none (l := q) (k := key))
          have hb0 := Lib.hid (bl_then B6.out B6.out.size hb.out)
          cases hp : chOf p key with
          | none =>
            cases hq : chOf q key with
            | none =>
              exfalso
              rcases hin.out with h | h
              · exact hpn.out.1 hp h
              · exact hqn.out.1 hq h
            | some y =>
              rw [hp, hq] at hjk
              rw [hp] at C1
              rw [hq] at C2
              have hfn : Hid (∀ j key2, j < k + 1 → ks[j]? = some key2 → ∀ y, chOf q key2 = some y → badC p y = false) := fun j key2 hj h2 y hy => by
                by_cases e : j = k
                · subst e
                  rw [HX.out] at h2
                  cases h2
                  rw [(hbd.out y hy).2, hp]
                · exact hf.out j key2 (by omega) h2 y hy
              obtain ⟨yk, yh, yw, ys, yn⟩ := y
              unfold chV noChg at C1 C2
              simp only [Option.getD_none, Option.getD_some, Option.isSome_none, Option.isSome_some] at C1 C2
              clear hp hq hbd hpn hqn hin hf
              go_wp2_with fail
              refine (C1.out _ hb0.out).mono ?_
              rintro e wa ⟨rfl, q1⟩
              have ha6 := Lib.hid (bl_then hb.out hb.out.size q1)
              have ha0 := Lib.hid (bl_then hb0.out hb0.out.size q1)
              have oa := Lib.hid (ho.out.below q1)
              have a1 : Hid (Below w.heap.size w (wa.alloc (.cells #[.string ⟨#[]⟩, .bool false, .string ⟨#[]⟩, .bool false, .string ⟨#[]⟩] 35))) := bl_alloc ha0.out _
              clear q1 c0 hb hb0 ho
              go_wp2_with fail
              refine (C2.out _ a1.out).mono ?_
              rintro e wb ⟨rfl, q2⟩
              have hC0 : Hid ((wb.alloc (.cells #[.string yk, .bool yh, .string yw, .bool ys, .string yn] 35)).heap[wa.heap.size]? = some (.cells #[.string ⟨#[]⟩, .bool false, .string ⟨#[]⟩, .bool false, .string ⟨#[]⟩] 35)) := blk_alloc (blk_below q2 (blk_new wa _) (blk_lt (blk_new wa _))) _
              have hO0 : Hid ((wb.alloc (.cells #[.string yk, .bool yh, .string yw, .bool ys, .string yn] 35)).heap[wb.heap.size]? = some (.cells #[.string yk, .bool yh, .string yw, .bool ys, .string yn] 35)) := blk_new _ _
              have hMN0 : Hid (wb.heap.size ≠ wa.heap.size) := by show _ ≠ _; have := q2.size; simp at this; omega
              have hBB0 : Hid (Below wa.heap.size wa (wb.alloc (.cells #[.string yk, .bool yh, .string yw, .bool ys, .string yn] 35))) := bl_alloc (bl_then (bl_alloc (Below.refl _ _) _) (by simp) q2) _
              clear q2 a1 C1 C2
              go_upto_region 24 with fail
              obtain ⟨W2, hW2⟩ : ∃ W, W = wb.alloc (.cells #[.string yk, .bool yh, .string yw, .bool ys, .string yn] 35) := ⟨_, rfl⟩
              rw [← hW2] at hC0 hO0 hBB0
              rw [← hW2]
              obtain ⟨N, hN⟩ : ∃ N, N = wa.heap.size := ⟨_, rfl⟩
              rw [← hN] at hC0 hBB0 hMN0
              rw [← hN]
              obtain ⟨M, hM⟩ : ∃ M, M = wb.heap.size := ⟨_, rfl⟩
              rw [← hM] at hO0 hMN0
              rw [← hM]
              have hC := hC0
              have hO := hO0
              have hBB := hBB0
              have hMN : Hid (M ≠ N) := hMN0.out
              have HN := Lib.hid hN
              have hBA : Hid (Below wa.heap.size wa W2) := by show Below _ _ _; rw [← hN]; exact hBB.out
              clear hC0 hO0 hBB0 hMN0 hW2 hN hM
              have z0 : W2.cell? ⟨M, 0, none⟩ = some (.string yk) := by rw [blk_cell hO.out]; rfl
              have z1 : W2.cell? ⟨M, 1, none⟩ = some (.bool yh) := by rw [blk_cell hO.out]; rfl
              have z2 : W2.cell? ⟨M, 2, none⟩ = some (.string yw) := by rw [blk_cell hO.out]; rfl
              have z3 : W2.cell? ⟨M, 3, none⟩ = some (.bool ys) := by rw [blk_cell hO.out]; rfl
              have z4 : W2.cell? ⟨M, 4, none⟩ = some (.string yn) := by rw [blk_cell hO.out]; rfl
              have n0 : W2.cell? ⟨N, 0, none⟩ = some (.string ⟨#[]⟩) := by rw [blk_cell hC.out]; rfl
              have n1 : W2.cell? ⟨N, 1, none⟩ = some (.bool false) := by rw [blk_cell hC.out]; rfl
              have n2 : W2.cell? ⟨N, 2, none⟩ = some (.string ⟨#[]⟩) := by rw [blk_cell hC.out]; rfl
              have n3 : W2.cell? ⟨N, 3, none⟩ = some (.bool false) := by rw [blk_cell hC.out]; rfl
              have n4 : W2.cell? ⟨N, 4, none⟩ = some (.string ⟨#[]⟩) := by rw [blk_cell hC.out]; rfl
              have nf := fun i => blk_free hC.out i
              have nl := blk_lt hC.out
              have C7 : Hid ((((((W2.setCell ⟨N, 0, none⟩ (.string yk)).setCell ⟨N, 1, none⟩ (.bool yh)).setCell ⟨N, 2, none⟩ (.string yw)).setCell ⟨N, 3, none⟩ (.bool ys)).setCell ⟨N, 4, none⟩ (.string yn)).heap[N]? = some (.cells #[.string yk, .bool yh, .string yw, .bool ys, .string yn] 35)) := set5 hC.out _ _ _ _ _
              have B7 : Hid (Below wa.heap.size wa (((((W2.setCell ⟨N, 0, none⟩ (.string yk)).setCell ⟨N, 1, none⟩ (.bool yh)).setCell ⟨N, 2, none⟩ (.string yw)).setCell ⟨N, 3, none⟩ (.bool ys)).setCell ⟨N, 4, none⟩ (.string yn))) := by
                show Below _ _ _
                rw [← HN.out]
                exact bl_set (bl_set (bl_set (bl_set (bl_set hBB.out (Nat.le_refl _) _) (Nat.le_refl _) _) (Nat.le_refl _) _) (Nat.le_refl _) _) (Nat.le_refl _) _
              go_upto_region 25 with fail
              generalize ((((W2.setCell ⟨N, 0, none⟩ (.string yk)).setCell ⟨N, 1, none⟩ (.bool yh)).setCell ⟨N, 2, none⟩ (.string yw)).setCell ⟨N, 3, none⟩ (.bool ys)).setCell ⟨N, 4, none⟩ (.string yn) = W4 at *
              have o4 := Lib.hid (oa.out.below B7.out)
              have b4 := Lib.hid (bl_then ha6.out ha6.out.size B7.out)
              clear z0 z1 z2 z3 z4 n0 n1 n2 n3 n4 nf nl hC hO hBB hMN hBA oa ha6 B7
              have x0 : W4.cell? ⟨N, 0, none⟩ = some (.string yk) := by rw [blk_cell C7.out]; rfl
              have x1 : W4.cell? ⟨N, 1, none⟩ = some (.bool yh) := by rw [blk_cell C7.out]; rfl
              have x2 : W4.cell? ⟨N, 2, none⟩ = some (.string yw) := by rw [blk_cell C7.out]; rfl
              have x3 : W4.cell? ⟨N, 3, none⟩ = some (.bool ys) := by rw [blk_cell C7.out]; rfl
              have x4 : W4.cell? ⟨N, 4, none⟩ = some (.string yn) := by rw [blk_cell C7.out]; rfl
              have hNl := blk_lt C7.out
              have hzW : Hid (w6.heap.size ≤ W4.heap.size) := (b4.out).size
              have hobW := Lib.hid (o4.out).lt
              have HC2 : Hid ((done.length + 1) * 64 ≤ 140737488355328) := by show _ ≤ _; have := hln.out; have := hkl.out; omega
              have HC3 : Hid (done.length + 1 ≤ 140737488355328) := by show _ ≤ _; have := hln.out; have := hkl.out; omega
              by_cases i1 : yh = ys
              · by_cases i2 : yw = yn
                · have hm : Hid (jl key = []) := by show _ = _; rw [hjk.out]; simp [movesOf, idle, joinC, i1, i2]
                  have j1 : (yh == ys) = true := by simpa using i1
                  have j2 : (yw.toList == yn.toList) = true := by rw [toList_beq]; exact decide_eq_true i2
                  clear i1 i2
                  go_wp2
                  go_roundg n'
                  case measure => omega
                  case rel => exact ⟨k + 1, by go_num, by omega, hfn, by show Own _ _ _ _ _ _ _; rw [hd.out, hm.out, List.append_nil]; exact o4.out, by show _ ≤ _; rw [hd.out, hm.out, List.append_nil]; have := hln.out; omega, b4.out⟩
                · have hm : Hid (jl key = [⟨yk, yh, yw, ys, yn⟩]) := by show _ = _; rw [hjk.out]; simp [movesOf, idle, joinC, i2]
                  have j1 : (yh == ys) = true := by simpa using i1
                  have j2 : (yw.toList == yn.toList) = false := by rw [toList_beq]; exact decide_eq_false i2
                  clear i1 i2
                  go_wp2_with (at_builtin; refine ap_own Change.ok rfl _ _ _ _ _ _ rfl Try.underlying25 infoChJ rfl w6.heap.size u11 done ⟨yk, yh, yw, ys, yn⟩ #[_, _, _, _, _] rfl rfl W4.heap.size rfl rfl o4.out hzW.out HC2.out HC3.out ?_; intro gg cap w7 o7 hg7 hat7 hlt7)
                  go_roundg n'
                  case measure => omega
                  case rel => exact ⟨k + 1, by go_num, by omega, hfn, by show Own _ _ _ _ _ _ _; rw [hd.out, hm.out]; simpa using o7, by show _ ≤ _; rw [hd.out, hm.out]; have := hln.out; simp; omega, (b4.out).grown hg7 (b4.out).size (fun k e => (hobW.out _ e).1)⟩
              · have hm : Hid (jl key = [⟨yk, yh, yw, ys, yn⟩]) := by show _ = _; rw [hjk.out]; simp [movesOf, idle, joinC, i1]
                have j1 : (yh == ys) = false := by simpa using i1
                clear i1
                go_wp2_with (at_builtin; refine ap_own Change.ok rfl _ _ _ _ _ _ rfl Try.underlying25 infoChJ rfl w6.heap.size u11 done ⟨yk, yh, yw, ys, yn⟩ #[_, _, _, _, _] rfl rfl W4.heap.size rfl rfl o4.out hzW.out HC2.out HC3.out ?_; intro gg cap w7 o7 hg7 hat7 hlt7)
                go_roundg n'
                case measure => omega
                case rel => exact ⟨k + 1, by go_num, by omega, hfn, by show Own _ _ _ _ _ _ _; rw [hd.out, hm.out]; simpa using o7, by show _ ≤ _; rw [hd.out, hm.out]; have := hln.out; simp; omega, (b4.out).grown hg7 (b4.out).size (fun k e => (hobW.out _ e).1)⟩
          | some x =>
            cases hq : chOf q key with
            | none =>
              rw [hp, hq] at hjk
              rw [hp] at C1
              rw [hq] at C2
              have hfn : Hid (∀ j key2, j < k + 1 → ks[j]? = some key2 → ∀ y, chOf q key2 = some y → badC p y = false) := fun j key2 hj h2 y hy => by
                by_cases e : j = k
                · subst e
                  rw [HX.out] at h2
                  cases h2
                  rw [hq] at hy; cases hy
                · exact hf.out j key2 (by omega) h2 y hy
              obtain ⟨xk, xh, xw, xs, xn⟩ := x
              unfold chV noChg at C1 C2
              simp only [Option.getD_none, Option.getD_some, Option.isSome_none, Option.isSome_some] at C1 C2
              clear hp hq hbd hpn hqn hin hf
              go_wp2_with fail
              refine (C1.out _ hb0.out).mono ?_
              rintro e wa ⟨rfl, q1⟩
              have ha6 := Lib.hid (bl_then hb.out hb.out.size q1)
              have ha0 := Lib.hid (bl_then hb0.out hb0.out.size q1)
              have oa := Lib.hid (ho.out.below q1)
              have a1 : Hid (Below w.heap.size w (wa.alloc (.cells #[.string xk, .bool xh, .string xw, .bool xs, .string xn] 35))) := bl_alloc ha0.out _
              clear q1 c0 hb hb0 ho
              go_wp2_with fail
              refine (C2.out _ a1.out).mono ?_
              rintro e wb ⟨rfl, q2⟩
              have hC0 : Hid ((wb.alloc (.cells #[.string ⟨#[]⟩, .bool false, .string ⟨#[]⟩, .bool false, .string ⟨#[]⟩] 35)).heap[wa.heap.size]? = some (.cells #[.string xk, .bool xh, .string xw, .bool xs, .string xn] 35)) := blk_alloc (blk_below q2 (blk_new wa _) (blk_lt (blk_new wa _))) _
              have hO0 : Hid ((wb.alloc (.cells #[.string ⟨#[]⟩, .bool false, .string ⟨#[]⟩, .bool false, .string ⟨#[]⟩] 35)).heap[wb.heap.size]? = some (.cells #[.string ⟨#[]⟩, .bool false, .string ⟨#[]⟩, .bool false, .string ⟨#[]⟩] 35)) := blk_new _ _
              have hMN0 : Hid (wb.heap.size ≠ wa.heap.size) := by show _ ≠ _; have := q2.size; simp at this; omega
              have hBB0 : Hid (Below wa.heap.size wa (wb.alloc (.cells #[.string ⟨#[]⟩, .bool false, .string ⟨#[]⟩, .bool false, .string ⟨#[]⟩] 35))) := bl_alloc (bl_then (bl_alloc (Below.refl _ _) _) (by simp) q2) _
              clear q2 a1 C1 C2
              go_upto_region 25 with fail
              obtain ⟨W2, hW2⟩ : ∃ W, W = wb.alloc (.cells #[.string ⟨#[]⟩, .bool false, .string ⟨#[]⟩, .bool false, .string ⟨#[]⟩] 35) := ⟨_, rfl⟩
              rw [← hW2] at hC0 hO0 hBB0
              rw [← hW2]
              obtain ⟨N, hN⟩ : ∃ N, N = wa.heap.size := ⟨_, rfl⟩
              rw [← hN] at hC0 hBB0 hMN0
              rw [← hN]
              obtain ⟨M, hM⟩ : ∃ M, M = wb.heap.size := ⟨_, rfl⟩
              rw [← hM] at hO0 hMN0
              rw [← hM]
              have hC := hC0
              have hO := hO0
              have hBB := hBB0
              have hMN : Hid (M ≠ N) := hMN0.out
              have HN := Lib.hid hN
              have hBA : Hid (Below wa.heap.size wa W2) := by show Below _ _ _; rw [← hN]; exact hBB.out
              clear hC0 hO0 hBB0 hMN0 hW2 hN hM
              have o4 := Lib.hid (oa.out.below hBA.out)
              have b4 := Lib.hid (bl_then ha6.out ha6.out.size hBA.out)
              clear hO hBB hMN hBA oa ha6
              have x0 : W2.cell? ⟨N, 0, none⟩ = some (.string xk) := by rw [blk_cell hC.out]; rfl
              have x1 : W2.cell? ⟨N, 1, none⟩ = some (.bool xh) := by rw [blk_cell hC.out]; rfl
              have x2 : W2.cell? ⟨N, 2, none⟩ = some (.string xw) := by rw [blk_cell hC.out]; rfl
              have x3 : W2.cell? ⟨N, 3, none⟩ = some (.bool xs) := by rw [blk_cell hC.out]; rfl
              have x4 : W2.cell? ⟨N, 4, none⟩ = some (.string xn) := by rw [blk_cell hC.out]; rfl
              have hNl := blk_lt hC.out
              have hzW : Hid (w6.heap.size ≤ W2.heap.size) := (b4.out).size
              have hobW := Lib.hid (o4.out).lt
              have HC2 : Hid ((done.length + 1) * 64 ≤ 140737488355328) := by show _ ≤ _; have := hln.out; have := hkl.out; omega
              have HC3 : Hid (done.length + 1 ≤ 140737488355328) := by show _ ≤ _; have := hln.out; have := hkl.out; omega
              by_cases i1 : xh = xs
              · by_cases i2 : xw = xn
                · have hm : Hid (jl key = []) := by show _ = _; rw [hjk.out]; simp [movesOf, idle, joinC, i1, i2]
                  have j1 : (xh == xs) = true := by simpa using i1
                  have j2 : (xw.toList == xn.toList) = true := by rw [toList_beq]; exact decide_eq_true i2
                  clear i1 i2
                  go_wp2
                  go_roundg n'
                  case measure => omega
                  case rel => exact ⟨k + 1, by go_num, by omega, hfn, by show Own _ _ _ _ _ _ _; rw [hd.out, hm.out, List.append_nil]; exact o4.out, by show _ ≤ _; rw [hd.out, hm.out, List.append_nil]; have := hln.out; omega, b4.out⟩
                · have hm : Hid (jl key = [⟨xk, xh, xw, xs, xn⟩]) := by show _ = _; rw [hjk.out]; simp [movesOf, idle, joinC, i2]
                  have j1 : (xh == xs) = true := by simpa using i1
                  have j2 : (xw.toList == xn.toList) = false := by rw [toList_beq]; exact decide_eq_false i2
                  clear i1 i2
                  go_wp2_with (at_builtin; refine ap_own Change.ok rfl _ _ _ _ _ _ rfl Try.underlying25 infoChJ rfl w6.heap.size u11 done ⟨xk, xh, xw, xs, xn⟩ #[_, _, _, _, _] rfl rfl W2.heap.size rfl rfl o4.out hzW.out HC2.out HC3.out ?_; intro gg cap w7 o7 hg7 hat7 hlt7)
                  go_roundg n'
                  case measure => omega
                  case rel => exact ⟨k + 1, by go_num, by omega, hfn, by show Own _ _ _ _ _ _ _; rw [hd.out, hm.out]; simpa using o7, by show _ ≤ _; rw [hd.out, hm.out]; have := hln.out; simp; omega, (b4.out).grown hg7 (b4.out).size (fun k e => (hobW.out _ e).1)⟩
              · have hm : Hid (jl key = [⟨xk, xh, xw, xs, xn⟩]) := by show _ = _; rw [hjk.out]; simp [movesOf, idle, joinC, i1]
                have j1 : (xh == xs) = false := by simpa using i1
                clear i1
                go_wp2_with (at_builtin; refine ap_own Change.ok rfl _ _ _ _ _ _ rfl Try.underlying25 infoChJ rfl w6.heap.size u11 done ⟨xk, xh, xw, xs, xn⟩ #[_, _, _, _, _] rfl rfl W2.heap.size rfl rfl o4.out hzW.out HC2.out HC3.out ?_; intro gg cap w7 o7 hg7 hat7 hlt7)
                go_roundg n'
                case measure => omega
                case rel => exact ⟨k + 1, by go_num, by omega, hfn, by show Own _ _ _ _ _ _ _; rw [hd.out, hm.out]; simpa using o7, by show _ ≤ _; rw [hd.out, hm.out]; have := hln.out; simp; omega, (b4.out).grown hg7 (b4.out).size (fun k e => (hobW.out _ e).1)⟩
            | some y =>
              rw [hp, hq] at hjk
              rw [hp] at C1
              rw [hq] at C2
              obtain ⟨hyq, hyb⟩ := hbd.out y hq
              rw [hp] at hyb
              simp only at hyb
              have hfn0 : Hid (badC p y = false → ∀ j key2, j < k + 1 → ks[j]? = some key2 → ∀ y, chOf q key2 = some y → badC p y = false) := fun hb0 j key2 hj h2 y2 hy => by
                by_cases e : j = k
                · subst e
                  rw [HX.out] at h2
                  cases h2
                  rw [hq] at hy
                  cases hy
                  exact hb0
                · exact hf.out j key2 (by omega) h2 y2 hy
              have hpb : Hid (badC p y = true → patchJoin p q = ([], 170)) := fun h => hjb.out y hyq h
              obtain ⟨xk, xh, xw, xs, xn⟩ := x
              obtain ⟨yk, yh, yw, ys, yn⟩ := y
              simp only at hyb
              have HYB := Lib.hid hyb
              unfold chV noChg at C1 C2
              simp only [Option.getD_none, Option.getD_some, Option.isSome_none, Option.isSome_some] at C1 C2
              clear hp hq hbd hpn hqn hin hf hyq hyb
              by_cases f1 : xs = yh
              rotate_left
              · have g1 : (xs == yh) = false := by simpa using f1
                have hp : Hid (patchJoin p q = ([], 170)) := hpb.out (by rw [HYB.out]; simp [f1])
                go_wp2_with fail
                refine (C1.out _ hb0.out).mono ?_
                rintro e wa ⟨rfl, q1⟩
                have ha6 := Lib.hid (bl_then hb.out hb.out.size q1)
                have ha0 := Lib.hid (bl_then hb0.out hb0.out.size q1)
                have oa := Lib.hid (ho.out.below q1)
                have a1 : Hid (Below w.heap.size w (wa.alloc (.cells #[.string xk, .bool xh, .string xw, .bool xs, .string xn] 35))) := bl_alloc ha0.out _
                clear q1 c0 hb hb0 ho
                go_wp2_with fail
                refine (C2.out _ a1.out).mono ?_
                rintro e wb ⟨rfl, q2⟩
                have hC0 : Hid ((wb.alloc (.cells #[.string yk, .bool yh, .string yw, .bool ys, .string yn] 35)).heap[wa.heap.size]? = some (.cells #[.string xk, .bool xh, .string xw, .bool xs, .string xn] 35)) := blk_alloc (blk_below q2 (blk_new wa _) (blk_lt (blk_new wa _))) _
                have hO0 : Hid ((wb.alloc (.cells #[.string yk, .bool yh, .string yw, .bool ys, .string yn] 35)).heap[wb.heap.size]? = some (.cells #[.string yk, .bool yh, .string yw, .bool ys, .string yn] 35)) := blk_new _ _
                have hMN0 : Hid (wb.heap.size ≠ wa.heap.size) := by show _ ≠ _; have := q2.size; simp at this; omega
                have hBB0 : Hid (Below wa.heap.size wa (wb.alloc (.cells #[.string yk, .bool yh, .string yw, .bool ys, .string yn] 35))) := bl_alloc (bl_then (bl_alloc (Below.refl _ _) _) (by simp) q2) _
                clear q2 a1 C1 C2
                have r0 : (wb.alloc (.cells #[.string yk, .bool yh, .string yw, .bool ys, .string yn] 35)).cell? ⟨wa.heap.size, 0, none⟩ = some (.string xk) := by rw [blk_cell hC0.out]; rfl
                have r1 : (wb.alloc (.cells #[.string yk, .bool yh, .string yw, .bool ys, .string yn] 35)).cell? ⟨wa.heap.size, 1, none⟩ = some (.bool xh) := by rw [blk_cell hC0.out]; rfl
                have r2 : (wb.alloc (.cells #[.string yk, .bool yh, .string yw, .bool ys, .string yn] 35)).cell? ⟨wa.heap.size, 2, none⟩ = some (.string xw) := by rw [blk_cell hC0.out]; rfl
                have r3 : (wb.alloc (.cells #[.string yk, .bool yh, .string yw, .bool ys, .string yn] 35)).cell? ⟨wa.heap.size, 3, none⟩ = some (.bool xs) := by rw [blk_cell hC0.out]; rfl
                have r4 : (wb.alloc (.cells #[.string yk, .bool yh, .string yw, .bool ys, .string yn] 35)).cell? ⟨wa.heap.size, 4, none⟩ = some (.string xn) := by rw [blk_cell hC0.out]; rfl
                go_wp2
                go_ret2
                exact ⟨.slice none 0 0, by rw [hp.out]; rfl, by rw [hp.out]; exact Own.nil, bl_then ha0.out ha0.out.size hBB0.out⟩
              subst f1
              by_cases f2 : xn = yw
              rotate_left
              · have g2 : (xn.toList == yw.toList) = false := by rw [toList_beq]; exact decide_eq_false f2
                have hp : Hid (patchJoin p q = ([], 170)) := hpb.out (by rw [HYB.out]; simp [f2])
                clear f2
                go_wp2_with fail
                refine (C1.out _ hb0.out).mono ?_
                rintro e wa ⟨rfl, q1⟩
                have ha6 := Lib.hid (bl_then hb.out hb.out.size q1)
                have ha0 := Lib.hid (bl_then hb0.out hb0.out.size q1)
                have oa := Lib.hid (ho.out.below q1)
                have a1 : Hid (Below w.heap.size w (wa.alloc (.cells #[.string xk, .bool xh, .string xw, .bool xs, .string xn] 35))) := bl_alloc ha0.out _
                clear q1 c0 hb hb0 ho
                go_wp2_with fail
                refine (C2.out _ a1.out).mono ?_
                rintro e wb ⟨rfl, q2⟩
                have hC0 : Hid ((wb.alloc (.cells #[.string yk, .bool xs, .string yw, .bool ys, .string yn] 35)).heap[wa.heap.size]? = some (.cells #[.string xk, .bool xh, .string xw, .bool xs, .string xn] 35)) := blk_alloc (blk_below q2 (blk_new wa _) (blk_lt (blk_new wa _))) _
                have hO0 : Hid ((wb.alloc (.cells #[.string yk, .bool xs, .string yw, .bool ys, .string yn] 35)).heap[wb.heap.size]? = some (.cells #[.string yk, .bool xs, .string yw, .bool ys, .string yn] 35)) := blk_new _ _
                have hMN0 : Hid (wb.heap.size ≠ wa.heap.size) := by show _ ≠ _; have := q2.size; simp at this; omega
                have hBB0 : Hid (Below wa.heap.size wa (wb.alloc (.cells #[.string yk, .bool xs, .string yw, .bool ys, .string yn] 35))) := bl_alloc (bl_then (bl_alloc (Below.refl _ _) _) (by simp) q2) _
                clear q2 a1 C1 C2
                have r0 : (wb.alloc (.cells #[.string yk, .bool xs, .string yw, .bool ys, .string yn] 35)).cell? ⟨wa.heap.size, 0, none⟩ = some (.string xk) := by rw [blk_cell hC0.out]; rfl
                have r1 : (wb.alloc (.cells #[.string yk, .bool xs, .string yw, .bool ys, .string yn] 35)).cell? ⟨wa.heap.size, 1, none⟩ = some (.bool xh) := by rw [blk_cell hC0.out]; rfl
                have r2 : (wb.alloc (.cells #[.string yk, .bool xs, .string yw, .bool ys, .string yn] 35)).cell? ⟨wa.heap.size, 2, none⟩ = some (.string xw) := by rw [blk_cell hC0.out]; rfl
                have r3 : (wb.alloc (.cells #[.string yk, .bool xs, .string yw, .bool ys, .string yn] 35)).cell? ⟨wa.heap.size, 3, none⟩ = some (.bool xs) := by rw [blk_cell hC0.out]; rfl
                have r4 : (wb.alloc (.cells #[.string yk, .bool xs, .string yw, .bool ys, .string yn] 35)).cell? ⟨wa.heap.size, 4, none⟩ = some (.string xn) := by rw [blk_cell hC0.out]; rfl
                go_wp2
                go_ret2
                exact ⟨.slice none 0 0, by rw [hp.out]; rfl, by rw [hp.out]; exact Own.nil, bl_then ha0.out ha0.out.size hBB0.out⟩
              subst f2
              have hfn := Lib.hid (hfn0.out (by rw [HYB.out]; simp))
              clear hfn0 hpb HYB
              go_wp2_with fail
              refine (C1.out _ hb0.out).mono ?_
              rintro e wa ⟨rfl, q1⟩
              have ha6 := Lib.hid (bl_then hb.out hb.out.size q1)
              have ha0 := Lib.hid (bl_then hb0.out hb0.out.size q1)
              have oa := Lib.hid (ho.out.below q1)
              have a1 : Hid (Below w.heap.size w (wa.alloc (.cells #[.string xk, .bool xh, .string xw, .bool xs, .string xn] 35))) := bl_alloc ha0.out _
              clear q1 c0 hb hb0 ho
              go_wp2_with fail
              refine (C2.out _ a1.out).mono ?_
              rintro e wb ⟨rfl, q2⟩
              have hC0 : Hid ((wb.alloc (.cells #[.string yk, .bool xs, .string xn, .bool ys, .string yn] 35)).heap[wa.heap.size]? = some (.cells #[.string xk, .bool xh, .string xw, .bool xs, .string xn] 35)) := blk_alloc (blk_below q2 (blk_new wa _) (blk_lt (blk_new wa _))) _
              have hO0 : Hid ((wb.alloc (.cells #[.string yk, .bool xs, .string xn, .bool ys, .string yn] 35)).heap[wb.heap.size]? = some (.cells #[.string yk, .bool xs, .string xn, .bool ys, .string yn] 35)) := blk_new _ _
              have hMN0 : Hid (wb.heap.size ≠ wa.heap.size) := by show _ ≠ _; have := q2.size; simp at this; omega
              have hBB0 : Hid (Below wa.heap.size wa (wb.alloc (.cells #[.string yk, .bool xs, .string xn, .bool ys, .string yn] 35))) := bl_alloc (bl_then (bl_alloc (Below.refl _ _) _) (by simp) q2) _
              clear q2 a1 C1 C2
              have r0 : (wb.alloc (.cells #[.string yk, .bool xs, .string xn, .bool ys, .string yn] 35)).cell? ⟨wa.heap.size, 0, none⟩ = some (.string xk) := by rw [blk_cell hC0.out]; rfl
              have r1 : (wb.alloc (.cells #[.string yk, .bool xs, .string xn, .bool ys, .string yn] 35)).cell? ⟨wa.heap.size, 1, none⟩ = some (.bool xh) := by rw [blk_cell hC0.out]; rfl
              have r2 : (wb.alloc (.cells #[.string yk, .bool xs, .string xn, .bool ys, .string yn] 35)).cell? ⟨wa.heap.size, 2, none⟩ = some (.string xw) := by rw [blk_cell hC0.out]; rfl
              have r3 : (wb.alloc (.cells #[.string yk, .bool xs, .string xn, .bool ys, .string yn] 35)).cell? ⟨wa.heap.size, 3, none⟩ = some (.bool xs) := by rw [blk_cell hC0.out]; rfl
              have r4 : (wb.alloc (.cells #[.string yk, .bool xs, .string xn, .bool ys, .string yn] 35)).cell? ⟨wa.heap.size, 4, none⟩ = some (.string xn) := by rw [blk_cell hC0.out]; rfl
              go_upto_region 22 with fail
              clear r0 r1 r2 r3 r4
              obtain ⟨W2, hW2⟩ : ∃ W, W = wb.alloc (.cells #[.string yk, .bool xs, .string xn, .bool ys, .string yn] 35) := ⟨_, rfl⟩
              rw [← hW2] at hC0 hO0 hBB0
              rw [← hW2]
              obtain ⟨N, hN⟩ : ∃ N, N = wa.heap.size := ⟨_, rfl⟩
              rw [← hN] at hC0 hBB0 hMN0
              rw [← hN]
              obtain ⟨M, hM⟩ : ∃ M, M = wb.heap.size := ⟨_, rfl⟩
              rw [← hM] at hO0 hMN0
              rw [← hM]
              have hC := hC0
              have hO := hO0
              have hBB := hBB0
              have hMN : Hid (M ≠ N) := hMN0.out
              have HN := Lib.hid hN
              have hBA : Hid (Below wa.heap.size wa W2) := by show Below _ _ _; rw [← hN]; exact hBB.out
              clear hC0 hO0 hBB0 hMN0 hW2 hN hM
              refine wp_region_noPanic ?_
              refine wp_region_held_drew (S := (fun W' => Hid ((W'.heap[M]? = some (.cells #[.string yk, .bool xs, .string xn, .bool ys, .string yn] 35) ∧ ∃ h v, W'.heap[N]? = some (.cells #[.string xk, .bool xh, .string xw, h, v] 35)) ∧ Below N wa W'))) (by kernel_rfl) (⟨⟨hO.out, _, _, hC.out⟩, hBB.out.drew⟩) (fun hHeld => ?_)
              refine wpAnyH_take (i := 0) (oi := ⟨some 80, _, _, _, _, _⟩) (v := ?_) rfl (by kernel_rfl) (by kernel_rfl) (by kernel_rfl) (fun _ _ _ h => h) (Or.inl ⟨by rfl, ?_⟩) (by assumption) ?_
              rotate_left
              · (intro w hSw; (try dsimp only at hSw); have y := hSw.out.1.1; have y1 : w.cell? ⟨M, 3, none⟩ = some (.bool ys) := (by rw [blk_cell y]; rfl); have y2 : w.cell? ⟨M, 4, none⟩ = some (.string yn) := (by rw [blk_cell y]; rfl); clear y; (go_simp <;> with_reducible rfl))
              try simp only [Act.put, List.setIfInBounds_toArray, List.set_cons_zero, List.set_cons_succ]
              refine wpAnyH_take (i := 1) (oi := ⟨some 81, _, _, _, _, _⟩) (v := ?_) rfl (by kernel_rfl) (by kernel_rfl) (by kernel_rfl) (fun _ _ _ h => h) (Or.inl ⟨by rfl, ?_⟩) (by assumption) ?_
              rotate_left
              · (intro w hSw; (try dsimp only at hSw); have y := hSw.out.1.1; have y1 : w.cell? ⟨M, 3, none⟩ = some (.bool ys) := (by rw [blk_cell y]; rfl); have y2 : w.cell? ⟨M, 4, none⟩ = some (.string yn) := (by rw [blk_cell y]; rfl); clear y; (go_simp <;> with_reducible rfl))
              try simp only [Act.put, List.setIfInBounds_toArray, List.set_cons_zero, List.set_cons_succ]
              refine wpAnyH_take (i := 2) (oi := ⟨some 82, _, _, _, _, _⟩) (v := ?_) rfl (by kernel_rfl) (by kernel_rfl) (by kernel_rfl) (fun _ _ _ h => h) (Or.inl ⟨by rfl, ?_⟩) (by assumption) ?_
              rotate_left
              · (intro w hSw; (try dsimp only at hSw); have y := hSw.out.1.1; have y1 : w.cell? ⟨M, 3, none⟩ = some (.bool ys) := (by rw [blk_cell y]; rfl); have y2 : w.cell? ⟨M, 4, none⟩ = some (.string yn) := (by rw [blk_cell y]; rfl); clear y; (go_simp <;> with_reducible rfl))
              try simp only [Act.put, List.setIfInBounds_toArray, List.set_cons_zero, List.set_cons_succ]
              refine wpAnyH_take (i := 3) (oi := ⟨some 83, _, _, _, _, _⟩) (v := ?_) rfl (by kernel_rfl) (by kernel_rfl) (by kernel_rfl) (fun _ _ _ h => h) (Or.inl ⟨by rfl, ?_⟩) (by assumption) ?_
              rotate_left
              · (intro w hSw; (try dsimp only at hSw); have y := hSw.out.1.1; have y1 : w.cell? ⟨M, 3, none⟩ = some (.bool ys) := (by rw [blk_cell y]; rfl); have y2 : w.cell? ⟨M, 4, none⟩ = some (.string yn) := (by rw [blk_cell y]; rfl); clear y; (go_simp <;> with_reducible rfl))
              try simp only [Act.put, List.setIfInBounds_toArray, List.set_cons_zero, List.set_cons_succ]
              refine wpAnyH_take (i := 4) (oi := ⟨some 84, _, _, _, _, _⟩) (v := ?_) rfl (by kernel_rfl) (by kernel_rfl) (by kernel_rfl) (fun _ _ _ h => h) (Or.inl ⟨by rfl, ?_⟩) (by assumption) ?_
              rotate_left
              · (intro w hSw; (try dsimp only at hSw); have y := hSw.out.1.1; have y1 : w.cell? ⟨M, 3, none⟩ = some (.bool ys) := (by rw [blk_cell y]; rfl); have y2 : w.cell? ⟨M, 4, none⟩ = some (.string yn) := (by rw [blk_cell y]; rfl); clear y; (go_simp <;> with_reducible rfl))
              try simp only [Act.put, List.setIfInBounds_toArray, List.set_cons_zero, List.set_cons_succ]
              refine wpAnyH_ready (rs := [5]) (by kernel_rfl) (by simp) ?_
              refine AllReadyH.cons rfl (fun K hK => ?_) AllReadyH.nil
              have z1 : W2.drew.cell? ⟨N, 3, none⟩ = some (.bool xs) := (by rw [blk_cell (blk_drew hC.out)]; rfl)
              have z2 : W2.drew.frozen? ⟨N, 3, none⟩ = false := blk_free (blk_drew hC.out) 3
              go_simp
              have C5 : Hid ((W2.setCell ⟨N, 3, none⟩ (.bool ys)).drew.heap[N]? = some (.cells #[.string xk, .bool xh, .string xw, .bool ys, .string xn] 35)) := blk_drew (blk_set' hC.out 3 _ rfl)
              have O5 : Hid ((W2.setCell ⟨N, 3, none⟩ (.bool ys)).drew.heap[M]? = some (.cells #[.string yk, .bool xs, .string xn, .bool ys, .string yn] 35)) := blk_drew (blk_far hO.out hMN.out _)
              have B5 : Hid (Below N wa (W2.setCell ⟨N, 3, none⟩ (.bool ys)).drew) := (bl_set hBB.out (Nat.le_refl _) _).drew
              have S5 : Hid (((W2.setCell ⟨N, 3, none⟩ (.bool ys)).drew.heap[M]? = some (.cells #[.string yk, .bool xs, .string xn, .bool ys, .string yn] 35) ∧ ∃ h v, (W2.setCell ⟨N, 3, none⟩ (.bool ys)).drew.heap[N]? = some (.cells #[.string xk, .bool xh, .string xw, h, v] 35)) ∧ Below N wa (W2.setCell ⟨N, 3, none⟩ (.bool ys)).drew) := ⟨⟨O5.out, _, _, C5.out⟩, B5.out⟩
              clear z1 z2
              refine hK.out _ _ (by assumption) (fun _ => ?_)
              clear hK K
              try simp only [Act.put, List.setIfInBounds_toArray, List.set_cons_zero, List.set_cons_succ]
              refine wpAnyH_take (i := 6) (oi := ⟨some 85, _, _, _, _, _⟩) (v := ?_) rfl (by kernel_rfl) (by kernel_rfl) (by kernel_rfl) (fun _ _ _ h => h) (Or.inl ⟨by rfl, ?_⟩) (by assumption) ?_
              rotate_left
              · (intro w hSw; (try dsimp only at hSw); have y := hSw.out.1.1; have y1 : w.cell? ⟨M, 3, none⟩ = some (.bool ys) := (by rw [blk_cell y]; rfl); have y2 : w.cell? ⟨M, 4, none⟩ = some (.string yn) := (by rw [blk_cell y]; rfl); clear y; (go_simp <;> with_reducible rfl))
              try simp only [Act.put, List.setIfInBounds_toArray, List.set_cons_zero, List.set_cons_succ]
              refine wpAnyH_ready (rs := [7]) (by kernel_rfl) (by simp) ?_
              refine AllReadyH.cons rfl (fun K hK => ?_) AllReadyH.nil
              generalize (W2.setCell ⟨N, 3, none⟩ (.bool ys)).drew = W3 at *
              have z1 : W3.cell? ⟨N, 4, none⟩ = some (.string xn) := (by rw [blk_cell C5.out]; rfl)
              have z2 : W3.frozen? ⟨N, 4, none⟩ = false := blk_free C5.out 4
              go_simp
              have C7 : Hid ((W3.setCell ⟨N, 4, none⟩ (.string yn)).heap[N]? = some (.cells #[.string xk, .bool xh, .string xw, .bool ys, .string yn] 35)) := blk_set' C5.out 4 _ rfl
              have B7 : Hid (Below N wa (W3.setCell ⟨N, 4, none⟩ (.string yn))) := bl_set B5.out (Nat.le_refl _) _
              have S7 : Hid (((W3.setCell ⟨N, 4, none⟩ (.string yn)).heap[M]? = some (.cells #[.string yk, .bool xs, .string xn, .bool ys, .string yn] 35) ∧ ∃ h v, (W3.setCell ⟨N, 4, none⟩ (.string yn)).heap[N]? = some (.cells #[.string xk, .bool xh, .string xw, h, v] 35)) ∧ Below N wa (W3.setCell ⟨N, 4, none⟩ (.string yn))) := ⟨⟨blk_far O5.out hMN.out _, _, _, C7.out⟩, B7.out⟩
              clear z1 z2
              refine hK.out _ _ (by assumption) (fun _ => ?_)
              clear hK K
              try simp only [Act.put, List.setIfInBounds_toArray, List.set_cons_zero, List.set_cons_succ]
              refine wpAnyH_done (by kernel_rfl) ?_ _
              refine NoPanic.normal ?_
              have B8 : Hid (Below wa.heap.size wa (W3.setCell ⟨N, 4, none⟩ (.string yn))) := by show Below _ _ _; rw [← HN.out]; exact B7.out
              generalize W3.setCell ⟨N, 4, none⟩ (.string yn) = W4 at *
              have o4 := Lib.hid (oa.out.below B8.out)
              have b4 := Lib.hid (bl_then ha6.out ha6.out.size B8.out)
              clear S5 S7 O5 B5 C5 B7 B8 hC hO hBB hMN hBA oa ha6 hHeld
              have x0 : W4.cell? ⟨N, 0, none⟩ = some (.string xk) := by rw [blk_cell C7.out]; rfl
              have x1 : W4.cell? ⟨N, 1, none⟩ = some (.bool xh) := by rw [blk_cell C7.out]; rfl
              have x2 : W4.cell? ⟨N, 2, none⟩ = some (.string xw) := by rw [blk_cell C7.out]; rfl
              have x3 : W4.cell? ⟨N, 3, none⟩ = some (.bool ys) := by rw [blk_cell C7.out]; rfl
              have x4 : W4.cell? ⟨N, 4, none⟩ = some (.string yn) := by rw [blk_cell C7.out]; rfl
              have hNl := blk_lt C7.out
              have hzW : Hid (w6.heap.size ≤ W4.heap.size) := (b4.out).size
              have hobW := Lib.hid (o4.out).lt
              have HC2 : Hid ((done.length + 1) * 64 ≤ 140737488355328) := by show _ ≤ _; have := hln.out; have := hkl.out; omega
              have HC3 : Hid (done.length + 1 ≤ 140737488355328) := by show _ ≤ _; have := hln.out; have := hkl.out; omega
              by_cases i1 : xh = ys
              · by_cases i2 : xw = yn
                · have hm : Hid (jl key = []) := by show _ = _; rw [hjk.out]; simp [movesOf, idle, joinC, i1, i2]
                  have j1 : (xh == ys) = true := by simpa using i1
                  have j2 : (xw.toList == yn.toList) = true := by rw [toList_beq]; exact decide_eq_true i2
                  clear i1 i2
                  go_wp2
                  go_roundg n'
                  case measure => omega
                  case rel => exact ⟨k + 1, by go_num, by omega, hfn, by show Own _ _ _ _ _ _ _; rw [hd.out, hm.out, List.append_nil]; exact o4.out, by show _ ≤ _; rw [hd.out, hm.out, List.append_nil]; have := hln.out; omega, b4.out⟩
                · have hm : Hid (jl key = [⟨xk, xh, xw, ys, yn⟩]) := by show _ = _; rw [hjk.out]; simp [movesOf, idle, joinC, i2]
                  have j1 : (xh == ys) = true := by simpa using i1
                  have j2 : (xw.toList == yn.toList) = false := by rw [toList_beq]; exact decide_eq_false i2
                  clear i1 i2
                  go_wp2_with (at_builtin; refine ap_own Change.ok rfl _ _ _ _ _ _ rfl Try.underlying25 infoChJ rfl w6.heap.size u11 done ⟨xk, xh, xw, ys, yn⟩ #[_, _, _, _, _] rfl rfl W4.heap.size rfl rfl o4.out hzW.out HC2.out HC3.out ?_; intro gg cap w7 o7 hg7 hat7 hlt7)
                  go_roundg n'
                  case measure => omega
                  case rel => exact ⟨k + 1, by go_num, by omega, hfn, by show Own _ _ _ _ _ _ _; rw [hd.out, hm.out]; simpa using o7, by show _ ≤ _; rw [hd.out, hm.out]; have := hln.out; simp; omega, (b4.out).grown hg7 (b4.out).size (fun k e => (hobW.out _ e).1)⟩
              · have hm : Hid (jl key = [⟨xk, xh, xw, ys, yn⟩]) := by show _ = _; rw [hjk.out]; simp [movesOf, idle, joinC, i1]
                have j1 : (xh == ys) = false := by simpa using i1
                clear i1
                go_wp2_with (at_builtin; refine ap_own Change.ok rfl _ _ _ _ _ _ rfl Try.underlying25 infoChJ rfl w6.heap.size u11 done ⟨xk, xh, xw, ys, yn⟩ #[_, _, _, _, _] rfl rfl W4.heap.size rfl rfl o4.out hzW.out HC2.out HC3.out ?_; intro gg cap w7 o7 hg7 hat7 hlt7)
                go_roundg n'
                case measure => omega
                case rel => exact ⟨k + 1, by go_num, by omega, hfn, by show Own _ _ _ _ _ _ _; rw [hd.out, hm.out]; simpa using o7, by show _ ≤ _; rw [hd.out, hm.out]; have := hln.out; simp; omega, (b4.out).grown hg7 (b4.out).size (fun k e => (hobW.out _ e).1)⟩
        · have hk' : k = ks.length := by omega
          subst hk'
          rw [List.take_length] at ho
          have hp : Hid (patchJoin p q = (ks.flatMap jl, 0)) := hj.out fun c hc => by
            have h1 : c.key ∈ ks := (hmk.out c.key).2 (.inr (List.mem_map.2 ⟨c, hc, rfl⟩))
            obtain ⟨j, hj⟩ := List.getElem?_of_mem h1
            exact hf.out j c.key ((List.getElem?_eq_some_iff.1 hj).1) hj c (chOf_mem SQ.out hc)
          clear hlt hk hln hf
          go_wp2
          go_ret2
          exact ⟨_, by rw [hp.out]; rfl, by rw [hp.out]; exact ho.out.mono B6.out.size, bl_then B6.out B6.out.size hb.out⟩
end Go.Proofs.Ytofdmkglhjpbcaa
