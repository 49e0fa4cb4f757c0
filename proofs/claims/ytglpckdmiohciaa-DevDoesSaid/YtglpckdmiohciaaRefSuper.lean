/- the reference's big, Super -/
import Derived.Test.YtglpckdmiohciaaNumber
import Derived.Test.YtglpckdmiohciaaAppendS
import Derived.Test.YtglpckdmiohciaaOf
import Derived.Deep.RegionHeld3
namespace Go.Proofs.Ytglpckdmiohciaa
open Go.RowKit
set_option linter.unusedVariables false
set_option linter.unusedSimpArgs false

theorem infoU8 : (Try.prog.info? 5).map (fun i => (i.zero, i.size, i.bytes)) = some (some (.int .u8 0), 1, 1) := by kernel_rfl

set_option maxRecDepth 100000 in
theorem big_calls (base : Nat) (w : World) (v : Value) (xs : List Int) (n : Int) (size : Nat) (hn0 : 0 ≤ n) (hn1 : n < 18446744073709551616) (hs : size ≤ 8) (hx : xs.length ≤ 1000) (hb : base ≤ w.heap.size) (ho : Own by1 1 5 base w v xs) :
    Calls Try.prog 84 #[v, .int .u64 n, .int .i64 size] w fun e w' => ∃ v', e = .returned v' ∧ Own by1 1 5 base w' v' (xs ++ be n size) ∧ Below base w w' := by
  have HO := Lib.hid ho
  clear ho
  go_enter Try.func84, Try.ntmps84
  go_wp2
  go_loopg [0, 7] size (fun k t0 i wr => ∃ j : Nat, i = .int .i64 ((j : Int) - 1) ∧ j = k ∧ j ≤ size ∧ Hid (Own by1 1 5 base wr t0 (xs ++ (be n size).take (size - j))) ∧ Hid (Below base w wr))
  case atStart => exact ⟨size, rfl, rfl, Nat.le_refl _, by show Own _ _ _ _ _ _ _; simpa using HO.out, Below.refl _ _⟩
  case round =>
    obtain ⟨j, rfl, rfl, hj, ho, hbw⟩ := hrel
    cases j with
    | zero =>
      have hfin : Hid (Own by1 1 5 base wr u0 (xs ++ be n size)) := by
        show Own _ _ _ _ _ _ _
        have := ho.out
        rw [List.take_of_length_le (by rw [be_len]; omega)] at this
        simpa using this
      go_wp2
      go_ret
      exact ⟨_, rfl, hfin.out, hbw.out⟩
    | succ j =>
      obtain ⟨ys, hys⟩ : ∃ ys, xs ++ (be n size).take (size - (j + 1)) = ys := ⟨_, rfl⟩
      have hnext : Hid (xs ++ (be n size).take (size - j) = ys ++ [n / 2 ^ (8 * j) % 256]) := by
        show _ = _
        rw [← hys, show size - j = size - (j + 1) + 1 from by omega, List.take_add_one, be_get n size _ (by omega), show size - (size - (j + 1) + 1) = j from by omega]
        simp
      have hyl : ys.length ≤ 1008 := by
        rw [← hys]; simp [be_len]; omega
      rw [hys] at ho
      clear hys
      have HC1 : Hid (base ≤ wr.heap.size) := by show _ ≤ _; have := hbw.out.size; omega
      have HC2 : Hid ((ys.length + 1) * 1 ≤ 140737488355328) := by show _ ≤ _; omega
      have HC3 : Hid (ys.length + 1 ≤ 140737488355328) := by show _ ≤ _; omega
      have hob := Lib.hid ho.out.lt
      go_wp2_with (at_builtin; refine ap_own by1ok rfl _ _ _ _ _ _ rfl Try.underlying38 infoU8 rfl base u0 ys (n / 2 ^ (8 * j) % 256) #[_] rfl rfl wr.heap.size rfl rfl ho.out HC1.out HC2.out HC3.out ?_; intro gg cap w5 ho5 hg5 hat5 hlt5)
      go_roundg j
      case measure => omega
      case rel =>
        refine ⟨j, by go_num, rfl, by omega, ?_, ?_⟩
        · show Own _ _ _ _ _ _ _
          rw [hnext.out]
          simpa using ho5
        · exact hbw.out.grown hg5 HC1.out (fun k e => (hob.out _ e).1)

theorem wrap64u (n : Int) (h0 : 0 ≤ n) (h1 : n < 4294967296) : IntKind.u64.wrap n = n := by rw [IntKind.wrap_u64]; omega
def magicS : ByteArray := ⟨#[97, 112, 111, 103]⟩
theorem magic_src {P : Program} {W : World} {tx : TypeId} (hk : P.underlying tx = some .string) : Src P 1 tx (.string magicS) magic.length (magic.flatMap by1) W :=
  Src.ofString (w := W) hk magicS
theorem bl_thenB {B C : Nat} {w W W' : World} (h : Below B w W) (k : Below C W W') (hc : B ≤ C) : Below B w W' :=
  ⟨k.os.trans h.os, k.tape.trans h.tape, k.output.trans h.output, Nat.le_trans h.size k.size, fun i hi => (k.block i (by omega)).trans (h.block i hi)⟩
theorem bl_then' {B C : Nat} {w W W' : World} (h : Below B w W) (k : Below C W W') (hc : B ≤ C) : Below B w W' := bl_thenB h k hc
theorem bl_thenC {B : Nat} {w W W' : World} (h : Hid (Below B w W)) (k : Below B W W') (hc : Hid (B ≤ W.heap.size)) : Hid (Below B w W') := bl_thenB h.out k (Nat.le_refl _)
theorem bl_szC {B : Nat} {W W' : World} (k : Below B W W') (hc : Hid (B ≤ W.heap.size)) : Hid (B ≤ W'.heap.size) := Nat.le_trans hc.out k.size
theorem bl_grownC {B : Nat} {w W W' : World} {v : Value} (h : Hid (Below B w W)) (hg : W.grownBy W' v.ownBlock) (hc : Hid (B ≤ W.heap.size)) (hob : Hid (∀ k, v.ownBlock = some k → B ≤ k ∧ k < W.heap.size)) : Hid (Below B w W') :=
  h.out.grown hg hc.out (fun k e => (hob.out k e).1)
theorem sz_grownC {B : Nat} {W W' : World} {row : Option Nat} (hg : W.grownBy W' row) (hc : Hid (B ≤ W.heap.size)) : Hid (B ≤ W'.heap.size) := Nat.le_trans hc.out hg.size
set_option maxHeartbeats 4000000 in
set_option maxRecDepth 100000 in
theorem refSuper_calls (w : World) (s : Sup) (hs : s.ok) :
    Calls Try.prog 27 #[supV s] w fun e w' => ∃ v, e = .returned v ∧ Own by1 1 5 w.heap.size w' v (put s) ∧ Below w.heap.size w w' := by
  obtain ⟨⟨a0, a1⟩, ⟨b0, b1⟩, ⟨c0, c1⟩, ⟨d0, d1⟩⟩ := hs
  unfold supV
  have k1 := wrap64u _ b0 b1
  have k2 := wrap64u _ c0 c1
  have k3 := wrap64u _ d0 d1
  go_enter Try.func27, Try.ntmps27
  go_wp2_with fail
  have hbl : (w.alloc (.cells #[.int .u64 s.epoch, .int .u32 s.start, .int .u32 s.pages, .int .u32 s.size] 37)).heap.size = w.heap.size + 1 := by simp
  have hX : Hid ((w.alloc (.cells #[.int .u64 s.epoch, .int .u32 s.start, .int .u32 s.pages, .int .u32 s.size] 37)).heap[w.heap.size]? = some (.cells #[.int .u64 s.epoch, .int .u32 s.start, .int .u32 s.pages, .int .u32 s.size] 37 (0, 0))) := blk_new _ _
  have hB : Hid (Below w.heap.size w (w.alloc (.cells #[.int .u64 s.epoch, .int .u32 s.start, .int .u32 s.pages, .int .u32 s.size] 37))) := bl_alloc (Below.refl _ _) _
  refine (big_calls (w.heap.size + 1) _ (.slice none 0 0) [] s.epoch 8 a0 a1 (by omega) (by simp) (by omega) Own.nil).mono ?_
  rintro e w1 ⟨v1, rfl, ho1, hb1⟩
  have hX1 := Lib.hid (blk_below hb1 hX.out (by omega))
  have hB1 := Lib.hid (bl_then' hB.out hb1 (by omega))
  have hz1 : w.heap.size + 1 ≤ w1.heap.size := by have := hb1.size; omega
  simp only [List.nil_append] at ho1
  have HO1 := Lib.hid ho1
  clear ho1 hb1 hX hB hbl
  have hl1 : Hid ((be s.epoch 8).length = 8) := be_len _ _
  go_wp2_with fail
  obtain ⟨x0, x1, x2, x3⟩ := sup_cells hX1.out
  clear x0
  go_upto_region 2 with fail
  go_cut [3] (fun v4 wx => Hid (Own by1 1 5 (w.heap.size + 1) wx v4 (be s.epoch 8 ++ be s.start 4 ++ be s.pages 4 ++ be s.size 4)) ∧ Hid (Below (w.heap.size + 1) w1 wx))
  case first =>
    have hS : Hid (∀ W, Hid (Below (w.heap.size + 1) w1 W) → W.cell? ⟨w.heap.size, 1, none⟩ = some (.int .u32 s.start) ∧ W.cell? ⟨w.heap.size, 2, none⟩ = some (.int .u32 s.pages) ∧ W.cell? ⟨w.heap.size, 3, none⟩ = some (.int .u32 s.size)) := by
      intro W hW
      obtain ⟨_, b, c, d⟩ := sup_cells (blk_below hW.out hX1.out (by omega))
      exact ⟨b, c, d⟩
    have hb0 : Hid (Below (w.heap.size + 1) w1 w1.drew) := (Below.refl _ _).drew
    have HO2 := Lib.hid HO1.out.drew
    have hz2 : Hid (w.heap.size + 1 ≤ w1.drew.heap.size) := hz1
    have q1 : Hid ((be s.epoch 8).length ≤ 1000) := by show _ ≤ _; simp [be_len]
    have q2 : Hid ((be s.epoch 8 ++ be s.start 4).length ≤ 1000) := by show _ ≤ _; simp [be_len]
    have q3 : Hid ((be s.epoch 8 ++ be s.start 4 ++ be s.pages 4).length ≤ 1000) := by show _ ≤ _; simp [be_len]
    have p1 : Hid (s.start < 18446744073709551616) := by show _ < _; omega
    have p2 : Hid (s.pages < 18446744073709551616) := by show _ < _; omega
    have p3 : Hid (s.size < 18446744073709551616) := by show _ < _; omega
    have p4 : Hid (4 ≤ 8) := by show _ ≤ _; omega
    go_region_held3 (fun W => W.cell? ⟨w.heap.size, 1, none⟩ = some (.int .u32 s.start) ∧ W.cell? ⟨w.heap.size, 2, none⟩ = some (.int .u32 s.pages) ∧ W.cell? ⟨w.heap.size, 3, none⟩ = some (.int .u32 s.size))
      (first | exact hS.out _ (Below.refl _ _) | exact hS.out _ hb0 | exact hS.out _ hc2 | exact hS.out _ hc3 | exact hS.out _ hc4)
      (first
        | (go_simp; go_at_call 84; refine (big_calls (w.heap.size + 1) _ _ _ s.start 4 b0 p1.out p4.out q1.out hz2.out HO2.out).mono ?_; rintro e w2 ⟨v2, rfl, ho3, hb3⟩; have HO3 := Lib.hid ho3; have hc2 := bl_thenC hb0 hb3 hz2; have hz3 := bl_szC hb3 hz2; clear HO2 ho3)
        | (go_simp; go_at_call 84; refine (big_calls (w.heap.size + 1) _ _ _ s.pages 4 c0 p2.out p4.out q2.out hz3.out HO3.out).mono ?_; rintro e w3 ⟨v3, rfl, ho4, hb4⟩; have HO4 := Lib.hid ho4; have hc3 := bl_thenC hc2 hb4 hz3; have hz4 := bl_szC hb4 hz3; clear HO3 ho4)
        | (go_simp; go_at_call 84; refine (big_calls (w.heap.size + 1) _ _ _ s.size 4 d0 p3.out p4.out q3.out hz4.out HO4.out).mono ?_; rintro e w4 ⟨v4, rfl, ho5, hb5⟩; have HO5 := Lib.hid ho5; have hc4 := bl_thenC hc3 hb5 hz4; have hz5 := bl_szC hb5 hz4; clear HO4 ho5))
    all_goals (go_wp2_with fail; go_meet; exact ⟨HO5, hc4⟩)
  case rest =>
    obtain ⟨HO5, hc4⟩ := hcut
    have hX2 := Lib.hid (blk_below hc4.out hX1.out (by omega))
    have hB2 := Lib.hid (bl_thenB hB1.out hc4.out (by omega))
    have hz5 : Hid (w.heap.size + 1 ≤ wc.heap.size) := Nat.le_trans hz1 hc4.out.size
    clear hX1 hB1 HO1 hc4 x1 x2 x3 k1 k2 k3
    obtain ⟨x0, _, _, _⟩ := sup_cells hX2.out
    generalize hys : be s.epoch 8 ++ be s.start 4 ++ be s.pages 4 ++ be s.size 4 = ys at *
    have hyl : ys.length = 20 := by rw [← hys]; simp [be_len]
    have hput : Hid (put s = ys ++ magic ++ be s.epoch 8) := by show _ = _; rw [← hys]; rfl
    clear hys
    obtain ⟨v3, hv3⟩ : ∃ v, v = u3 := ⟨_, rfl⟩
    go_upto_region 3 with fail
    go_cut [2] (fun v4 wx => Hid (Own by1 1 5 (w.heap.size + 1) wx v4 (put s)) ∧ Hid (Below (w.heap.size + 1) wc wx))
    case first =>
      have hb0 : Hid (Below (w.heap.size + 1) wc wc.drew) := (Below.refl _ _).drew
      have hS : Hid (∀ W, Hid (Below (w.heap.size + 1) wc W) → W.cell? ⟨w.heap.size, 0, none⟩ = some (.int .u64 s.epoch)) := by
        intro W hW
        exact (sup_cells (blk_below hW.out hX2.out (by omega))).1
      have hz6 : Hid (w.heap.size + 1 ≤ wc.drew.heap.size) := hz5.out
      have HO6 := Lib.hid HO5.out.drew
      have q1 : Hid ((ys.length + magic.length) * 1 ≤ 140737488355328) := by show _ ≤ _; simp [hyl, magic]
      have q2 : Hid (ys.length + magic.length ≤ 140737488355328) := by show _ ≤ _; simp [hyl, magic]
      have q3 : Hid ((ys ++ magic).length ≤ 1000) := by show _ ≤ _; simp [hyl, magic]
      have p1 : Hid (8 ≤ 8) := by show _ ≤ _; omega
      have hob := Lib.hid HO6.out.lt
      go_region_held3 (fun W => W.cell? ⟨w.heap.size, 0, none⟩ = some (.int .u64 s.epoch))
        (first | exact hS.out _ (Below.refl _ _) | exact hS.out _ hb0 | exact hS.out _ hc2 | exact hS.out _ hc3)
        (first
          | (refine at_step rfl (op_ownS by1ok _ _ _ _ _ _ _ rfl Try.underlying38 infoU8 rfl (w.heap.size + 1) u3 (.string magicS) ys magic rfl rfl HO6.out (magic_src Try.underlying9) hz6.out q1.out q2.out ?_); intro v7 w7 ho7 hg7; have HO7 := Lib.hid ho7; have hc2 := bl_grownC hb0 hg7 hz6 hob; have hz7 := sz_grownC hg7 hz6)
          | (go_simp; go_at_call 84; refine (big_calls (w.heap.size + 1) _ _ _ s.epoch 8 a0 a1 p1.out q3.out hz7.out HO7.out).mono ?_; rintro e w8 ⟨v8, rfl, ho8, hb8⟩; have HO8 := Lib.hid ho8; have hc3 := bl_thenC hc2 hb8 hz7))
      all_goals (go_wp2_with fail; go_meet; exact ⟨hput.out ▸ HO8, hc3⟩)
    case rest =>
      obtain ⟨HO8, hc8⟩ := hcut
      go_wp2
      go_ret
      exact ⟨_, rfl, HO8.out.mono (by omega), bl_thenB hB2.out hc8.out (by omega)⟩
end Go.Proofs.Ytglpckdmiohciaa
