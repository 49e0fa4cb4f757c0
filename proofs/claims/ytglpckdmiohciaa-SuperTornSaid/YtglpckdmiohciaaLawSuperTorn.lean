/- law05.SuperTorn -/
import Derived.Test.YtglpckdmiohciaaSupEq
import Derived.Test.YtglpckdmiohciaaOpenSup
import Derived.Test.YtglpckdmiohciaaAppendS
namespace Go.Proofs.Ytglpckdmiohciaa
open Go.RowKit
set_option linter.unusedVariables false
set_option linter.unusedSimpArgs false
attribute [local go_sem high] eqSup

theorem bl_thenP2 {B : Nat} {w W W' : World} (hp : w.heap.size = B) (h : Below B w W) (k : Below W.heap.size W W') : Below B w W' := bl_then h (hp ▸ h.size) k
set_option maxHeartbeats 4000000 in
set_option maxRecDepth 100000 in
theorem LawSuperTorn_calls (w : World) (a b : Sup) (ha : a.ok) (hb : b.ok) (k : Int) :
    Calls Try.prog 6 #[supV a, supV b, .int .i64 k] w fun e w' => e = .returned (.bool true) ∧ Below w.heap.size w w' := by
  unfold supV
  have HA := Lib.hid ha
  have HB := Lib.hid hb
  clear ha hb
  go_enter Try.func6, Try.ntmps6
  go_wp2_with fail
  have hB0 := Lib.hid (bl_alloc (bl_alloc (Below.refl w.heap.size w) (.cells (supC a) 37)) (.cells (supC b) 37))
  have hX0 := Lib.hid ((supAt_new w a _ rfl).alloc (.cells (supC b) 37))
  have hY0 := Lib.hid (supAt_new (w.alloc (.cells (supC a) 37)) b (w.heap.size + 1) (by simp))
  refine (awake05_calls _).mono ?_
  rintro e w1 ⟨rfl, hb⟩
  generalize hp2 : w.heap.size = p2 at *
  have hB1 := Lib.hid (bl_thenP2 hp2 hB0.out hb)
  have hX1 := Lib.hid (hX0.out.below hb)
  have hY1 := Lib.hid (hY0.out.below hb)
  clear hb hB0 hX0 hY0
  obtain ⟨x0, x1, x2, x3⟩ := hX1.out.cells
  obtain ⟨y0, y1, y2, y3⟩ := hY1.out.cells
  have hcase : ((a.epoch == b.epoch) = true) ∨ ((a.epoch == b.epoch) = false ∧ (a.epoch == 0) = true) ∨ ((a.epoch == b.epoch) = false ∧ (a.epoch == 0) = false ∧ (b.epoch == 0) = true) ∨
      ((a.epoch == b.epoch) = false ∧ (a.epoch == 0) = false ∧ (b.epoch == 0) = false ∧ k < 0) ∨ ((a.epoch == b.epoch) = false ∧ (a.epoch == 0) = false ∧ (b.epoch == 0) = false ∧ ¬ k < 0 ∧ 32 < k) ∨
      ((a.epoch == b.epoch) = false ∧ (a.epoch == 0) = false ∧ (b.epoch == 0) = false ∧ ¬ k < 0 ∧ ¬ 32 < k) := by
    cases (a.epoch == b.epoch) <;> cases (a.epoch == 0) <;> cases (b.epoch == 0) <;> simp <;> omega
  rcases hcase with c1 | ⟨c1, c2⟩ | ⟨c1, c2, c3⟩ | ⟨c1, c2, c3, c4⟩ | ⟨c1, c2, c3, c4, c5⟩ | ⟨c1, c2, c3, c4, c5⟩
  · go_wp2; go_ret; exact ⟨rfl, hp2 ▸ hB1.out⟩
  · go_wp2; go_ret; exact ⟨rfl, hp2 ▸ hB1.out⟩
  · go_wp2; go_ret; exact ⟨rfl, hp2 ▸ hB1.out⟩
  · go_wp2; go_ret; exact ⟨rfl, hp2 ▸ hB1.out⟩
  · go_wp2; go_ret; exact ⟨rfl, hp2 ▸ hB1.out⟩
  · obtain ⟨n, rfl⟩ : ∃ n : Nat, k = n := ⟨k.toNat, by omega⟩
    have hn : n ≤ 32 := by omega
    have hne : Hid (a.epoch ≠ b.epoch) := fun e => by rw [e] at c1; simp at c1
    go_upto_region 5 with fail
    clear c1 c2 c3
    have hputA : Hid (∀ W : World, Calls Try.prog 26 #[.agg #[.int .u64 a.epoch, .int .u32 a.start, .int .u32 a.pages, .int .u32 a.size]] W fun e w' => ∃ g, e = .returned (.slice (some ⟨g, 0, none⟩) 32 32) ∧
        Rd by1 1 w' (some ⟨g, 0, none⟩) (put a) ∧ W.heap.size ≤ g ∧ Below W.heap.size W w') := fun W => put_calls W a HA.out
    have hputB : Hid (∀ W : World, Calls Try.prog 26 #[.agg #[.int .u64 b.epoch, .int .u32 b.start, .int .u32 b.pages, .int .u32 b.size]] W fun e w' => ∃ g, e = .returned (.slice (some ⟨g, 0, none⟩) 32 32) ∧
        Rd by1 1 w' (some ⟨g, 0, none⟩) (put b) ∧ W.heap.size ≤ g ∧ Below W.heap.size W w') := fun W => put_calls W b HB.out
    have hS : Hid (∀ W, Hid (Below w1.heap.size w1 W) → (W.cell? ⟨p2, 0, none⟩ = some (.int .u64 a.epoch) ∧ W.cell? ⟨p2, 1, none⟩ = some (.int .u32 a.start) ∧ W.cell? ⟨p2, 2, none⟩ = some (.int .u32 a.pages) ∧ W.cell? ⟨p2, 3, none⟩ = some (.int .u32 a.size)) ∧
        (W.cell? ⟨p2 + 1, 0, none⟩ = some (.int .u64 b.epoch) ∧ W.cell? ⟨p2 + 1, 1, none⟩ = some (.int .u32 b.start) ∧ W.cell? ⟨p2 + 1, 2, none⟩ = some (.int .u32 b.pages) ∧ W.cell? ⟨p2 + 1, 3, none⟩ = some (.int .u32 b.size))) :=
      fun W hW => ⟨(hX1.out.below hW.out).cells, (hY1.out.below hW.out).cells⟩
    have hb0 : Hid (Below w1.heap.size w1 w1) := Below.refl _ _
    have hb1 : Hid (Below w1.heap.size w1 w1.drew) := (Below.refl _ _).drew
    go_cut [7, 8] (fun s7 s8 wx => ∃ g1 g2 : Nat, s7 = .slice (some ⟨g1, 0, none⟩) 32 32 ∧ s8 = .slice (some ⟨g2, 0, none⟩) 32 32 ∧ Hid (Rd by1 1 wx (some ⟨g1, 0, none⟩) (put a)) ∧ Hid (Rd by1 1 wx (some ⟨g2, 0, none⟩) (put b)) ∧ Hid (Below w1.heap.size w1 wx))
    case first =>
      first
      | go_region_held3 (fun W => (W.cell? ⟨p2, 0, none⟩ = some (.int .u64 a.epoch) ∧ W.cell? ⟨p2, 1, none⟩ = some (.int .u32 a.start) ∧ W.cell? ⟨p2, 2, none⟩ = some (.int .u32 a.pages) ∧ W.cell? ⟨p2, 3, none⟩ = some (.int .u32 a.size)) ∧
          (W.cell? ⟨p2 + 1, 0, none⟩ = some (.int .u64 b.epoch) ∧ W.cell? ⟨p2 + 1, 1, none⟩ = some (.int .u32 b.start) ∧ W.cell? ⟨p2 + 1, 2, none⟩ = some (.int .u32 b.pages) ∧ W.cell? ⟨p2 + 1, 3, none⟩ = some (.int .u32 b.size)))
          (first | exact hS.out _ hb0 | exact hS.out _ hb1 | exact hS.out _ hc2 | exact hS.out _ hc3)
          (first
            | (go_simp; go_at_call 26; with_reducible refine (hputA.out _).mono ?_; rintro e wa ⟨ga, rfl, ra, gA, hba⟩; have RA := Lib.hid ra; have hc2 := bl_thenH hb1 hba; clear ra hba)
            | (go_simp; go_at_call 26; with_reducible refine (hputB.out _).mono ?_; rintro e wb ⟨gb, rfl, rb, gB, hbb⟩; have RB := Lib.hid rb; have RA2 := Lib.hid (RA.out.below hbb (Nat.le_refl _)); have hc3 := bl_thenH hc2 hbb; clear rb hbb))
      | fail
      all_goals (go_wp2_with fail; go_meet; exact ⟨_, _, rfl, rfl, RA2, RB, hc3⟩)
    case rest =>
      obtain ⟨g1, g2, rfl, rfl, RA, RB, hb2⟩ := hcut
      have hX2 := Lib.hid (hX1.out.below hb2.out)
      have hY2 := Lib.hid (hY1.out.below hb2.out)
      have hB2 := Lib.hid (bl_thenP2 hp2 hB1.out hb2.out)
      clear hS hb0 hb1 hb2 hB1 hX1 hY1 x0 x1 x2 x3 y0 y1 y2 y3 hputA hputB
      have src1 : Hid (∀ W, Below wc.heap.size wc W → Src Try.prog 1 38 (.slice (some ⟨g2, 0, none⟩) n 32) ((put b).take n).length (((put b).take n).flatMap by1) W) := fun W hW => by
        have h := Rd.src (P := Try.prog) by1ok Try.underlying38 32 ((RB.out.below hW (Nat.le_refl _)).take n)
        have e : ((put b).take n).length = n := by simp [put_len]; omega
        rw [e] at h ⊢
        exact h
      have q1 : Hid ((([] : List Int).length + ((put b).take n).length) * 1 ≤ 140737488355328) := by show _ ≤ _; simp [put_len]; omega
      have q2 : Hid ((([] : List Int).length + ((put b).take n).length) ≤ 140737488355328) := by show _ ≤ _; simp [put_len]; omega
      have q3 : Hid ((([] ++ (put b).take n).length + ((put a).drop n).length) * 1 ≤ 140737488355328) := by show _ ≤ _; simp [put_len]; omega
      have q4 : Hid (([] ++ (put b).take n).length + ((put a).drop n).length ≤ 140737488355328) := by show _ ≤ _; simp [put_len]; omega
      have hz1 : Hid (wc.heap.size ≤ wc.drew.heap.size) := Nat.le_refl _
      have hb0 : Hid (Below wc.heap.size wc wc) := Below.refl _ _
      have hb1 : Hid (Below wc.heap.size wc wc.drew) := (Below.refl _ _).drew
      have HN : Hid (Own by1 1 5 wc.heap.size wc.drew (.slice none 0 0) ([] : List Int)) := Own.nil
      have hob : Hid (∀ k, (Value.slice none 0 0).ownBlock = some k → wc.heap.size ≤ k ∧ k < wc.drew.heap.size) := fun k hk => by cases hk
      go_upto_region 8 with fail
      go_cut [9] (fun s9 wx => Hid (Own by1 1 5 wc.heap.size wx s9 (torn a b n)) ∧ Hid (Below wc.heap.size wc wx))
      case first =>
        rcases Nat.lt_or_ge n 32 with h32 | h32
        · have d1 : ¬ 32 = n := by omega
          have d2 : ¬ n = 32 := by omega
          have src2 : Hid (∀ W, Below wc.heap.size wc W → Src Try.prog 1 38 (.slice (some ⟨g1, n, none⟩) (32 - n) (32 - n)) ((put a).drop n).length (((put a).drop n).flatMap by1) W) := fun W hW => by
            have h := Rd.src (P := Try.prog) by1ok Try.underlying38 (32 - n) (Rd.drop n (RA.out.below hW (Nat.le_refl _)))
            have e : ((put a).drop n).length = 32 - n := by simp [put_len]
            rw [e, Nat.mul_one, Nat.zero_add] at h
            rw [e]
            exact h
          first
          | go_region_held3 (fun W => Hid (Below wc.heap.size wc W))
              (first | exact hb0 | exact hb1 | exact hc2 | exact hc3)
              (first
                | (refine at_step rfl (op_ownS by1ok _ _ _ _ _ _ _ rfl Try.underlying38 infoU8 rfl wc.heap.size (.slice none 0 0) (.slice (some ⟨g2, 0, none⟩) n 32) [] ((put b).take n) rfl rfl HN.out (src1.out _ hb1.out) hz1.out q1.out q2.out ?_); intro v7 w7 ho7 hg7; have HO7 := Lib.hid ho7; have hc2 := bl_grownC hb1 hg7 hz1 hob; have hz7 := sz_grownC hg7 hz1; have hob7 := Lib.hid ho7.lt; clear ho7 hg7)
                | (refine at_step rfl (op_ownS by1ok _ _ _ _ _ _ _ rfl Try.underlying38 infoU8 rfl wc.heap.size v7 (.slice (some ⟨g1, n, none⟩) (32 - n) (32 - n)) ([] ++ (put b).take n) ((put a).drop n) rfl rfl HO7.out (src2.out _ hc2.out) hz7.out q3.out q4.out ?_); intro v8 w8 ho8 hg8; have HO8 := Lib.hid ho8; have hc3 := bl_grownC hc2 hg8 hz7 hob7; clear ho8 hg8))
          | fail
          all_goals (go_wp2_with fail; go_meet; exact ⟨HO8, hc3⟩)
        · obtain rfl : n = 32 := by omega
          have src2 : Hid (∀ W, Below wc.heap.size wc W → Src Try.prog 1 38 (.slice (some ⟨g1, 0, none⟩) 0 0) ((put a).drop 32).length (((put a).drop 32).flatMap by1) W) := fun W hW => by
            have e : (put a).drop 32 = [] := List.drop_of_length_le (by rw [put_len]; omega)
            rw [e]
            exact Src.ofSlice W Try.underlying38 _ 0 0 [] (by simp) (by simp) (by simp)
          first
          | go_region_held3 (fun W => Hid (Below wc.heap.size wc W))
              (first | exact hb0 | exact hb1 | exact hc2 | exact hc3)
              (first
                | (refine at_step rfl (op_ownS by1ok _ _ _ _ _ _ _ rfl Try.underlying38 infoU8 rfl wc.heap.size (.slice none 0 0) (.slice (some ⟨g2, 0, none⟩) 32 32) [] ((put b).take 32) rfl rfl HN.out (src1.out _ hb1.out) hz1.out q1.out q2.out ?_); intro v7 w7 ho7 hg7; have HO7 := Lib.hid ho7; have hc2 := bl_grownC hb1 hg7 hz1 hob; have hz7 := sz_grownC hg7 hz1; have hob7 := Lib.hid ho7.lt; clear ho7 hg7)
                | (refine at_step rfl (op_ownS by1ok _ _ _ _ _ _ _ rfl Try.underlying38 infoU8 rfl wc.heap.size v7 (.slice (some ⟨g1, 0, none⟩) 0 0) ([] ++ (put b).take 32) ((put a).drop 32) rfl rfl HO7.out (src2.out _ hc2.out) hz7.out q3.out q4.out ?_); intro v8 w8 ho8 hg8; have HO8 := Lib.hid ho8; have hc3 := bl_grownC hc2 hg8 hz7 hob7; clear ho8 hg8))
          | fail
          all_goals (go_wp2_with fail; go_meet; exact ⟨HO8, hc3⟩)
      case rest =>
        obtain ⟨HO, hb3⟩ := hcut
        have hX3 := Lib.hid (hX2.out.below hb3.out)
        have hY3 := Lib.hid (hY2.out.below hb3.out)
        have hB3 := Lib.hid (bl_thenP2 hp2 hB2.out hb3.out)
        obtain ⟨A, c, rfl, hc, _, hr, _⟩ := HO.out.rd by1ok
        have hr := Lib.hid hr
        have hby : Hid (byteL (torn a b n)) := by
          show byteL _
          intro x hx
          rcases List.mem_append.1 hx with hx | hx
          · exact put_byte b x (List.mem_of_mem_take hx)
          · exact put_byte a x (List.mem_of_mem_drop hx)
        obtain ⟨z, hz⟩ : ∃ x, ofB (torn a b n) = x := ⟨_, rfl⟩
        obtain ⟨j, hj⟩ : ∃ x, decide (isSup (torn a b n)) = x := ⟨_, rfl⟩
        have hlaw : j = false ∨ (j = true ∧ same4 z.epoch z.start z.pages z.size a.epoch a.start a.pages a.size = true) ∨ (j = true ∧ same4 z.epoch z.start z.pages z.size a.epoch a.start a.pages a.size = false ∧ same4 z.epoch z.start z.pages z.size b.epoch b.start b.pages b.size = true) := by
          by_cases h : isSup (torn a b n)
          · have hj2 : j = true := by rw [← hj]; simpa using h
            right
            by_cases e : z = a
            · left; exact ⟨hj2, (same4_iff z a).2 e⟩
            · right
              refine ⟨hj2, ?_, ?_⟩
              · cases hq : same4 z.epoch z.start z.pages z.size a.epoch a.start a.pages a.size with
                | true => exact absurd ((same4_iff z a).1 hq) e
                | false => rfl
              · refine (same4_iff z b).2 ?_
                rcases torn_law a b HA.out HB.out hne.out n hn h with k | k
                · exact absurd (hz ▸ k) e
                · exact hz ▸ k
          · left; rw [← hj]; simpa using h
        have EZ := Lib.hid hz
        have EJ := Lib.hid hj
        clear hz hj HO hX2 hY2 hB2 hb3 src1 q1 q2 q3 q4 hz1 hb0 hb1 HN hob RA RB
        go_wp2_with fail
        refine (of_calls' _ A _ c (torn a b n) rfl hc hby.out hr.out z j EZ.out EJ.out).mono ?_
        rintro e w4 ⟨rfl, hb⟩
        simp only
        go_upto_region 10 with fail
        obtain ⟨W7, hW⟩ : ∃ W, W = w4.alloc (.cells #[.int .u64 z.epoch, .int .u32 z.start, .int .u32 z.pages, .int .u32 z.size] 37) := ⟨_, rfl⟩
        rw [← hW]
        have hB7 : Hid (Below p2 w W7) := hW ▸ (bl_thenP2 hp2 hB3.out hb).alloc (hp2 ▸ (bl_thenP2 hp2 hB3.out hb).size) _
        have hX7 : Hid (SupAt W7 p2 a) := hW ▸ (hX3.out.below hb).alloc _
        have hY7 : Hid (SupAt W7 (p2 + 1) b) := hW ▸ (hY3.out.below hb).alloc _
        generalize hp9 : w4.heap.size = p9 at *
        have hU7 : Hid (SupAt W7 p9 z) := hW ▸ supAt_new w4 z _ hp9
        clear hW hb hB3 hX3 hY3
        obtain ⟨x0, x1, x2, x3⟩ := hX7.out.cells
        obtain ⟨y0, y1, y2, y3⟩ := hY7.out.cells
        obtain ⟨z0, z1, z2, z3⟩ := hU7.out.cells
        rcases hlaw with rfl | ⟨rfl, l1⟩ | ⟨rfl, l1, l2⟩
        all_goals
          go_wp2
          go_ret
          exact ⟨rfl, hp2 ▸ hB7.out⟩
theorem LawSuperTorn_row (w : World) (v u k : Value) (a b : Sup) (n : Int) (ha : SupV v a) (hb : SupV u b) (hk : IntV k n) :
    Calls Try.prog 6 #[v, u, k] w fun e w' => e = .returned (.bool true) ∧ Below w.heap.size w w' := by
  obtain ⟨rfl, ha⟩ := ha
  obtain ⟨rfl, hb⟩ := hb
  obtain ⟨rfl, _⟩ := hk
  exact LawSuperTorn_calls w a b ha hb n
end Go.Proofs.Ytglpckdmiohciaa
