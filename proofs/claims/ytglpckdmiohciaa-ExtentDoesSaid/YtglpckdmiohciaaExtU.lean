/- ref04.NewFree, Copy. -/
import Derived.Test.YtglpckdmiohciaaExtT
import Derived.Deep.DeepCutAuto
namespace Go.Proofs.Ytglpckdmiohciaa
open Go.RowKit
set_option linter.unusedVariables false
set_option linter.unusedSimpArgs false

def marks (lo : Int) (k : Nat) : List Bool := (List.range k).map fun (i : Nat) => decide (lo ≤ (i : Int))
theorem marks_succ (lo : Int) (k : Nat) : marks lo (k + 1) = marks lo k ++ [decide (lo ≤ (k : Int))] := by unfold marks; rw [List.range_succ, List.map_append]; rfl
theorem marks_len (lo : Int) (k : Nat) : (marks lo k).length = k := by simp [marks]
/-- While it is made. -/
def RfN (w W : World) (g : Nat) (X : Rf) : Prop := ∃ G, RfAt W g G X ∧ (∀ i, G i → w.heap.size ≤ i) ∧ Below w.heap.size w W
theorem RfN.step {w W W2 : World} {g : Nat} {X X' : Rf} (h : RfN w W g X) (hs : ∀ G, RfAt W g G X → RfDid G W W2 g X') : RfN w W2 g X' := by
  obtain ⟨G, a, b, c⟩ := h
  obtain ⟨G', k1, k2, k3⟩ := hs G a
  exact ⟨G', k1, fun i hi => (k3 i hi).elim (b i) (fun q => Nat.le_trans c.size q), c.trans (k2.below c.size b)⟩
set_option maxRecDepth 100000 in
set_option maxHeartbeats 8000000 in
theorem newFree_calls (w : World) (f n : Int) (hf : -9223372036854775808 ≤ f ∧ f ≤ 9223372036854775807) (hn : -9223372036854775808 ≤ n ∧ n ≤ 9223372036854775807) :
    Calls Try.prog 59 #[.int .i64 f, .int .i64 n] w fun e w' => RFreshR w w' (Rf.new f n) e := by
  have hnew : Hid (Rf.new f n = ⟨max f 0, marks (max f 0) (min n 16384).toNat⟩) := rfl
  go_enter Try.func59, Try.ntmps59
  go_upto_if 8 with (fail)
  go_cut [0] (fun s0 wx => s0 = .int .i64 (max f 0) ∧ wx = w)
  case first =>
    rcases (Decidable.em (f < 0)) with h1 | h1
    · have e : Hid (max f 0 = 0) := by show _ = _; omega
      go_wp2_with fail
      go_meet
      exact ⟨by rw [e.out], rfl⟩
    · have e : Hid (max f 0 = f) := by show _ = _; omega
      go_wp2_with fail
      go_meet
      exact ⟨by rw [e.out], rfl⟩
  case rest =>
    obtain ⟨rfl, rfl⟩ := hcut
    go_upto_if 10 with (fail)
    go_cut [1] (fun s1 wx => s1 = .int .i64 (min n 16384) ∧ wx = wc)
    case first =>
      rcases (Decidable.em ((16384 : Int) < n)) with h1 | h1
      · have e : Hid (min n 16384 = 16384) := by show _ = _; omega
        go_wp2_with fail
        go_meet
        exact ⟨by rw [e.out], rfl⟩
      · have e : Hid (min n 16384 = n) := by show _ = _; omega
        go_wp2_with fail
        go_meet
        exact ⟨by rw [e.out], rfl⟩
    case rest =>
      obtain ⟨rfl, rfl⟩ := hcut
      obtain ⟨w0, rfl⟩ : ∃ w0 : World, w0 = wc := ⟨_, rfl⟩
      have b1 : 0 ≤ max f 0 := by omega
      have b1' : max f 0 ≤ 9223372036854775807 := by omega
      have b2 : min n 16384 ≤ 16384 := by omega
      have b3 : -9223372036854775808 ≤ min n 16384 := by omega
      generalize max f 0 = lo at *
      generalize min n 16384 = hi at *
      clear hf hn
      have h0 : Hid (RfN w0 (w0.alloc (.cells #[.int .i64 lo, .slice none 0 0] 159)) w0.heap.size ⟨lo, marks lo 0⟩) :=
        ⟨fun i => i = w0.heap.size, ⟨_, blk_new w0 _, Own.nil, (fun k e => by cases e), rfl, (fun i hi => by subst hi; simp), ⟨b1, b1', by simp [marks]⟩⟩, fun i hi => by omega, bl_alloc (Below.refl _ w0) _⟩
      have t1 : Hid ((Value.bool false).cells.size = 1) := rfl
      go_wp2
      go_loopg [6] hi.toNat (fun m i wr => ∃ (k : Nat) (W : World), i = .int .i64 k ∧ W = wr ∧ k + m = hi.toNat ∧ Hid (RfN w0 W w0.heap.size ⟨lo, marks lo k⟩))
      case atStart => exact ⟨0, _, rfl, rfl, by omega, h0.out⟩
      case round =>
        obtain ⟨k, wo, rfl, rfl, hk, hN⟩ := hrel
        rcases Nat.lt_or_ge k hi.toNat with hlt | hge
        · have i1 : (k : Int) < hi := by omega
          have hml := marks_len lo k
          obtain ⟨A, c, d0, d1, d2, d3⟩ : ∃ A c, wo.cell? ⟨w0.heap.size, 1, none⟩ = some (.slice A k c) ∧ wo.frozen? ⟨w0.heap.size, 1, none⟩ = false ∧ Hid (Own bEnc 1 4 0 wo (.slice A k c) (marks lo k)) ∧ Hid (w0.heap.size < wo.heap.size ∧ (Value.slice A k c).ownBlock ≠ some w0.heap.size) := by
            obtain ⟨G, a, _, _⟩ := hN.out
            obtain ⟨A, c, c0, c1, fz, ho, hr, hc, hv, hb⟩ := a.cells
            dsimp only at c1 ho hv
            rw [hml] at c1 ho hv
            exact ⟨A, c, c1, fz 1, ho, a.glt, fun e => (hv _ e).1 rfl⟩
          have hsn : Hid (∀ (b : Bool) (w2 : World) (v' : Value), Own bEnc 1 4 0 w2 v' (marks lo k ++ [b]) → (wo.alloc (.cells #[.bool b] 4)).grownBy w2 (Value.slice A k c).ownBlock → (∀ j, v'.ownBlock = some j → (Value.slice A k c).ownBlock = some j ∨ (wo.alloc (.cells #[.bool b] 4)).heap.size ≤ j) → RfN w0 (w2.setCell ⟨w0.heap.size, 1, none⟩ v') w0.heap.size ⟨lo, marks lo k ++ [b]⟩) := fun b w2 v' h1 h2 h3 =>
            hN.out.step fun G a => by
              have a1 := a.alloc (.cells #[.bool b] 4)
              have hcell : (wo.alloc (.cells #[.bool b] 4)).cell? ⟨w0.heap.size, 1, none⟩ = some (.slice A k c) := ((bl_alloc (Below.refl _ wo) _).cell (by exact d3.out.1)).trans d0
              exact (a1.snoc hcell h1 h2 h3 (by dsimp only; rw [hml]; omega)).after (Chg.alloc wo _ G) (fun i hi => .inl hi)
          have hcl : Hid (∀ (b : Bool) (w2 : World), (wo.alloc (.cells #[.bool b] 4)).grownBy w2 (Value.slice A k c).ownBlock → w2.cell? ⟨w0.heap.size, 1, none⟩ = some (.slice A k c) ∧ w2.frozen? ⟨w0.heap.size, 1, none⟩ = false) := fun b w2 hg => by
            have hne : some w0.heap.size ≠ (Value.slice A k c).ownBlock := fun e => d3.out.2 e.symm
            have hlt' : w0.heap.size < (wo.alloc (.cells #[.bool b] 4)).heap.size := by have := d3.out.1; simp; omega
            have hb := (bl_alloc (Below.refl _ wo) (.cells #[.bool b] 4))
            exact ⟨(World.cell?_of_block (a := ⟨w0.heap.size, 1, none⟩) (hg.block _ hlt' hne)).trans ((hb.cell (by exact d3.out.1)).trans d0), (World.frozen?_of_block (a := ⟨w0.heap.size, 1, none⟩) (hg.block _ hlt' hne)).trans ((hb.frozen (by exact d3.out.1)).trans d1)⟩
          have d4 := d3.out.1
          have nn : Hid ([decide (lo ≤ (k : Int))] ≠ []) := by show _ ≠ _; simp
          have q1 : Hid ((marks lo k).length + 1 ≤ 140737488355328) := by show _ ≤ _; omega
          have q2 : Hid (((marks lo k).length + 1) * 1 ≤ 140737488355328) := by show _ ≤ _; omega
          have hms : Hid (marks lo (k + 1) = marks lo k ++ [decide (lo ≤ (k : Int))]) := marks_succ lo k
          obtain ⟨bb, hbb⟩ : ∃ bb : Bool, bb = decide (lo ≤ (k : Int)) := ⟨_, rfl⟩
          rw [← hbb] at nn hms
          have hbb2 : decide (lo ≤ (k : Int)) = bb := hbb.symm
          clear hbb hml
          have hOw := Lib.hid (show Own bEnc 1 4 0 (wo.alloc (.cells #[.bool bb] 4)) (.slice A k c) (marks lo k) from d2.out.alloc _)
          go_wp2_with (at_builtin; refine at_list rfl (fun K hK => op_ownN bOk _ _ _ _ _ _ rfl Try.underlying45 infoB t1.out 0 (.slice A k c) (marks lo k) (some ⟨wo.heap.size, 0, none⟩) 1 [bb] 1 rfl nn.out rfl rfl hOw.out (Rd.lit (blk_new wo _) rfl) (Nat.zero_le _) q2.out q1.out (fun g7 cap w7 ho7 hg7 hat7 hlt7 => hK _ _ ?_)); obtain ⟨e1, e2⟩ := hcl.out bb w7 hg7; have hF := Lib.hid (hsn.out bb w7 _ ho7 hg7 (fun q e => by cases e; exact hat7)))
          rw [← hms.out] at hF
          clear ho7 hg7 hat7 d0 d1
          go_wp2
          go_roundg (gk - 1)
          case measure => omega
          case rel => exact ⟨k + 1, _, by go_num, rfl, by omega, by first | exact hF.out | (have := hF.out; rwa [marks_len] at this)⟩
        · have hke : k = hi.toNat := by omega
          have i1 : ¬ (k : Int) < hi := by omega
          have hN' : Hid (RfN w0 wo w0.heap.size ⟨lo, marks lo hi.toNat⟩) := by have := hN.out; rw [hke] at this; exact this
          go_wp2
          go_ret
          rw [hnew.out]
          obtain ⟨G, a, b, c⟩ := hN'.out
          exact ⟨_, G, rfl, a, b, c⟩
end Go.Proofs.Ytglpckdmiohciaa
