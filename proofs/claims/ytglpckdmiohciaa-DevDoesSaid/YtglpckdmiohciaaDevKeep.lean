/- The device's function keep. -/
import Derived.Test.YtglpckdmiohciaaDevK
import Derived.Deep.DeepCutAuto
namespace Go.Proofs.Ytglpckdmiohciaa
open Go.RowKit
set_option linter.unusedVariables false
set_option linter.unusedSimpArgs false

attribute [local go_sem ↓ high] fold_lkKept fold_upKept fold_dlKept fold_storeSec fold_loadSec fold_cpBy fold_bldSec
attribute [local go_sem] run_bldSec0
attribute [local go_sem high] eqSec
section
variable {w : World} {g : Nat} {F : Nat → Prop} {D : Dv}
set_option maxRecDepth 100000 in
set_option maxHeartbeats 4000000 in
theorem keep_calls (h : DevAt w g F D) (x : Wr) (n : Nat) (hn : n ≤ 32) :
    Calls Try.prog 88 #[.pointer (some ⟨g, 0, none⟩), .agg x.enc.toArray, .int .i64 n] w fun e w' => e = .returned (.tuple #[]) ∧ Did F w w' g { D with kept := keepL D.kept x n } ∧ Kept w w' := by
  obtain ⟨km, bm, A, c, -, c1, -, -, -, -, -, -, hk, -, -, -, -⟩ := h.cells
  have hgl := h.glt
  have HD := Lib.hid h
  have HK := Lib.hid hk
  have HC := Lib.hid c1
  obtain ⟨W1, hW1⟩ : ∃ W, W = w.alloc (.cells x.enc.toArray 141) := ⟨_, rfl⟩
  have hb1 : Below w.heap.size w W1 := hW1 ▸ (Below.refl _ w).alloc (Nat.le_refl _) _
  have hx1 : W1.heap[w.heap.size]? = some (.cells x.enc.toArray 141 (0, 0)) := hW1 ▸ blk_new w _
  have hs1 : W1.heap.size = w.heap.size + 1 := by rw [hW1]; simp
  have k1 : W1.cell? ⟨g, 1, none⟩ = some (.map (some km)) := (hb1.cell (by exact hgl)).trans c1
  have k2 : W1.cell? ⟨w.heap.size, 0, none⟩ = some (.int .i64 x.pos) := by rw [blk_cell hx1]; rfl
  obtain ⟨r, hr⟩ : ∃ r, r = (look D.kept x.pos).getD sec0 := ⟨_, rfl⟩
  have lk1 := run_lkKept (hk.below (hb1.drew) hk.lt) x.pos
  rw [← hr] at lk1
  have HB1 := Lib.hid hb1
  have HX1 := Lib.hid hx1
  have HR := Lib.hid hr
  clear h hk c1 hb1 hx1 hr
  go_enter Try.func88, Try.ntmps88
  go_upto_region 1 with fail
  rw [← hW1]
  clear hW1
  have lk2 : ∀ c0, (lkKept (.map (some km)) (.int .i64 x.pos)).run Try.prog (W1.alloc (.cells c0 139)).drew = .ok (.agg (secCells r).toArray) (W1.alloc (.cells c0 139)).drew := fun c0 => by
    have := run_lkKept (HK.out.below (HB1.out.alloc (HB1.out).size (.cells c0 139)).drew HK.out.lt) x.pos
    rwa [← HR.out] at this
  have st1 : ∀ c0 : Array Value, c0.size = 32 → (stSec (.pointer (some ⟨w.heap.size + 1, 0, none⟩)) (.agg (secCells r).toArray)).run Try.prog (W1.alloc (.cells c0 139)).drew = .ok () (W1.alloc (.cells (secCells r).toArray 139)).drew := fun c0 hc => by
    have := run_stSec_new W1.drew c0 hc r
    rwa [show W1.drew.heap.size = w.heap.size + 1 from hs1] at this
  have k3 : ∀ o, (W1.alloc o).cell? ⟨g, 1, none⟩ = some (.map (some km)) := fun o => ((bl_alloc (Below.refl _ W1) o).cell (by show g < _; omega)).trans k1
  have k4 : ∀ o, (W1.alloc o).cell? ⟨w.heap.size, 0, none⟩ = some (.int .i64 x.pos) := fun o => ((bl_alloc (Below.refl _ W1) o).cell (by show w.heap.size < _; omega)).trans k2
  go_cut [6] (fun s6 wx => s6 = .pointer (some ⟨w.heap.size + 1, 0, none⟩) ∧ wx = (W1.alloc (.cells (secCells r).toArray 139)).drew)
  case first =>
    go_region_law (fail)
    all_goals (go_wp2_with fail; go_meet; exact ⟨rfl, rfl⟩)
  case rest =>
    obtain ⟨rfl, rfl⟩ := hcut
    clear lk1 lk2 st1 k3 k4
    obtain ⟨W2, hW2⟩ : ∃ W, W = (W1.alloc (.cells (secCells r).toArray 139)).drew := ⟨_, rfl⟩
    rw [← hW2]
    have hb12 : Below W1.heap.size W1 W2 := hW2 ▸ (bl_alloc (Below.refl _ W1) _).drew
    have h62 : W2.heap[w.heap.size + 1]? = some (.cells (secCells r).toArray 139 (0, 0)) := by
      rw [hW2, ← hs1]
      exact blk_drew (blk_new W1 _)
    clear hW2
    have hx2 := blk_below hb12 HX1.out (by omega)
    have hb2 : Below w.heap.size w W2 := bl_then HB1.out HB1.out.size hb12
    obtain ⟨W3, cp, h63, hg3⟩ := run_copy_sec (w := W2.drew) n hn (blk_drew h62) (blk_drew hx2) 3
    have hB3 : Below w.heap.size w W3 := hb2.drew.grown hg3 hb2.size (fun k e => by cases e; omega)
    have HG := Lib.hid hg3
    clear hg3
    have i0 : (0 : Int) ≤ (n : Int) := by omega
    have i1 : (n : Int) ≤ 32 := by omega
    go_upto_region 2 with fail
    go_cut [6] (fun s6 wx => s6 = .pointer (some ⟨w.heap.size + 1, 0, none⟩) ∧ wx = W3)
    case first =>
      go_region_law (fail)
      all_goals (go_wp2_with fail; go_meet; exact ⟨rfl, rfl⟩)
    case rest =>
      obtain ⟨rfl, hwx⟩ := hcut
      have hwx' := hwx.symm
      clear hwx
      subst hwx'
      have ld3 := run_ldSec W3 (w.heap.size + 1) 0 (overS n x.b r) (range_blk h63 (fun j v hv => by rw [Nat.zero_add, List.getElem?_toArray]; exact hv))
      have hx3 : W3.heap[w.heap.size]? = some (.cells x.enc.toArray 141 (0, 0)) := by
        rw [HG.out.block w.heap.size (blk_lt hx2) (by simp)]
        exact hx2
      have k5 : W3.cell? ⟨g, 1, none⟩ = some (.map (some km)) := (hB3.cell (by exact hgl)).trans HC.out
      have k6 : W3.cell? ⟨w.heap.size, 0, none⟩ = some (.int .i64 x.pos) := by rw [blk_cell hx3]; rfl
      have hkeep : Hid (keepL D.kept x n = if overS n x.b r = sec0 then del D.kept x.pos else upd D.kept x.pos (overS n x.b r)) := by
        show _ = _
        rw [HR.out]
        rfl
      rcases (Decidable.em (overS n x.b r = sec0)) with hz | hz
      · obtain ⟨W4, dl, hm4, hg4⟩ := run_dlKept (w := W3.drew) (HK.out.below hB3.drew HK.out.lt) x.pos 0
        have hfin : Hid (Did F w W4 g { D with kept := keepL D.kept x n }) := by
          show Did _ _ _ _ _
          rw [hkeep.out, if_pos hz]
          exact HD.out.keptPut HC.out hB3.drew hm4 hg4
        have hkp : Hid (Kept w W4) := kept_map HK.out hB3.drew hg4
        clear hm4 hg4 h63 hx3 hkeep hx2 h62
        go_wp2_with fail
        go_region_law (fail)
        all_goals
          go_wp2
          refine bodyPost_ret (results_none rfl _ _ _) rfl ?_
          exact ⟨rfl, hfin.out, hkp.out⟩
      · obtain ⟨W4, up, hm4, hg4⟩ := run_upKept (w := W3.drew) (HK.out.below hB3.drew HK.out.lt) x.pos (overS n x.b r)
        have hfin : Hid (Did F w W4 g { D with kept := keepL D.kept x n }) := by
          show Did _ _ _ _ _
          rw [hkeep.out, if_neg hz]
          exact HD.out.keptPut HC.out hB3.drew hm4 hg4
        have hkp : Hid (Kept w W4) := kept_map HK.out hB3.drew hg4
        have ld4 := run_ldSec W3.drew (w.heap.size + 1) 0 (overS n x.b r) (range_blk (blk_drew h63) (fun j v hv => by rw [Nat.zero_add, List.getElem?_toArray]; exact hv))
        clear hm4 hg4 h63 hx3 hkeep hx2 h62
        go_wp2_with fail
        go_region_law (fail)
        all_goals
          go_wp2
          go_end0
          exact ⟨rfl, hfin.out, hkp.out⟩
end
end Go.Proofs.Ytglpckdmiohciaa
