/- slices.Backward over a device's cache. -/
import Derived.Test.YtglpckdmiohciaaDevCrash
import Derived.RangeFuncBox
import Derived.RangeFuncNested
import Derived.RangeFuncLeaves
import Derived.Shelf.Abstract
import Derived.OwnWalkIn
import Derived.TacticsInMore
import Derived.LoopNIn
import Derived.LoopIn
namespace Go.Proofs.Ytglpckdmiohciaa
open Go.RowKit Go.Shelf
set_option linter.unusedVariables false
set_option linter.unusedSimpArgs false
attribute [local go_sem] Oper.semAt_some
attribute [local go_sem ↓ high] fold_loadWr

def pairV (x : Nat × Wr) : Array Value := #[.int .i64 (x.1 : Int), .agg x.2.enc.toArray]
theorem rev_take (xs : List Wr) (j k : Nat) (h : j + 1 + k = xs.length) : xs.reverse.take (k + 1) = xs.reverse.take k ++ [xs[j]'(by omega)] := by
  rw [List.take_add_one, List.getElem?_eq_getElem (by simp; omega), List.getElem_reverse]
  simp only [Option.toList_some]
  congr 3
  omega

set_option maxRecDepth 100000 in
set_option maxHeartbeats 2000000 in
theorem back1_in (F : Fence) (n : Nat) (hF : F.fn 119) (hro : F.round = none) (hn : 1 ≤ n) (l Bs n₀ : Nat) (A : Option Addr) (cap : Nat) (xs : List Wr) (hBs : Bs < n₀) (hA : ∀ a, A = some a → a.block < n₀) (hbig : xs.length ≤ 9223372036854775807) (J Jx : List (Nat × Wr) → World → Prop)
    (hY : ∀ pre x W, J pre W → pre.length < xs.length → YieldAt F (n - 1) Try.prog l (pairV x) W fun e W' =>
      (e = .returned (.bool true) ∧ J (pre ++ [x]) W' ∧ Below n₀ W W') ∨ (e = .returned (.bool false) ∧ Jx (pre ++ [x]) W'))
    (W : World) (hB : W.cell? ⟨Bs, 0, none⟩ = some (.slice A xs.length cap)) (hr : Rd Wr.enc 33 W A xs) (h0 : J [] W) :
    CallsIn F n Try.prog 119 #[.func (.yield l) #[] #[], .pointer (some ⟨Bs, 0, none⟩)] W fun e W' => (∃ v, e = .returned v) ∧
      ((∃ ys, ys.map (·.2) = xs.reverse ∧ J ys W') ∨ (∃ pre, pre.map (·.2) = xs.reverse.take pre.length ∧ Jx pre W')) := by
  refine callsIn_of_wp Try.func119 rfl hF ?_ hro
  simp only [Try.ntmps119, List.size_toArray, List.length_cons, List.length_nil, Nat.reduceAdd, Nat.reduceSub, Array.replicate_succ, Array.replicate_zero, List.push_toArray, List.append_toArray, List.nil_append, List.cons_append]
  have HR := Lib.hid hr
  have HA := Lib.hid hA
  clear hr hA
  have hw : ∀ m : Nat, m ≤ xs.length → wrap64 ((m : Int) - 1) = (m : Int) - 1 := fun m hm => by unfold wrap64; omega
  have hw0 := hw xs.length (Nat.le_refl _)
  gi_wp2
  gi_loopw [3] (fun i wr => ∃ (m : Nat) (pre : List (Nat × Wr)), m + pre.length = xs.length ∧ i = .int .i64 ((m : Int) - 1) ∧ pre.map (·.2) = xs.reverse.take pre.length ∧ J pre wr ∧ Below n₀ W wr)
    (fun i _ => (intOf i + 1).toNat)
  case atStart => exact ⟨xs.length, [], by simp, rfl, by simp, h0, Below.refl _ _⟩
  case round =>
    obtain ⟨m, pre, hm, rfl, hp, hJs, hnx⟩ := hrel
    have hBx : wr.cell? ⟨Bs, 0, none⟩ = some (.slice A xs.length cap) := (hnx.cell (p := ⟨Bs, 0, none⟩) hBs).trans hB
    cases m with
    | zero =>
      gi_wp2
      go_end0
      refine ⟨⟨_, rfl⟩, .inl ⟨pre, ?_, hJs⟩⟩
      rw [hp, List.take_of_length_le (by simp; omega)]
    | succ j =>
      have hj : j < xs.length := by omega
      have hrt := rev_take xs j pre.length (by omega)
      have hx : xs[j]? = some xs[j] := List.getElem?_eq_getElem hj
      have hrw : ∃ b off, A = some ⟨b, off, none⟩ ∧ wr.rangeAt b (off + j * 33) (xs[j]).enc := by
        rcases HR.out with e | ⟨b, off, rfl, hbl, hcell⟩
        · simp [e] at hj
        · exact ⟨b, off, rfl, fun i v hv => (hnx.cell (p := ⟨b, off + j * 33 + i, none⟩) (HA.out ⟨b, off, none⟩ rfl)).trans (hcell j _ hx i v hv)⟩
      obtain ⟨b, off, rfl, hrg⟩ := hrw
      obtain ⟨fn, tmps, assign, body, hy, hR⟩ := hY pre (j, xs[j]) wr hJs (by omega)
      have hq : xs.reverse.take (pre ++ [(j, xs[j])]).length = (pre ++ [(j, xs[j])]).map (·.2) := by
        rw [List.length_append, List.length_singleton, hrt, List.map_append, hp]
        simp
      have ld := run_ldWr wr b (off + j * 33) xs[j] hrg
      simp only [pairV] at hy
      generalize xs[j] = x at *
      have i0 : (0 : Int) ≤ (j : Int) := by omega
      have i1 : (j : Int) < (xs.length : Int) := by omega
      have hwj := hw j (by omega)
      have hj1 : ((j + 1 : Nat) : Int) - 1 = (j : Int) := by omega
      rw [hj1]
      clear hrg hx hrt
      gi_wp2
      refine hR.mono ?_
      rintro e W3 (⟨rfl, hJ3, hk3⟩ | ⟨rfl, hJx3⟩)
      · gi_wp2
        go_roundw
        case rel => exact ⟨j, pre ++ [(j, x)], by simp; omega, rfl, hq.symm, hJ3, hnx.trans hk3⟩
        case measure => simp [intOf]
      · gi_wp2
        refine bodyPost_ret (results_none rfl _ _ _) rfl ?_
        exact ⟨⟨_, rfl⟩, .inr ⟨_, hq.symm, hJx3⟩⟩
set_option maxRecDepth 100000 in
set_option maxHeartbeats 1000000 in
/-- slices.Backward(s): the slice value is boxed; the function value captures the box. -/
theorem backward_in (F : Fence) (n : Nat) (hF : F.fn 114) (hro : F.round = none) (a : Option Addr) (len cap : Nat) (w : World) :
    CallsIn F n Try.prog 114 #[.slice a len cap] w fun e w' => e = .returned (.func (.func 119) #[] #[.pointer (some ⟨w.heap.size, 0, none⟩)]) ∧ w' = w.alloc (.cells #[.slice a len cap] 135) := by
  refine callsIn_of_wp Try.func114 rfl hF ?_ hro
  simp only [Try.ntmps114, List.size_toArray, List.length_cons, List.length_nil, Nat.reduceAdd, Nat.reduceSub, Array.replicate_succ, Array.replicate_zero, List.push_toArray, List.append_toArray, List.nil_append, List.cons_append]
  gi_wp2
  go_ret
  exact ⟨rfl, rfl⟩
theorem back_stops (F : Fence) (n : Nat) (hF : F.fn 119) (hro : F.round = none) (hn : 1 ≤ n) (Bs n₀ : Nat) (A : Option Addr) (cap : Nat) (xs : List Wr) (hBs : Bs < n₀) (hA : ∀ a, A = some a → a.block < n₀) (hbig : xs.length ≤ 9223372036854775807)
    (w : World) (hn₀ : n₀ ≤ w.heap.size) (hB : w.cell? ⟨Bs, 0, none⟩ = some (.slice A xs.length cap)) (hr : Rd Wr.enc 33 w A xs) :
    SeqStopsK F n Try.prog 119 #[.pointer (some ⟨Bs, 0, none⟩)] pairV (Below n₀) (fun ys => ys.map (·.2) = xs.reverse) (fun pre => pre.map (·.2) = xs.reverse.take pre.length) xs.length w := fun l J Jx W hW _ _ hY h0 =>
  back1_in F n hF hro hn l Bs n₀ A cap xs hBs hA hbig J Jx hY W ((hW.cell (p := ⟨Bs, 0, none⟩) (by show Bs < _; omega)).trans hB) (hr.below hW (Nat.le_refl _)) h0
end Go.Proofs.Ytglpckdmiohciaa
