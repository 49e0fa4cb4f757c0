/- slices.Backward over entries; what may change between its rounds: one block (a map). -/
import Derived.Test.YtofdmkglhjpbcaaBase
import Derived.Test.YtofdmkglhjpbcaaProg
import Derived.RangeFuncBox
import Derived.RangeFuncNested
import Derived.RangeFuncLeaves
import Derived.Shelf.Abstract
import Derived.OwnWalkIn
import Derived.TacticsInMore
import Derived.LoopNIn
import Derived.LoopIn
import Derived.RegionIn
namespace Go.Proofs.Ytofdmkglhjpbcaa
open Go.RowKit Go.Shelf
set_option linter.unusedVariables false
set_option linter.unusedSimpArgs false
attribute [local go_sem] Oper.semAt_some

def But (n₀ g : Nat) (W W' : World) : Prop := W.heap.size ≤ W'.heap.size ∧ ∀ i, i < n₀ → i ≠ g → W'.heap[i]? = W.heap[i]?
theorem But.refl (n₀ g : Nat) (W : World) : But n₀ g W W := ⟨Nat.le_refl _, fun _ _ _ => rfl⟩
theorem But.trans {n₀ g : Nat} {A B C : World} (h : But n₀ g A B) (k : But n₀ g B C) : But n₀ g A C := ⟨Nat.le_trans h.1 k.1, fun i hi hg => (k.2 i hi hg).trans (h.2 i hi hg)⟩
theorem But.below {n₀ g : Nat} {A B : World} (h : Below n₀ A B) : But n₀ g A B := ⟨h.size, fun i hi _ => h.block i hi⟩
theorem But.grown {n₀ g : Nat} {A B : World} (h : A.grownBy B (some g)) (hn : n₀ ≤ A.heap.size) : But n₀ g A B := ⟨h.size, fun i hi hg => h.block i (by omega) (fun e => hg (by injection e))⟩
theorem But.cell {n₀ g : Nat} {A B : World} (h : But n₀ g A B) {p : Addr} (hp : p.block < n₀) (hg : p.block ≠ g) : B.cell? p = A.cell? p := World.cell?_of_block (h.2 _ hp hg)
theorem Rd.but {α : Type} {enc : α → List Value} {sz n₀ g : Nat} {w w' : World} {A : Option Addr} {xs : List α} (h : Rd enc sz w A xs) (hb : But n₀ g w w') (hA : xs ≠ [] → ∀ a, A = some a → a.block < n₀ ∧ a.block ≠ g) : Rd enc sz w' A xs := by
  by_cases hx : xs = []
  · exact .inl hx
  rcases h with h | ⟨b, off, rfl, hlt, hc⟩
  · exact .inl h
  · obtain ⟨h1, h2⟩ := hA hx _ rfl
    exact .inr ⟨b, off, rfl, Nat.lt_of_lt_of_le hlt hb.1, fun k x hx j v hv => (hb.cell (p := ⟨b, off + k * sz + j, none⟩) h1 h2).trans (hc k x hx j v hv)⟩
abbrev InL (xs : List Entry) := { x : Entry // x ∈ xs }
def pairE {xs : List Entry} (x : Nat × InL xs) : Array Value := #[.int .i64 (x.1 : Int), .agg #[.string x.2.1.key, .string x.2.1.val]]
theorem rev_takeE (xs : List Entry) (j k : Nat) (h : j + 1 + k = xs.length) : xs.reverse.take (k + 1) = xs.reverse.take k ++ [xs[j]'(by omega)] := by
  rw [List.take_add_one, List.getElem?_eq_getElem (by simp; omega), List.getElem_reverse]
  simp only [Option.toList_some]
  congr 3
  omega

set_option maxRecDepth 100000 in
set_option maxHeartbeats 2000000 in
theorem back1E_in (F : Fence) (n : Nat) (hF : F.fn 109) (hro : F.round = none) (hn : 1 ≤ n) (l Bs n₀ g : Nat) (A : Option Addr) (cap : Nat) (xs : List Entry) (hBs : Bs < n₀) (hBg : Bs ≠ g) (hA : xs ≠ [] → ∀ a, A = some a → a.block < n₀ ∧ a.block ≠ g) (hbig : xs.length ≤ 9223372036854775807) (J Jx : List (Nat × InL xs) → World → Prop)
    (hY : ∀ pre x W, J pre W → pre.length < xs.length → YieldAt F (n - 1) Try.prog l (pairE x) W fun e W' =>
      (e = .returned (.bool true) ∧ J (pre ++ [x]) W' ∧ But n₀ g W W') ∨ (e = .returned (.bool false) ∧ Jx (pre ++ [x]) W'))
    (W : World) (hB : W.cell? ⟨Bs, 0, none⟩ = some (.slice A xs.length cap)) (hr : Rd Entry.enc 2 W A xs) (h0 : J [] W) :
    CallsIn F n Try.prog 109 #[.func (.yield l) #[] #[], .pointer (some ⟨Bs, 0, none⟩)] W fun e W' => (∃ v, e = .returned v) ∧
      ((∃ ys, ys.map (·.2.1) = xs.reverse ∧ J ys W') ∨ (∃ pre, pre.map (·.2.1) = xs.reverse.take pre.length ∧ Jx pre W')) := by
  refine callsIn_of_wp Try.func109 rfl hF ?_ hro
  simp only [Try.ntmps109, List.size_toArray, List.length_cons, List.length_nil, Nat.reduceAdd, Nat.reduceSub, Array.replicate_succ, Array.replicate_zero, List.push_toArray, List.append_toArray, List.nil_append, List.cons_append]
  have HR := Lib.hid hr
  have HA := Lib.hid hA
  clear hr hA
  have hw : ∀ m : Nat, m ≤ xs.length → wrap64 ((m : Int) - 1) = (m : Int) - 1 := fun m hm => by unfold wrap64; omega
  have hw0 := hw xs.length (Nat.le_refl _)
  gi_wp2
  gi_loopw [3] (fun i wr => ∃ (m : Nat) (pre : List (Nat × InL xs)), m + pre.length = xs.length ∧ i = .int .i64 ((m : Int) - 1) ∧ pre.map (·.2.1) = xs.reverse.take pre.length ∧ J pre wr ∧ But n₀ g W wr)
    (fun i _ => (intOf i + 1).toNat)
  case atStart => exact ⟨xs.length, [], by simp, rfl, by simp, h0, But.refl _ _ _⟩
  case round =>
    obtain ⟨m, pre, hm, rfl, hp, hJs, hnx⟩ := hrel
    have hBx : wr.cell? ⟨Bs, 0, none⟩ = some (.slice A xs.length cap) := (hnx.cell (p := ⟨Bs, 0, none⟩) hBs hBg).trans hB
    cases m with
    | zero =>
      gi_wp2
      go_end0
      refine ⟨⟨_, rfl⟩, .inl ⟨pre, ?_, hJs⟩⟩
      rw [hp, List.take_of_length_le (by simp; omega)]
    | succ j =>
      have hj : j < xs.length := by omega
      have hrt := rev_takeE xs j pre.length (by omega)
      have hx : xs[j]? = some xs[j] := List.getElem?_eq_getElem hj
      have hrw : ∃ b off, A = some ⟨b, off, none⟩ ∧ wr.cell? ⟨b, off + j * 2, none⟩ = some (.string (xs[j]).key) ∧ wr.cell? ⟨b, off + j * 2 + 1, none⟩ = some (.string (xs[j]).val) := by
        rcases HR.out.but hnx HA.out with e | ⟨b, off, rfl, hbl, hcell⟩
        · simp [e] at hj
        · exact ⟨b, off, rfl, hcell j _ hx 0 _ rfl, hcell j _ hx 1 _ rfl⟩
      obtain ⟨b, off, rfl, g0, g1⟩ := hrw
      obtain ⟨x, hxe⟩ : ∃ x : InL xs, x.1 = xs[j] := ⟨⟨xs[j], List.getElem_mem _⟩, rfl⟩
      obtain ⟨fn, tmps, assign, body, hy, hR⟩ := hY pre (j, x) wr hJs (by omega)
      have hq : xs.reverse.take (pre ++ [(j, x)]).length = (pre ++ [(j, x)]).map (·.2.1) := by
        rw [List.length_append, List.length_singleton, hrt, List.map_append, hp, ← hxe]
        simp
      simp only [pairE] at hy
      rw [← hxe] at g0 g1
      have i0 : (0 : Int) ≤ (j : Int) := by omega
      have i1 : (j : Int) < (xs.length : Int) := by omega
      have hwj := hw j (by omega)
      have hj1 : ((j + 1 : Nat) : Int) - 1 = (j : Int) := by omega
      rw [hj1]
      clear hx hrt hxe
      gi_wp2
      refine hR.mono ?_
      rintro e W3 (⟨rfl, hJ3, hk3⟩ | ⟨rfl, hJx3⟩)
      · gi_wp2
        go_roundw
        case rel => exact ⟨j, pre ++ [(j, x)], by simp; omega, rfl, hq.symm, hJ3, hnx.trans hk3⟩
        case measure => simp [intOf]
      · gi_wp2
        refine bodyPost_ret (results_none rfl _ _ _) rfl ?_
        exact ⟨⟨_, rfl⟩, .inr ⟨_, hq.symm, hJx3⟩⟩
set_option maxRecDepth 100000 in
set_option maxHeartbeats 1000000 in
/-- slices.Backward(s): the slice value is boxed; the function value captures the box. -/
theorem backwardE_in (F : Fence) (n : Nat) (hF : F.fn 84) (hro : F.round = none) (a : Option Addr) (len cap : Nat) (w : World) :
    CallsIn F n Try.prog 84 #[.slice a len cap] w fun e w' => e = .returned (.func (.func 109) #[] #[.pointer (some ⟨w.heap.size, 0, none⟩)]) ∧ w' = w.alloc (.cells #[.slice a len cap] 22) := by
  refine callsIn_of_wp Try.func84 rfl hF ?_ hro
  simp only [Try.ntmps84, List.size_toArray, List.length_cons, List.length_nil, Nat.reduceAdd, Nat.reduceSub, Array.replicate_succ, Array.replicate_zero, List.push_toArray, List.append_toArray, List.nil_append, List.cons_append]
  gi_wp2
  go_ret
  exact ⟨rfl, rfl⟩
theorem backE_stops (F : Fence) (n : Nat) (hF : F.fn 109) (hro : F.round = none) (hn : 1 ≤ n) (Bs n₀ g : Nat) (A : Option Addr) (cap : Nat) (xs : List Entry) (hBs : Bs < n₀) (hBg : Bs ≠ g) (hA : xs ≠ [] → ∀ a, A = some a → a.block < n₀ ∧ a.block ≠ g) (hbig : xs.length ≤ 9223372036854775807)
    (w : World) (hn₀ : n₀ ≤ w.heap.size) (hB : w.cell? ⟨Bs, 0, none⟩ = some (.slice A xs.length cap)) (hr : Rd Entry.enc 2 w A xs) :
    SeqStopsK F n Try.prog 109 #[.pointer (some ⟨Bs, 0, none⟩)] (@pairE xs) (But n₀ g) (fun (ys : List (Nat × InL xs)) => ys.map (·.2.1) = xs.reverse) (fun (pre : List (Nat × InL xs)) => pre.map (·.2.1) = xs.reverse.take pre.length) xs.length w := fun l J Jx W hW _ _ hY h0 =>
  back1E_in F n hF hro hn l Bs n₀ g A cap xs hBs hBg hA hbig J Jx hY W ((hW.cell (p := ⟨Bs, 0, none⟩) (by show Bs < _; omega)).trans hB) (hr.below hW (Nat.le_refl _)) h0
end Go.Proofs.Ytofdmkglhjpbcaa
