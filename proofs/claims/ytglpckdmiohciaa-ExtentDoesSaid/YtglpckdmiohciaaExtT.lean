/- ref04.Free: Take, NewFree, Copy. -/
import Derived.Test.YtglpckdmiohciaaExtS
namespace Go.Proofs.Ytglpckdmiohciaa
open Go.RowKit
set_option linter.unusedVariables false
set_option linter.unusedSimpArgs false

/-- What Take answers. -/
def Rf.TakeR (X : Rf) (n : Int) (r : (Int × Bool) × Rf) : Prop :=
  (∃ i : Nat, X.All ⟨i, n⟩ true ∧ (∀ j : Nat, j < i → ¬ X.All ⟨j, n⟩ true) ∧ r = (((i : Int), true), X.set ⟨i, n⟩ false)) ∨ ((∀ j : Nat, ¬ X.All ⟨j, n⟩ true) ∧ r = ((0, false), X))
def RTake (G : Nat → Prop) (w w' : World) (g : Nat) (X : Rf) (n : Int) (e : Ending) : Prop := ∃ r, X.TakeR n r ∧ e = .returned (.tuple #[.int .i64 r.1.1, .bool r.1.2]) ∧ RfDid G w w' g r.2
section
variable {w : World} {g : Nat} {G : Nat → Prop} {X : Rf}
set_option maxRecDepth 100000 in
set_option maxHeartbeats 8000000 in
theorem rtake_calls (h : RfAt w g G X) (n : Int) : Calls Try.prog 60 #[.pointer (some ⟨g, 0, none⟩), .int .i64 n] w fun e w' => RTake G w w' g X n e := by
  have HH := Lib.hid h
  have hlen := h.okX.len
  have hgl := h.glt
  obtain ⟨A, c, -, c1, -, -, -, hc, -, -⟩ := h.cells
  have hC : Hid (∀ W, Below w.heap.size w W → W.cell? ⟨g, 1, none⟩ = some (.slice A X.L.length c)) := fun W hW => (hW.cell (by exact hgl)).trans c1
  have c1' := c1
  clear h c1
  go_enter Try.func60, Try.ntmps60
  go_wp2
  go_loopg [6] X.L.length (fun m i wr => ∃ (k : Nat) (W : World), i = .int .i64 k ∧ W = wr ∧ k + m = X.L.length ∧ Hid (∀ j : Nat, j < k → ¬ X.All ⟨j, n⟩ true) ∧ Hid (Below w.heap.size w W))
  case atStart => exact ⟨0, _, rfl, rfl, by omega, fun j h => by omega, Below.refl _ _⟩
  case round =>
    obtain ⟨k, wo, rfl, rfl, hk, hl, hb⟩ := hrel
    have d1 := hC.out wo hb.out
    rcases Nat.lt_or_ge k X.L.length with hlt | hge
    · have i0 : (0 : Int) ≤ (k : Int) := by omega
      have i1 : (k : Int) < (X.L.length : Int) := by omega
      have hb1 : Hid (Below w.heap.size w (wo.alloc (.cells #[.int .i64 k, .int .i64 n] 90))) := hb.out.alloc hb.out.size _
      have hall := Lib.hid (all_calls (HH.out.below hb1.out) ⟨(k : Int), n⟩ true)
      have hs1 : Hid (∀ W, Below (wo.alloc (.cells #[.int .i64 k, .int .i64 n] 90)).heap.size (wo.alloc (.cells #[.int .i64 k, .int .i64 n] 90)) W → W.cell? ⟨wo.heap.size, 0, none⟩ = some (.int .i64 k) ∧ W.cell? ⟨wo.heap.size, 1, none⟩ = some (.int .i64 n)) := fun W hW =>
        span_at (s := ⟨(k : Int), n⟩) (blk_below hW (blk_new wo (.cells (⟨(k : Int), n⟩ : Span).cells 90)) (by simp))
      go_wp2_with fail
      refine hall.out.mono ?_
      rintro e w1 ⟨rfl, b1⟩
      obtain ⟨y0, y1⟩ := hs1.out w1 b1
      have B1 : Hid (Below w.heap.size w w1) := bl_then hb1.out hb1.out.size b1
      clear b1
      rcases ha : X.all ⟨(k : Int), n⟩ true with _ | _
      · have hl' : Hid (∀ j : Nat, j < k + 1 → ¬ X.All ⟨j, n⟩ true) := fun j hj => by
          rcases Nat.lt_or_ge j k with h | h
          · exact hl.out j h
          · obtain rfl : j = k := by omega
            intro q
            rw [Rf.all_iff.2 q] at ha
            cases ha
        go_wp2
        go_roundg (gk - 1)
        case measure => omega
        case rel => exact ⟨k + 1, _, by go_num, rfl, by omega, hl'.out, B1.out⟩
      · have hA := Lib.hid (Rf.all_iff.1 ha)
        go_wp2_with fail
        refine (set_calls (HH.out.below B1.out) ⟨(k : Int), n⟩ false hA.out.1).mono ?_
        rintro e w2 ⟨rfl, hd⟩
        have HD := Lib.hid (hd.after (Below.chg B1.out G) (fun i hi => .inl hi))
        clear hd
        go_wp2
        go_ret2
        exact ⟨_, .inl ⟨k, hA.out, hl.out, rfl⟩, rfl, HD.out⟩
    · have hno : Hid (∀ j : Nat, ¬ X.All ⟨j, n⟩ true) := fun j q => by
        rcases Nat.lt_or_ge j k with h | h
        · exact hl.out j h q
        · have := q.1.2.2.1; dsimp only at this; omega
      have i1 : ¬ (k : Int) < (X.L.length : Int) := by omega
      go_wp2
      go_ret2
      exact ⟨_, .inr ⟨hno.out, rfl⟩, rfl, RfDid.of_below HH.out hb.out⟩
end
theorem infoB : (Try.prog.info? 4).map (fun i => (i.zero, i.size, i.bytes)) = some (some (.bool false), 1, 1) := by kernel_rfl
/-- A set in blocks that the call made is handed back. -/
def RFreshR (w w' : World) (X : Rf) (e : Ending) : Prop := ∃ g G, e = .returned (.pointer (some ⟨g, 0, none⟩)) ∧ RfAt w' g G X ∧ (∀ i, G i → w.heap.size ≤ i) ∧ Below w.heap.size w w'
def Rf.new (f n : Int) : Rf := ⟨max f 0, (List.range (min n 16384).toNat).map fun (i : Nat) => decide (max f 0 ≤ (i : Int))⟩
theorem RfAt.snoc {w w2 : World} {g : Nat} {G : Nat → Prop} {X : Rf} {v v' : Value} {b : Bool} (h : RfAt w g G X) (hB : w.cell? ⟨g, 1, none⟩ = some v) (ho : Own bEnc 1 4 0 w2 v' (X.L ++ [b])) (hg : w.grownBy w2 v.ownBlock) (hn : ∀ k, v'.ownBlock = some k → v.ownBlock = some k ∨ w.heap.size ≤ k) (hk : X.L.length + 1 ≤ 16384) :
    RfDid G w (w2.setCell ⟨g, 1, none⟩ v') g { X with L := X.L ++ [b] } := by
  obtain ⟨A, c, c0, c1, fz, ho0, hr, hc, hv, hb⟩ := h.cells
  rw [hB] at c1
  cases c1
  have hgl := h.glt
  have hvg : some g ≠ (Value.slice A X.L.length c).ownBlock := fun e => (hv g e.symm).1 rfl
  have hv'g : ∀ k, v'.ownBlock = some k → k ≠ g := fun k e q => by
    subst q
    rcases hn k e with q | q
    · exact hvg q.symm
    · omega
  refine h.put _ v' (blk_set' (by rw [hg.block g hgl hvg]; exact hb) 1 v' rfl) (ho.far (p := ⟨g, 1, none⟩) (fun e => hv'g g e rfl) v') (fun k e => ⟨hv'g k e, (hn k e).imp (fun q => (hv k q).2) (fun q => q)⟩) ?_ ⟨h.okX.lo0, h.okX.lo1, by simpa using hk⟩
  exact (Chg.grownO hg (fun k e => (hv k e).2)).trans (Chg.set w2 v' h.fg) (fun _ _ q => q)
end Go.Proofs.Ytglpckdmiohciaa
