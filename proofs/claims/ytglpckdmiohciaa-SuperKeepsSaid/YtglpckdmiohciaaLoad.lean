/- super.Load -/
import Derived.Test.YtglpckdmiohciaaSave
namespace Go.Proofs.Ytglpckdmiohciaa
open Go.RowKit
set_option linter.unusedVariables false
set_option linter.unusedSimpArgs false

def loadStep (D : Dv) (out : Sup) (i : Int) : Sup := if isSup (D.readB i) ∧ out.epoch < (ofB (D.readB i)).epoch then ofB (D.readB i) else out
def outAt (D : Dv) : Nat → Sup
  | 0 => zeroSup
  | k + 1 => loadStep D (outAt D k) k
def loadR (D : Dv) : Sup × Int := if D.readE 0 ≠ 0 then (zeroSup, D.readE 0) else if D.readE 1 ≠ 0 then (zeroSup, D.readE 1) else if (outAt D 2).epoch = 0 then (zeroSup, 50) else (outAt D 2, 0)
theorem readB_byte (D : Dv) (p : Int) : byteL (D.readB p) := by
  unfold Dv.readB
  split
  · exact (D.now p).2.2
  · intro x hx; cases hx
theorem SupAt.froz {w : World} {p : Nat} {x : Sup} (h : SupAt w p x) (i : Nat) : w.frozen? ⟨p, i, none⟩ = false := blk_free h.1 i
theorem SupAt.put4 {w : World} {p : Nat} {x : Sup} (h : SupAt w p x) (y : Sup) : SupAt ((((w.setCell ⟨p, 0, none⟩ (.int .u64 y.epoch)).setCell ⟨p, 1, none⟩ (.int .u32 y.start)).setCell ⟨p, 2, none⟩ (.int .u32 y.pages)).setCell ⟨p, 3, none⟩ (.int .u32 y.size)) p y :=
  ⟨blk_set' (blk_set' (blk_set' (blk_set' h.1 0 _ rfl) 1 _ rfl) 2 _ rfl) 3 _ rfl, by have := h.2; simpa [World.setCell] using this⟩
theorem SupAt.far {w : World} {p q : Nat} {x : Sup} (h : SupAt w p x) (hne : p ≠ q) (i : Nat) (v : Value) : SupAt (w.setCell ⟨q, i, none⟩ v) p x := ⟨blk_far h.1 hne v, by have := h.2; simpa [World.setCell] using this⟩
theorem bl_put4 {B p : Nat} {w W : World} (h : Below B w W) (hp : B ≤ p) (a b c d : Value) : Below B w ((((W.setCell ⟨p, 0, none⟩ a).setCell ⟨p, 1, none⟩ b).setCell ⟨p, 2, none⟩ c).setCell ⟨p, 3, none⟩ d) := bl_set (bl_set (bl_set (bl_set h hp _) hp _) hp _) hp _
theorem supAt_row {w : World} {p : Nat} {x : Sup} (h : SupAt w p x) : rowOf w p = some #[.int .u64 x.epoch, .int .u32 x.start, .int .u32 x.pages, .int .u32 x.size] := rowOf_blk h.1
section
variable {w : World} {g : Nat} {F : Nat → Prop} {D : Dv}
set_option maxRecDepth 100000 in
set_option maxHeartbeats 4000000 in
theorem load_calls (h : DevAt w g F D) : Calls Try.prog 50 #[.pointer (some ⟨g, 0, none⟩)] w fun e w' => e = .returned (.tuple #[supV (loadR D).1, .int .i64 (loadR D).2]) ∧ Below w.heap.size w w' := by
  have HD := Lib.hid h
  clear h
  go_enter Try.func50, Try.ntmps50
  go_upto_region 2 with fail
  obtain ⟨W1, hW1⟩ : ∃ W, W = (w.alloc (.cells #[.int .u64 0, .int .u32 0, .int .u32 0, .int .u32 0] 37)).alloc (.cells #[.int .u64 0, .int .u32 0, .int .u32 0, .int .u32 0] 37) := ⟨_, rfl⟩
  rw [← hW1]
  have hb1 : Below w.heap.size w W1 := hW1 ▸ bl_alloc (bl_alloc (Below.refl _ w) _) _
  have hx0 : SupAt W1 w.heap.size zeroSup := hW1 ▸ (supAt_new w zeroSup _ rfl).alloc _
  have hx1 : SupAt W1 (w.heap.size + 1) zeroSup := hW1 ▸ supAt_new (w.alloc (.cells #[.int .u64 0, .int .u32 0, .int .u32 0, .int .u32 0] 37)) zeroSup _ (by simp)
  clear hW1
  go_wp2
  go_loopg [10] 2 (fun m i wr => ∃ k : Nat, i = .int .i64 k ∧ k + m = 2 ∧ Hid (Below w.heap.size w wr) ∧ Hid (SupAt wr w.heap.size zeroSup) ∧ Hid (SupAt wr (w.heap.size + 1) (outAt D k)) ∧ Hid (∀ j : Nat, j < k → D.readE j = 0))
  case atStart => exact ⟨0, rfl, rfl, hb1, hx0, hx1, fun j hj => by omega⟩
  case round =>
    obtain ⟨k, rfl, hk, hb, hz, ho, hE⟩ := hrel
    rcases Nat.lt_or_ge k 2 with hlt | hge
    · have i1 : (k : Int) < 2 := by omega
      go_wp2_with fail
      refine (read_calls (HD.out.below hb.out) k).mono ?_
      rintro e w2 ⟨A, c, rfl, hc, hr, -, hb2⟩
      have hz2 := Lib.hid (hz.out.below hb2)
      have ho2 := Lib.hid (ho.out.below hb2)
      have hB2 : Hid (Below w.heap.size w w2) := bl_then hb.out hb.out.size hb2
      have hR := Lib.hid hr
      clear hr hb2 hb hz ho
      rcases (Decidable.em (D.readE k = 0)) with he | he
      case' inr =>
        have heb : (D.readE k == 0) = false := by simpa using he
        obtain ⟨z0, z1, z2, z3⟩ := hz2.out.cells
        have zf := hz2.out.froz
        have hL : Hid (loadR D = (zeroSup, D.readE k)) := by
          show _ = _
          unfold loadR
          by_cases hk0 : k = 0
          · subst hk0
            have he0 : D.readE 0 ≠ 0 := he
            rw [if_pos he0]
            rfl
          · have : k = 1 := by omega
            subst this
            have he1 : D.readE 1 ≠ 0 := he
            rw [if_neg (fun hne => hne (hE.out 0 (by omega))), if_pos he1]
            rfl
        have hfin := Lib.hid (hz2.out.put4 zeroSup)
        go_wp2
        refine ret_row_tmp #[.int .u64 0, .int .u32 0, .int .u32 0, .int .u32 0] (g := w.heap.size) (by rfl) (by rfl) Try.underlying37 (by rfl) rfl (by kernel_rfl) (supAt_row hfin.out) ?_
        exact ⟨by rw [hL.out]; rfl, bl_put4 hB2.out (Nat.le_refl _) _ _ _ _⟩
      have hE2 : Hid (∀ j : Nat, j < k + 1 → D.readE j = 0) := fun j hj => by
        by_cases e : j = k
        · subst e; exact he
        · exact hE.out j (by omega)
      rw [he]
      have hrb := Lib.hid (readB_byte D k)
      have hstep : Hid (outAt D (k + 1) = if isSup (D.readB k) ∧ (outAt D k).epoch < (ofB (D.readB k)).epoch then ofB (D.readB k) else outAt D k) := rfl
      generalize D.readB k = bs at *
      go_wp2_with fail
      refine (of_calls' _ A _ c bs rfl hc hrb.out hR.out _ _ rfl rfl).mono ?_
      rintro e w3 ⟨rfl, hb3⟩
      have hz3 := Lib.hid (hz2.out.below hb3)
      have ho3 := ho2.out.below hb3
      have hB3 : Hid (Below w.heap.size w w3) := bl_then hB2.out hB2.out.size hb3
      obtain ⟨x, hx⟩ : ∃ x, ofB bs = x := ⟨_, rfl⟩
      obtain ⟨y, hy⟩ : ∃ y, outAt D k = y := ⟨_, rfl⟩
      obtain ⟨q, hq⟩ : ∃ q, decide (isSup bs) = q := ⟨_, rfl⟩
      rw [hx, hq]
      rw [hy] at ho3
      have hst : Hid (outAt D (k + 1) = if q = true ∧ y.epoch < x.epoch then x else y) := by
        show _ = _
        rw [hstep.out, hx, hy, ← hq]
        simp
      have O3 := Lib.hid ho3
      have hlt3 := ho3.2
      obtain ⟨o0, o1, o2, o3⟩ := (ho3.alloc (.cells #[.int .u64 x.epoch, .int .u32 x.start, .int .u32 x.pages, .int .u32 x.size] 37)).cells
      have of := (ho3.alloc (.cells #[.int .u64 x.epoch, .int .u32 x.start, .int .u32 x.pages, .int .u32 x.size] 37)).froz
      obtain ⟨p0, p1, p2, p3⟩ := ho3.cells
      have pf := ho3.froz
      have hne : w3.heap.size ≠ w.heap.size + 1 := by omega
      have hz4 := Lib.hid (hz3.out.alloc (.cells #[.int .u64 x.epoch, .int .u32 x.start, .int .u32 x.pages, .int .u32 x.size] 37))
      have hO4 := Lib.hid (ho3.alloc (.cells #[.int .u64 x.epoch, .int .u32 x.start, .int .u32 x.pages, .int .u32 x.size] 37))
      have hB4 : Hid (Below w.heap.size w (w3.alloc (.cells #[.int .u64 x.epoch, .int .u32 x.start, .int .u32 x.pages, .int .u32 x.size] 37))) := hB3.out.alloc hB3.out.size _
      clear ho3 hb3 hz2 ho2 hB2 hstep hx hy hq hR hrb hc
      rcases q with _ | _
      · have ht : Hid (outAt D (k + 1) = y) := by show _ = _; rw [hst.out]; simp
        go_wp2
        go_roundg (gk - 1)
        case measure => omega
        case rel => exact ⟨k + 1, by go_num, by omega, hB4, hz4, by show SupAt _ _ _; rw [ht.out]; exact hO4.out, hE2⟩
      · rcases (Decidable.em (y.epoch < x.epoch)) with hl | hl
        · have ht : Hid (outAt D (k + 1) = x) := by show _ = _; rw [hst.out]; simp [hl]
          have hfin := Lib.hid ((O3.out.put4 x).alloc (.cells #[.int .u64 x.epoch, .int .u32 x.start, .int .u32 x.pages, .int .u32 x.size] 37))
          go_wp2
          go_roundg (gk - 1)
          case measure => omega
          case rel =>
            have hz5 : w.heap.size ≠ w.heap.size + 1 := by omega
            exact ⟨k + 1, by go_num, by omega, (bl_put4 hB3.out (by omega) _ _ _ _).alloc (by have := hB3.out.size; simpa [World.setCell] using this) _, ((((hz3.out.far hz5 _ _).far hz5 _ _).far hz5 _ _).far hz5 _ _).alloc _, by show SupAt _ _ _; rw [ht.out]; exact hfin.out, hE2⟩
        · have ht : Hid (outAt D (k + 1) = y) := by show _ = _; rw [hst.out]; simp [hl]
          go_wp2
          go_roundg (gk - 1)
          case measure => omega
          case rel => exact ⟨k + 1, by go_num, by omega, hB4, hz4, by show SupAt _ _ _; rw [ht.out]; exact hO4.out, hE2⟩
    · have hk2 : k = 2 := by omega
      subst hk2
      obtain ⟨z0, z1, z2, z3⟩ := hz.out.cells
      have zf := hz.out.froz
      obtain ⟨o0, o1, o2, o3⟩ := ho.out.cells
      have hL : Hid (loadR D = if (outAt D 2).epoch = 0 then (zeroSup, 50) else (outAt D 2, 0)) := by
        show _ = _
        unfold loadR
        rw [if_neg (fun hne => hne (hE.out 0 (by omega))), if_neg (fun hne => hne (hE.out 1 (by omega)))]
      generalize outAt D 2 = y at *
      rcases (Decidable.em (y.epoch = 0)) with hy | hy
      · have hyb : (y.epoch == 0) = true := by simpa using hy
        have hfin := Lib.hid (hz.out.put4 zeroSup)
        go_wp2
        refine ret_row_tmp #[.int .u64 0, .int .u32 0, .int .u32 0, .int .u32 0] (g := w.heap.size) (by rfl) (by rfl) Try.underlying37 (by rfl) rfl (by kernel_rfl) (supAt_row hfin.out) ?_
        exact ⟨by rw [hL.out, if_pos hy]; rfl, bl_put4 hb.out (Nat.le_refl _) _ _ _ _⟩
      · have hyb : (y.epoch == 0) = false := by simpa using hy
        have hfin := Lib.hid (hz.out.put4 y)
        go_wp2
        refine ret_row_tmp #[.int .u64 y.epoch, .int .u32 y.start, .int .u32 y.pages, .int .u32 y.size] (g := w.heap.size) (by rfl) (by rfl) Try.underlying37 (by rfl) rfl (by kernel_rfl) (supAt_row hfin.out) ?_
        exact ⟨by rw [hL.out, if_neg hy]; rfl, bl_put4 hb.out (Nat.le_refl _) _ _ _ _⟩
end
end Go.Proofs.Ytglpckdmiohciaa
