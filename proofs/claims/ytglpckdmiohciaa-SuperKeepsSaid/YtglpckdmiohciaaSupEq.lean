/- supers held against each other; law05.awake -/
import Derived.Test.YtglpckdmiohciaaRefOf
import Derived.Test.YtglpckdmiohciaaSupLaw
namespace Go.Proofs.Ytglpckdmiohciaa
open Go.RowKit
set_option linter.unusedVariables false
set_option linter.unusedSimpArgs false

def same4 (a b c e a' b' c' e' : Int) : Bool := a == a' && (b == b' && (c == c' && (e == e' && true)))
theorem same4_iff (x y : Sup) : same4 x.epoch x.start x.pages x.size y.epoch y.start y.pages y.size = true ↔ x = y := by
  cases x; cases y; simp [same4]
theorem same4_self (a b c d : Int) : same4 a b c d a b c d = true := by simp [same4]
theorem eqSup (d : Nat) (w : World) (a b c e a' b' c' e' : Int) : (Op.equalIn (d + 2) 37 (.agg #[.int .u64 a, .int .u32 b, .int .u32 c, .int .u32 e]) (.agg #[.int .u64 a', .int .u32 b', .int .u32 c', .int .u32 e'])).run Try.prog w = .ok (same4 a b c e a' b' c' e') w := by
  unfold same4
  refine eq_struct Try.underlying37 (by kernel_rfl) ?_
  refine eqf_more (by decide) (by go_simp; rfl) (by go_simp; rfl) (by go_simp) ?_
  refine eqf_more (by decide) (by go_simp; rfl) (by go_simp; rfl) (by go_simp) ?_
  refine eqf_more (by decide) (by go_simp; rfl) (by go_simp; rfl) (by go_simp) ?_
  refine eqf_more (by decide) (by go_simp; rfl) (by go_simp; rfl) (by go_simp) ?_
  exact eqf_none

/-- super.Of, its argument's length a letter, its result written out. -/
theorem of_calls' (w : World) (A : Option Addr) (n c : Nat) (b : List Int) (hn : b.length = n) (hc : n ≤ c) (hx : byteL b) (h : Rd by1 1 w A b) (s : Sup) (r : Bool) (hs : ofB b = s) (hr : decide (isSup b) = r) :
    Calls Try.prog 24 #[.slice A n c] w fun e w' => e = .returned (.tuple #[.agg #[.int .u64 s.epoch, .int .u32 s.start, .int .u32 s.pages, .int .u32 s.size], .bool r]) ∧ Below w.heap.size w w' := by
  subst hn hs hr
  exact of_calls w A c b hc hx h
theorem refOf_calls' (w : World) (A : Option Addr) (n c : Nat) (b : List Int) (hn : b.length = n) (hc : n ≤ c) (hx : byteL b) (h : Rd by1 1 w A b) (s : Sup) (r : Bool) (hs : ofB b = s) (hr : decide (isSup b) = r) :
    Calls Try.prog 25 #[.slice A n c] w fun e w' => e = .returned (.tuple #[.agg #[.int .u64 s.epoch, .int .u32 s.start, .int .u32 s.pages, .int .u32 s.size], .bool r]) ∧ Below w.heap.size w w' := by
  subst hn hs hr
  exact refOf_calls w A c b hc hx h
theorem put_calls' (w : World) (a b c d : Int) (hs : Sup.ok ⟨a, b, c, d⟩) :
    Calls Try.prog 26 #[.agg #[.int .u64 a, .int .u32 b, .int .u32 c, .int .u32 d]] w fun e w' => ∃ g, e = .returned (.slice (some ⟨g, 0, none⟩) 32 32) ∧ Rd by1 1 w' (some ⟨g, 0, none⟩) (put ⟨a, b, c, d⟩) ∧ w.heap.size ≤ g ∧ Below w.heap.size w w' :=
  put_calls w ⟨a, b, c, d⟩ hs
theorem awake_ok : Sup.ok ⟨7, 1, 2, 3⟩ := by unfold Sup.ok; decide

set_option maxRecDepth 100000 in
theorem awake05_calls (w : World) : Calls Try.prog 23 #[] w fun e w' => e = .returned (.bool true) ∧ Below w.heap.size w w' := by
  have h1 : Hid (ofB (put ⟨7, 1, 2, 3⟩) = ⟨7, 1, 2, 3⟩) := ofB_put _ awake_ok (by decide)
  have h2 : Hid (decide (isSup (put ⟨7, 1, 2, 3⟩)) = true) := by show _ = _; simpa using (isSup_put _ awake_ok).2 (by decide)
  have he := eqSup
  go_enter Try.func23, Try.ntmps23
  go_wp2_with fail
  refine (put_calls' _ 7 1 2 3 awake_ok).mono ?_
  rintro e w1 ⟨g, rfl, hr, hg, hb⟩
  have hB := Lib.hid (bl_then (bl_alloc (Below.refl w.heap.size w) (.cells #[.int .u64 7, .int .u32 1, .int .u32 2, .int .u32 3] 37)) (by simp) hb)
  have hX := Lib.hid (blk_below hb (blk_new w (.cells #[.int .u64 7, .int .u32 1, .int .u32 2, .int .u32 3] 37)) (by simp))
  have hR := Lib.hid hr
  clear hr hb hg
  go_wp2_with fail
  refine (of_calls' _ _ 32 32 _ (put_len _) (by omega) (put_byte _) hR.out _ _ h1.out h2.out).mono ?_
  rintro e w2 ⟨rfl, hb⟩
  have hB2 := Lib.hid (bl_then hB.out hB.out.size hb)
  have hX2 := Lib.hid (blk_below hb hX.out (blk_lt hX.out))
  have hlt := blk_lt hX2.out
  obtain ⟨x0, x1, x2, x3⟩ := sup_cells hX2.out
  clear hb hB hX hR
  simp only
  have hsame := same4_self 7 1 2 3
  go_wp2
  go_ret
  exact ⟨rfl, bl_alloc hB2.out _⟩

/-- The cells of a super. -/
def supC (x : Sup) : Array Value := #[.int .u64 x.epoch, .int .u32 x.start, .int .u32 x.pages, .int .u32 x.size]
/-- A super in a block. -/
def SupAt (w : World) (p : Nat) (x : Sup) : Prop := w.heap[p]? = some (.cells (supC x) 37 (0, 0)) ∧ p < w.heap.size
theorem supAt_new (w : World) (x : Sup) (p : Nat) (hp : w.heap.size = p) : SupAt (w.alloc (.cells (supC x) 37)) p x := by subst hp; exact ⟨blk_new _ _, by simp⟩
theorem SupAt.alloc {w : World} {p : Nat} {x : Sup} (h : SupAt w p x) (o : Obj) : SupAt (w.alloc o) p x := ⟨blk_alloc h.1 o, Nat.lt_trans h.2 (by simp)⟩
theorem SupAt.below {w w' : World} {p : Nat} {x : Sup} (h : SupAt w p x) (hb : Below w.heap.size w w') : SupAt w' p x := ⟨blk_below hb h.1 h.2, Nat.lt_of_lt_of_le h.2 hb.size⟩
theorem SupAt.below' {w w' : World} {B p : Nat} {x : Sup} (h : SupAt w p x) (hb : Below B w w') (hB : p < B) : SupAt w' p x := ⟨blk_below hb h.1 hB, Nat.lt_of_lt_of_le h.2 hb.size⟩
theorem SupAt.cells {w : World} {p : Nat} {x : Sup} (h : SupAt w p x) : w.cell? ⟨p, 0, none⟩ = some (.int .u64 x.epoch) ∧ w.cell? ⟨p, 1, none⟩ = some (.int .u32 x.start) ∧ w.cell? ⟨p, 2, none⟩ = some (.int .u32 x.pages) ∧ w.cell? ⟨p, 3, none⟩ = some (.int .u32 x.size) := sup_cells h.1
end Go.Proofs.Ytglpckdmiohciaa
