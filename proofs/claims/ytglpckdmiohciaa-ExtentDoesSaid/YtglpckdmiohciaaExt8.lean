/- extent.Free: Give, up to its loop. -/
import Derived.Test.YtglpckdmiohciaaExt7
namespace Go.Proofs.Ytglpckdmiohciaa
open Go.RowKit
set_option linter.unusedVariables false
set_option linter.unusedSimpArgs false

theorem insert_calls {w : World} {base vb : Nat} {xs : List Span} {x : Span} {A : Option Addr} {c i : Nat} (ho : Own Span.enc 2 90 base w (.slice A xs.length c) xs) (hbase : base ≤ w.heap.size) (hv : w.heap[vb]? = some (.cells x.cells 90 (0, 0))) (hi : i ≤ xs.length) (hl : xs.length ≤ 1000000) (hne : (Value.slice A xs.length c).ownBlock ≠ some vb) :
    Calls Try.prog 102 #[.slice A xs.length c, .int .i64 i, .slice (some ⟨vb, 0, none⟩) 1 1] w fun e w' => InsR base w w' (xs.take i ++ x :: xs.drop i) e := by
  rcases Nat.lt_or_ge i xs.length with hlt | hge
  · have hc := (ho.rd' Span.ok).2.1
    rcases Nat.lt_or_ge xs.length c with h1 | h1
    · exact insert_room ho hbase hv hlt hl h1 hne
    · obtain rfl : c = xs.length := by omega
      exact insert_grow ho hbase hv hlt hl
  · obtain rfl : i = xs.length := by omega
    have := insert_end (x := x) ho hbase hv hl
    simpa using this
def insAt (l : List Span) (s : Span) : Nat := if place (behind s) l < 0 then l.length else (place (behind s) l).toNat
theorem insAt_le (l : List Span) (s : Span) : insAt l s ≤ l.length := by
  unfold insAt
  split
  · exact Nat.le_refl _
  · rename_i h
    obtain ⟨i, r, e, hi, _⟩ := place_some h
    have := (List.getElem?_eq_some_iff.1 hi).1
    rw [e]; omega
theorem insL_at (l : List Span) (s : Span) : l.take (insAt l s) ++ s :: l.drop (insAt l s) = insL l s := rfl
def Fr.free (D : Fr) (s : Span) : Bool := D.there s && decide (place (meets s) D.l < 0)
def Fr.give (D : Fr) (s : Span) : Bool × Fr := if D.free s then (true, { D with l := giveL D.l s }) else (false, D)
section
variable {w : World} {g : Nat} {F : Nat → Prop} {D : Fr}
/-- Within Give, ahead of its loop. -/
structure GiveA (w wa : World) (g : Nat) (F : Nat → Prop) (D : Fr) (s : Span) : Prop where
  h : FrAt wa g F D
  b : Below w.heap.size w wa
  s : wa.heap[w.heap.size]? = some (.cells s.cells 90 (0, 0))
theorem GiveA.below {w wa wb : World} {s : Span} (h : GiveA w wa g F D s) (hb : Below wa.heap.size wa wb) : GiveA w wb g F D s := ⟨h.h.below hb, bl_then h.b h.b.size hb, blk_below hb h.s (blk_lt h.s)⟩
theorem GiveA.begin (h : FrAt w g F D) (s : Span) : GiveA w (w.alloc (.cells #[.int .i64 s.start, .int .i64 s.pages] 90)) g F D s := ⟨h.alloc _, bl_alloc (Below.refl _ w) _, blk_new w (.cells s.cells 90)⟩
end
end Go.Proofs.Ytglpckdmiohciaa
