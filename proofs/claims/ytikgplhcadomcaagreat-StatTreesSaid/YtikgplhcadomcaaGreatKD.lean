/- The last row made longer, in place; a row put behind; what extent.Free's Give is made of. extent.Free: Give, up to its loop. -/
import Derived.Test.YtikgplhcadomcaaGreatKC
import Derived.Lib.AppendZerosOnto
import Derived.Lib.Overlaps
namespace Go.Proofs.YtikgplhcadomcaaGreat
open Go.RowKit
set_option linter.unusedVariables false
set_option linter.unusedSimpArgs false

theorem last_at {xs : List Span} (h : 0 < xs.length) : ∃ y, xs.getLast? = some y ∧ xs[xs.length - 1]? = some y := by
  have hne : xs ≠ [] := by intro e; subst e; simp at h
  refine ⟨xs.getLast hne, List.getLast?_eq_some_getLast hne, ?_⟩
  rw [← List.getLast?_eq_getElem?]
  exact List.getLast?_eq_some_getLast hne
theorem Rise.take {n : Int} : ∀ {l : List Span} {lo : Int} (k : Nat), Rise lo n l → Rise lo n (l.take k)
  | [], _, k, _ => by simp [Rise]
  | x :: l, lo, 0, _ => trivial
  | x :: l, lo, k + 1, ⟨h1, h2, h3, h4⟩ => ⟨h1, h2, h3, h4.take k⟩
section
variable {w w' wr : World} {g : Nat} {F F' : Nat → Prop} {D D' : Fr} {A : Option Addr} {L : List Span}
/-- Within Give: what is joined so far, the set's own; the rows that are to be joined beside it. -/
def GiveI (w wr : World) (g : Nat) (F : Nat → Prop) (D : Fr) (A : Option Addr) (L : List Span) : Prop :=
  ∃ F', FrAt wr g F' D ∧ (∀ i, F' i → F i ∨ w.heap.size ≤ i) ∧ Chg F w wr ∧ Rd Span.enc 2 wr A L ∧ (∀ a, A = some a → ¬ F' a.block ∧ a.block < wr.heap.size)
theorem GiveI.rd (h : GiveI w wr g F D A L) : Rd Span.enc 2 wr A L := by obtain ⟨F', a, b, c, d, e⟩ := h; exact d
theorem GiveI.step (h : GiveI w wr g F D A L) (hs : ∀ F', FrAt wr g F' D → FrDid F' wr w' g D') : GiveI w w' g F D' A L := by
  obtain ⟨F', a, b, c, d, e⟩ := h
  obtain ⟨F2, a2, c2, b2⟩ := hs F' a
  refine ⟨F2, a2, fun i hi => ?_, c.trans c2 (fun i hi hf => (b i hf).resolve_right (by omega)), d.chg c2 (fun x hx => (e x hx).1), fun x hx => ⟨fun hf => ?_, Nat.lt_of_lt_of_le (e x hx).2 c2.size⟩⟩
  · rcases b2 i hi with q | q
    · exact b i q
    · exact .inr (Nat.le_trans c.size q)
  · rcases b2 _ hf with q | q
    · exact (e x hx).1 q
    · have := (e x hx).2; omega
theorem GiveI.below (h : GiveI w wr g F D A L) (hb : Below wr.heap.size wr w') : GiveI w w' g F D A L := h.step fun F' a => FrDid.of_below a hb
/-- A row's element in a block that the round has just made. -/
theorem GiveI.fresh (h : GiveI w wr g F D A L) (r : Span) : GiveI w (wr.alloc (.cells #[.int .i64 r.start, .int .i64 r.pages] 160)) g F D (some ⟨wr.heap.size, 0, none⟩) [r] := by
  obtain ⟨F', a, b, c, d, e⟩ := h
  refine ⟨F', a.alloc _, b, c.trans (Chg.alloc wr _ F) (fun _ _ q => q), Rd.lit (blk_new wr (.cells r.cells 160)) rfl, fun x hx => ?_⟩
  cases hx
  exact ⟨fun hf => Nat.lt_irrefl _ (a.lt _ hf), by simp⟩
/-- Its third cell and its last row, for a walk. -/
theorem GiveI.cells (h : GiveI w wr g F D A L) : ∃ (B : Option Addr) (c : Nat), wr.cell? ⟨g, 2, none⟩ = some (.slice B D.l.length c) ∧ wr.frozen? ⟨g, 2, none⟩ = false ∧ g < wr.heap.size ∧ D.l.length ≤ c ∧ c ≤ 9223372036854775807 ∧
    Own Span.enc 2 160 0 wr (.slice B D.l.length c) D.l ∧ (0 < D.l.length → ∃ b y, B = some ⟨b, 0, none⟩ ∧ b < wr.heap.size ∧ b ≠ g ∧ D.l.getLast? = some y ∧ wr.cell? ⟨b, (D.l.length - 1) * 2, none⟩ = some (.int .i64 y.start) ∧ wr.cell? ⟨b, (D.l.length - 1) * 2 + 1, none⟩ = some (.int .i64 y.pages) ∧ ∀ j, wr.frozen? ⟨b, j, none⟩ = false) := by
  obtain ⟨F', a, b, c, d, e⟩ := h
  obtain ⟨B, cc, c0, c1, c2, fz, ho, hr, hc, hv, hb⟩ := a.cells
  refine ⟨B, cc, c2, fz 2, a.glt, hc, (ho.rd' Span.ok).2.2.1, ho, fun h0 => ?_⟩
  obtain ⟨y, hy, hy2⟩ := last_at h0
  rcases ho.2 with ⟨e0, _⟩ | ⟨g', cap, cur, e0, hbb, hh, _⟩
  · injection e0 with e1 e2 e3; omega
  · injection e0 with e1 e2 e3
    subst e1
    obtain ⟨z0, z1⟩ := Rd.span hr hy2
    rw [Nat.zero_add] at z0 z1
    exact ⟨g', y, rfl, blk_lt hh, (hv g' rfl).1, hy, z0, z1, fun j => blk_free hh j⟩
end
end Go.Proofs.YtikgplhcadomcaaGreat

namespace Go.Proofs.YtikgplhcadomcaaGreat
open Go.RowKit
set_option linter.unusedVariables false
set_option linter.unusedSimpArgs false

def Fr.free (D : Fr) (s : Span) : Bool := D.there s && decide (place (meets s) D.l < 0)
section
variable {w : World} {g : Nat} {F : Nat → Prop} {D : Fr}
/-- Within Give, ahead of its loop. -/
structure GiveA (w wa : World) (g : Nat) (F : Nat → Prop) (D : Fr) (s : Span) : Prop where
  h : FrAt wa g F D
  b : Below w.heap.size w wa
  s : wa.heap[w.heap.size]? = some (.cells s.cells 160 (0, 0))
theorem GiveA.below {w wa wb : World} {s : Span} (h : GiveA w wa g F D s) (hb : Below wa.heap.size wa wb) : GiveA w wb g F D s := ⟨h.h.below hb, bl_then h.b h.b.size hb, blk_below hb h.s (blk_lt h.s)⟩
theorem GiveA.begin (h : FrAt w g F D) (s : Span) : GiveA w (w.alloc (.cells #[.int .i64 s.start, .int .i64 s.pages] 160)) g F D s := ⟨h.alloc _, bl_alloc (Below.refl _ w) _, blk_new w (.cells s.cells 160)⟩
end
end Go.Proofs.YtikgplhcadomcaaGreat
