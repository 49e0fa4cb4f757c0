/- extent.Free: there, row, within, meets, behind, Has, New. -/
import Derived.Test.YtglpckdmiohciaaExtP
namespace Go.Proofs.Ytglpckdmiohciaa
open Go.RowKit
set_option linter.unusedVariables false
set_option linter.unusedSimpArgs false

/-- All pages of a span are among those that there are. -/
def Fr.there (D : Fr) (s : Span) : Bool := decide (1 ≤ s.pages ∧ D.lo ≤ s.start ∧ s.start < D.n ∧ s.pages ≤ D.n - s.start)
section
variable {w : World} {g : Nat} {F : Nat → Prop} {D : Fr}
set_option maxRecDepth 100000 in
set_option maxHeartbeats 4000000 in
theorem there_calls (h : FrAt w g F D) (s : Span) : Calls Try.prog 98 #[.pointer (some ⟨g, 0, none⟩), .agg #[.int .i64 s.start, .int .i64 s.pages]] w fun e w' => e = .returned (.bool (D.there s)) ∧ Below w.heap.size w w' := by
  have hok := h.okD
  obtain ⟨A, c, c0, c1, c2, fz, ho, hr, hc, hv, hb⟩ := h.cells
  have hgl := h.glt
  obtain ⟨l0, l1, l2, l3, ln⟩ := hok
  clear h fz ho hr hc hv hb ln c2
  obtain ⟨a, b⟩ := s
  have k0 : ∀ o, (w.alloc o).cell? ⟨g, 0, none⟩ = some (.int .i64 D.lo) := fun o => ((bl_alloc (Below.refl _ w) o).cell (by exact hgl)).trans c0
  have k1 : ∀ o, (w.alloc o).cell? ⟨g, 1, none⟩ = some (.int .i64 D.n) := fun o => ((bl_alloc (Below.refl _ w) o).cell (by exact hgl)).trans c1
  have hfin : ∀ q : Nat, Hid (Below w.heap.size w ((w.alloc (.cells #[.int .i64 a, .int .i64 b] 90)).drewN q)) := fun q => bl_drewN (bl_alloc (Below.refl _ w) _) q
  go_enter Try.func98, Try.ntmps98
  rcases (Decidable.em (1 ≤ b)) with h1 | h1
  case' inr =>
    have d1 : decide (1 ≤ b) = false := by simpa using h1
    go_wp2
    go_quiet (fail)
    go_wp2
    go_ret
    exact ⟨ret_bool (by simp [Fr.there]; omega), (hfin _).out⟩
  rcases (Decidable.em (D.lo ≤ a)) with h2 | h2
  case' inr =>
    have d2 : decide (D.lo ≤ a) = false := by simpa using h2
    go_wp2
    go_quiet (fail)
    go_wp2
    go_ret
    exact ⟨ret_bool (by simp [Fr.there]; omega), (hfin _).out⟩
  rcases (Decidable.em (a < D.n)) with h3 | h3
  case' inr =>
    have d3 : decide (a < D.n) = false := by simpa using h3
    go_wp2
    go_quiet (fail)
    go_wp2
    go_ret
    exact ⟨ret_bool (by simp [Fr.there]; omega), (hfin _).out⟩
  have hw : IntKind.i64.wrap (D.n - a) = D.n - a := wrapI (by omega)
  go_wp2
  go_quiet (fail)
  go_wp2
  go_ret
  exact ⟨ret_bool (by simp [Fr.there, h1, h2, h3]), (hfin _).out⟩
end
end Go.Proofs.Ytglpckdmiohciaa
