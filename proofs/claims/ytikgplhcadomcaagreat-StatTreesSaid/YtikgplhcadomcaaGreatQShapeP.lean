/- Towers, level by level: plain, and what is loaded; rows made for the call -/
import Derived.Test.YtikgplhcadomcaaGreatQTreeW6
import Derived.Test.YtikgplhcadomcaaGreatKP
namespace Go.Proofs.YtikgplhcadomcaaGreat
open Go.RowKit
set_option linter.unusedVariables false
set_option linter.unusedSimpArgs false
theorem tower_good {C : List (List Int)} {E : List Entry} (hm : MapOk E) : ∀ {T : List (List Kid)} {ks : List Kid}, Tower C (ks :: T) E → KidsGood ks
  | [], ks, h => leaf_good hm h
  | ks' :: T, ks, h => inner_good (tower_good hm h.2) h.1
/-! ### Rows of texts that a call has made -/
section
variable {α : Type} {enc : α → List Value} {sz T T2 base base2 : Nat} {w w' : World} {v u : Value}
theorem Own.lit {x : α} {g : Nat} {cs : Array Value} (h : w.heap[g]? = some (.cells cs T (0, 0))) (hcs : cs.toList = enc x) (hsz : cs.size = sz) (hb : base ≤ g) : Own enc sz T base w (.slice (some ⟨g, 0, none⟩) 1 1) [x] := by
  refine ⟨by simp [← hcs, hsz], .inr ⟨g, 1, cs, rfl, hb, h, Nat.le_refl _, by simp [maxLen], by omega, ?_⟩⟩
  simp only [List.length_singleton, Nat.one_mul, List.flatMap_cons, List.flatMap_nil, List.append_nil]
  rw [← hcs, List.take_of_length_le (by simp; omega)]
/-- What a row is, that was made behind all that is kept. -/
theorem Own.row {l : List α} (he : Enc enc sz) (h : Own enc sz T2 base2 w v l) (hb : base ≤ base2) (hu : ∀ k, u.ownBlock = some k → k < base2) : ∃ r : RowV, v = .slice r.A r.len r.cap ∧ (r.len = l.length ∧ l.length ≤ r.cap ∧ Rd enc sz w r.A l ∧ ∀ a, r.A = some a → base ≤ a.block ∧ a.block < w.heap.size ∧ some a.block ≠ u.ownBlock) := by
  obtain ⟨A, c, rfl, k1, k2, k3, k4⟩ := h.rd he
  refine ⟨⟨A, l.length, c⟩, rfl, rfl, k1, k3, fun a ha => ⟨Nat.le_trans hb (k4 a ha), (h.lt a.block (by have ha2 : A = some a := ha; rw [ha2]; rfl)).2, fun e => ?_⟩⟩
  have := hu a.block e.symm
  have := k4 a ha
  omega
theorem Rws.one {l : List α} {r : RowV} {g : Nat} (h : w.heap[g]? = some (.cells #[.slice r.A r.len r.cap] T (0, 0))) (hb : base ≤ g) (hr : r.len = l.length ∧ l.length ≤ r.cap ∧ Rd enc sz w r.A l ∧ ∀ a, r.A = some a → base ≤ a.block ∧ a.block < w.heap.size ∧ some a.block ≠ (Value.slice (some ⟨g, 0, none⟩) 1 1).ownBlock) :
    Rws enc sz T base w (.slice (some ⟨g, 0, none⟩) 1 1) [l] := by
  refine ⟨[r], Own.lit h rfl rfl hb, rfl, fun i r' l' h1 h2 => ?_⟩
  cases i with
  | zero =>
    simp only [List.getElem?_cons_zero, Option.some.injEq] at h1 h2
    subst h1 h2
    exact hr
  | succ i => simp at h1
end
end Go.Proofs.YtikgplhcadomcaaGreat
