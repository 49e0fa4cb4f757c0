/- law10.told, law10.awake, law10.TreeBuilds -/
import Derived.Test.YtikgplhcadomcaaGreatKW
import Derived.Test.YtikgplhcadomcaaGreatProg
import Derived.Test.YtikgplhcadomcaaGreatKA
import Derived.Deep.QuietTactic
import Derived.BigQuiet
namespace Go.Proofs.YtikgplhcadomcaaGreat
open Go.RowKit
set_option linter.unusedVariables false
set_option linter.unusedSimpArgs false
theorem bl_both {w w1 w2 : World} (h : Below w.heap.size w w1) (k : Below w.heap.size w1 w2) : Below w.heap.size w w2 :=
  ⟨k.os.trans h.os, k.tape.trans h.tape, k.output.trans h.output, Nat.le_trans h.size k.size, fun i hi => (k.block i hi).trans (h.block i hi)⟩
section
variable {w w2 : World} {s p g : Nat} {F : Nat → Prop} {C : List (List Int)}
theorem BuiltR.below {w3 : World} {E : List Entry} {root most : Int} (h : BuiltR F w w2 s p g C E root most) (hb : Below w2.heap.size w2 w3) : BuiltR F w w3 s p g C E root most := by
  obtain ⟨F', C', h1, h2, h3, h4⟩ := h
  exact ⟨F', C', h1.below hb, h2.trans (Below.chg hb F) (fun _ _ h => h), h3, h4⟩
theorem BuiltR.bl {E : List Entry} {root most : Int} {B : Nat} (h : BuiltR F w w2 s p g C E root most) (hB : B ≤ w.heap.size) (hF : ∀ i, F i → B ≤ i) : Below B w w2 := by
  obtain ⟨F', C', h1, h2, h3, h4⟩ := h
  exact h2.below hB hF
/-- Whether a root is none. -/
theorem BuiltR.root {E : List Entry} {root most : Int} (h : BuiltR F w w2 s p g C E root most) : (E = [] ∧ root = 0) ∨ (E ≠ [] ∧ 1 ≤ root) := by
  obtain ⟨F', C', h1, h2, h3, h4, h5, h6⟩ := h
  rcases h6 with ⟨rfl, rfl⟩ | ⟨k, T, rfl, t1, t2, t3⟩
  · exact .inl ⟨rfl, rfl⟩
  · refine .inr ⟨fun e => ?_, (tower_ids t1 k (by simp)).1⟩
    subst e
    exact tower_some t1
where
  tower_some {C : List (List Int)} {k : Kid} : ∀ {T : List (List Kid)} {ks : List Kid}, Tower C ((k :: ks) :: T) [] → False
    | [], ks, h => by have := h.1; simp [leafNs, splitE, splitAll, rowsF] at this
    | ks' :: T, ks, h => by
      cases ks' with
      | nil => have := h.1.1; simp [innerNs, groupK, splitAll, rowsF] at this
      | cons k' ks' => exact tower_some h.2
end
end Go.Proofs.YtikgplhcadomcaaGreat
