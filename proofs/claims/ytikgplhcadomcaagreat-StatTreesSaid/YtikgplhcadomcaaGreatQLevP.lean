/- Levels: plain -/
import Derived.Test.YtikgplhcadomcaaGreatQTreeW6
namespace Go.Proofs.YtikgplhcadomcaaGreat
open Go.RowKit
set_option linter.unusedVariables false
set_option linter.unusedSimpArgs false
/-- Those that end a row, and the last. -/
def lastsF (p : Str → Bool) : List Str → List Str
  | [] => []
  | [x] => [x]
  | x :: y :: l => if p x then x :: lastsF p (y :: l) else lastsF p (y :: l)
theorem lastsF_rows (p : Str → Bool) : ∀ (l acc : List Str), l ≠ [] → (rowsF p acc l).map (fun r => r.getLast?.getD ⟨#[]⟩) = lastsF p l
  | [], _, h => absurd rfl h
  | [x], acc, _ => by rw [rowsF_last]; simp [lastsF]
  | x :: y :: l, acc, _ => by
    rw [rowsF_step]
    have ih := fun a => lastsF_rows p (y :: l) a (by simp)
    by_cases hp : p x = true
    · rw [if_pos hp]
      simp only [List.map_cons, ih, lastsF, if_pos hp]
      simp
    · rw [if_neg hp]
      simp only [ih, lastsF, if_neg hp]
theorem upK_eq (lv : Int) (ks : List Str) : upK lv ks = lastsF (fun k => endsN lv k) ks := by
  cases ks with
  | nil => rfl
  | cons x l => exact lastsF_rows _ (x :: l) [] (by simp)
theorem lastsF_cons (p : Str → Bool) (x : Str) (l : List Str) : lastsF p (x :: l) = if l = [] ∨ p x = true then x :: lastsF p l else lastsF p l := by
  cases l with
  | nil => simp [lastsF]
  | cons y l => simp [lastsF]
theorem upK_top (ks : List Str) : (upK 20 ks).length ≤ 1 := by
  unfold upK
  rw [List.length_map]
  exact rowsF_none _ ks [] fun x _ => by unfold endsN; simp
def levT : Nat → Int → List Str → List (List Str)
  | 0, _, _ => []
  | f + 1, lv, row => if row.length = 0 then [] else if row.length = 1 then [row] else row :: levT f (lv + 1) (upK lv row)
/-- A map's levels. -/
def levels (l : List Entry) : List (List Str) := levT 21 1 (upK 0 (l.map Entry.key))
theorem levT_many {f : Nat} {lv : Int} {row : List Str} (h : 1 < row.length) : levT (f + 1) lv row = row :: levT f (lv + 1) (upK lv row) := by
  rw [levT, if_neg (by omega), if_neg (by omega)]
theorem tower_levT {C : List (List Int)} {E : List Entry} : ∀ (T : List (List Kid)) (ks : List Kid) (f : Nat), Tower C (ks :: T) E → (∀ x ∈ T, 1 < x.length) →
    (T.map fun ks => ks.map Kid.last).reverse ++ levT f ((T.length : Int) + 1) (ks.map Kid.last) = levT (f + T.length) 1 (upK 0 (E.map Entry.key))
  | [], ks, f, h, _ => by
    have := lasts_leaf h
    simp [this]
  | ks' :: T, ks, f, h, hm => by
    have ih := tower_levT T ks' (f + 1) h.2 fun x hx => hm x (List.mem_cons_of_mem _ hx)
    have h1 := lasts_inner h.1
    rw [levT_many (by simpa using hm ks' List.mem_cons_self)] at ih
    rw [h1]
    simp only [List.map_cons, List.reverse_cons, List.append_assoc, List.length_cons, List.singleton_append]
    rw [show f + (T.length + 1) = f + 1 + T.length by omega, ← ih]
    congr 3
theorem tower_levels {C : List (List Int)} {E : List Entry} {k : Kid} {T : List (List Kid)} (h : Tower C ([k] :: T) E) (hT : T.length ≤ 20) (hm : ∀ x ∈ T, 1 < x.length) : (([k] :: T).map fun ks => ks.map Kid.last).reverse = levels E := by
  have := tower_levT T [k] (21 - T.length) h hm
  rw [show 21 - T.length + T.length = 21 by omega] at this
  unfold levels
  rw [← this, show 21 - T.length = (20 - T.length) + 1 by omega]
  simp [levT]
end Go.Proofs.YtikgplhcadomcaaGreat
