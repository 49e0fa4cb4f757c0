/- A row of the call's own that was sorted, in the kit's 'sortWorldK'. No program is named here. -/
import Derived.Test.YtofdmkglhjpbcaaOwn
import Derived.Shelf.GgSortFunc.InsertionK
import Derived.Sort.Statements
namespace Go.Proofs.Ytofdmkglhjpbcaa
open Go.RowKit
open Go.Sort (putCells onCells mapBlock putRow putRowK flatK HoldsK Holds grow PermIn SortedIn)
set_option linter.unusedVariables false
set_option linter.unusedSimpArgs false

section
variable {α : Type} [Inhabited α] {enc : α → List Value} {sz : Nat}
theorem flat_at (he : Enc enc sz) (l : List α) (t : Nat) (ht : t < l.length * sz) : (l.flatMap enc)[t]? = some ((flatK enc sz l.toArray)[t]!) := by
  have hi : t / sz < l.length := Nat.div_lt_of_lt_mul (by rw [Nat.mul_comm]; exact ht)
  have hm : t % sz < sz := Nat.mod_lt _ he.pos
  rw [Go.Sort.get_flatK _ _ _ _ (by simpa using ht)]
  have hx : l[t / sz]? = some l[t / sz] := List.getElem?_eq_getElem hi
  have h2 : l.toArray[t / sz]! = l[t / sz] := by simp [hi]
  rw [h2]
  have hl : t % sz < (enc l[t / sz]).length := by rw [he.len]; exact hm
  have := flat_get he l _ _ hx (t % sz) _ (List.getElem?_eq_getElem hl)
  rw [Nat.mul_comm, Nat.div_add_mod] at this
  rw [this]
  simp [List.getElem!_eq_getElem?_getD, hl]

theorem take_put (he : Enc enc sz) (cur : Array Value) (l : List α) (h : l.length * sz ≤ cur.size) : (putCells id 0 (flatK enc sz l.toArray) cur).toList.take (l.length * sz) = l.flatMap enc := by
  apply List.ext_getElem?
  intro t
  by_cases ht : t < l.length * sz
  · rw [List.getElem?_take_of_lt ht, flat_at he l t ht]
    have hc : t < cur.size := by omega
    simp [putCells, hc, ht]
  · rw [List.getElem?_eq_none (by simp; omega), List.getElem?_eq_none (by rw [flat_len he]; omega)]

theorem own_holds (he : Enc enc sz) {e base : Nat} {w : World} {g cap : Nat} {l : List α} (h : Own enc sz e base w (.slice (some ⟨g, 0, none⟩) l.length cap) l) : HoldsK enc sz w g 0 l.toArray ∧ g < w.heap.size := by
  rcases h.2 with ⟨h0, _⟩ | ⟨g', cap', cur, hv, hb, hh, h1, h2, h3, h4⟩
  · cases h0
  · cases hv
    refine ⟨fun t ht => ?_, blk_lt hh⟩
    have ht' : t < l.length * sz := by simpa using ht
    refine ⟨?_, blk_free hh _⟩
    rw [blk_cell hh, Nat.zero_add]
    have hf := flat_at he l t ht'
    rw [← h4, List.getElem?_take_of_lt ht'] at hf
    simpa using hf

theorem own_sorted (he : Enc enc sz) {e base : Nat} {w : World} {g cap : Nat} {l l' : List α} (h : Own enc sz e base w (.slice (some ⟨g, 0, none⟩) l.length cap) l) (hl : l'.length = l.length) (n : Nat) (os : Array Obj) :
    Own enc sz e base (sortWorldK enc sz w g 0 n l'.toArray os) (.slice (some ⟨g, 0, none⟩) l.length cap) l' ∧ w.grownBy (sortWorldK enc sz w g 0 n l'.toArray os) (some g) := by
  rcases h.2 with ⟨h0, _⟩ | ⟨g', cap', cur, hv, hb, hh, h1, h2, h3, h4⟩
  · cases h0
  · cases hv
    have hlt := blk_lt hh
    have hsz : (putRowK enc sz (Sort.ahead w n) g 0 l'.toArray).heap.size = w.heap.size := by simp [putRowK, putRow, mapBlock, Sort.ahead]
    have hblk : (sortWorldK enc sz w g 0 n l'.toArray os).heap[g]? = some (.cells (putCells id 0 (flatK enc sz l'.toArray) cur) e (0, 0)) := by
      unfold sortWorldK grow
      simp only
      rw [Array.getElem?_append_left (by rw [hsz]; exact hlt)]
      unfold putRowK putRow mapBlock Sort.ahead
      simp only [Array.getElem?_modify, if_true, hh, Option.map_some]
      rfl
    refine ⟨⟨by rw [flat_len he], .inr ⟨g, cap, _, by rw [hl], hb, hblk, by rw [hl]; exact h1, h2, by simp [putCells]; exact h3, ?_⟩⟩, ⟨rfl, rfl, rfl, ?_, ?_⟩⟩
    · exact take_put he cur l' (by rw [hl, h3]; exact Nat.mul_le_mul_right _ h1)
    · unfold sortWorldK
      rw [Go.Sort.size_grow, hsz]
      omega
    · intro k hk hne
      unfold sortWorldK grow
      simp only
      rw [Array.getElem?_append_left (by rw [hsz]; exact hk)]
      unfold putRowK putRow mapBlock Sort.ahead
      simp only [Array.getElem?_modify]
      rw [if_neg (fun e => hne (by rw [e]))]
end

theorem perm_of {α : Type} [Inhabited α] {l : List α} {d' : Array α} (h : PermIn 0 l.toArray.size l.toArray d') : d'.toList.Perm l ∧ d'.size = l.length := by
  obtain ⟨h1, _, h3⟩ := h
  have e1 : d'.extract 0 l.toArray.size = d' := by rw [← h1]; simp
  rw [e1] at h3
  exact ⟨by simpa using h3, by simpa using h1⟩
theorem sorted_of {α : Type} [Inhabited α] {lt : α → α → Bool} {d' : Array α} {n : Nat} (hn : d'.size = n) (h : SortedIn lt 0 n d') : d'.toList.Pairwise (fun x y => lt y x = false) := by
  rw [List.pairwise_iff_getElem]
  intro i j hi hj hij
  have := h i j (Nat.zero_le _) hij (by simpa [hn] using hj)
  simpa [getElem!_pos, show i < d'.size by simpa using hi, show j < d'.size by simpa using hj] using this
end Go.Proofs.Ytofdmkglhjpbcaa
