/- What a call may change, told by a set of blocks. No program is named here. -/
import Derived.Test.YtglpckdmiohciaaMapI
import Derived.Test.YtglpckdmiohciaaAppend
import Derived.Deep.MidRow
namespace Go.Proofs.Ytglpckdmiohciaa
open Go.RowKit
set_option linter.unusedVariables false
set_option linter.unusedSimpArgs false

/-- Of the blocks that lay, those of F alone may have changed. -/
structure Chg (F : Nat → Prop) (w w' : World) : Prop where
  os : w'.os = w.os
  tape : w'.tape = w.tape
  output : w'.output = w.output
  size : w.heap.size ≤ w'.heap.size
  block : ∀ k, k < w.heap.size → ¬ F k → w'.heap[k]? = w.heap[k]?

section
variable {F G : Nat → Prop} {w w' w'' : World}
theorem Chg.refl (F : Nat → Prop) (w : World) : Chg F w w := ⟨rfl, rfl, rfl, Nat.le_refl _, fun _ _ _ => rfl⟩
theorem Chg.trans (h : Chg F w w') (k : Chg G w' w'') (hG : ∀ i, i < w.heap.size → G i → F i) : Chg F w w'' :=
  ⟨k.os.trans h.os, k.tape.trans h.tape, k.output.trans h.output, Nat.le_trans h.size k.size, fun i hi hn => (k.block i (Nat.lt_of_lt_of_le hi h.size) (fun hg => hn (hG i hi hg))).trans (h.block i hi hn)⟩
theorem Chg.mono (h : Chg F w w') (hG : ∀ i, i < w.heap.size → F i → G i) : Chg G w w' := ⟨h.os, h.tape, h.output, h.size, fun i hi hn => h.block i hi (fun hf => hn (hG i hi hf))⟩
theorem Below.chg (h : Below w.heap.size w w') (F : Nat → Prop) : Chg F w w' := ⟨h.os, h.tape, h.output, h.size, fun i hi _ => h.block i hi⟩
theorem Chg.below {B : Nat} (h : Chg F w w') (hB : B ≤ w.heap.size) (hF : ∀ i, F i → B ≤ i) : Below B w w' :=
  ⟨h.os, h.tape, h.output, h.size, fun i hi => h.block i (Nat.lt_of_lt_of_le hi hB) (fun hf => by have := hF i hf; omega)⟩
theorem Chg.below' {B : Nat} (h : Chg F w w') (hB : B ≤ w.heap.size) (hF : ∀ i, i < B → ¬ F i) : Below B w w' :=
  ⟨h.os, h.tape, h.output, h.size, fun i hi => h.block i (Nat.lt_of_lt_of_le hi hB) (hF i hi)⟩
theorem Chg.grown {g : Nat} (h : w.grownBy w' (some g)) (hF : F g) : Chg F w w' := ⟨h.os, h.tape, h.output, h.size, fun i hi hn => h.block i hi (fun e => by cases e; exact hn hF)⟩
theorem Chg.grownO {row : Option Nat} (h : w.grownBy w' row) (hF : ∀ g, row = some g → F g) : Chg F w w' := ⟨h.os, h.tape, h.output, h.size, fun i hi hn => h.block i hi (fun e => hn (hF i e.symm))⟩
theorem Chg.set {g i : Nat} (w : World) (v : Value) (hF : F g) : Chg F w (w.setCell ⟨g, i, none⟩ v) := Chg.grown (grown_set w g i v) hF
theorem Chg.alloc (w : World) (o : Obj) (F : Nat → Prop) : Chg F w (w.alloc o) := Below.chg ((Below.refl _ w).alloc (Nat.le_refl _) o) F
theorem Chg.drew (w : World) (F : Nat → Prop) : Chg F w w.drew := Below.chg (Below.refl _ w).drew F
theorem Chg.blk {o : Obj} {g : Nat} (h : Chg F w w') (hb : w.heap[g]? = some o) (hg : ¬ F g) : w'.heap[g]? = some o := by rw [h.block g (blk_lt hb) hg]; exact hb
theorem MapI.chg {α : Type} {enc : α → Value} {L : List (Int × α)} {b : Nat} (h : MapI w b enc L) (hc : Chg F w w') (hb : ¬ F b) : MapI w' b enc L := by
  have hlt := h.lt
  obtain ⟨es, c, h1, r⟩ := h
  exact ⟨es, c, hc.blk h1 hb, r⟩
theorem Own.blk {α : Type} {enc : α → List Value} {sz e base : Nat} {v : Value} {xs : List α} (h : Own enc sz e base w v xs) (hk : ∀ k, v.ownBlock = some k → w'.heap[k]? = w.heap[k]?) : Own enc sz e base w' v xs := by
  refine ⟨h.1, ?_⟩
  rcases h.2 with h0 | ⟨g, cap, cur, rfl, hb, hh, r⟩
  · exact .inl h0
  · exact .inr ⟨g, cap, cur, rfl, hb, by rw [hk g rfl]; exact hh, r⟩
theorem Own.chg {α : Type} {enc : α → List Value} {sz e base : Nat} {v : Value} {xs : List α} (h : Own enc sz e base w v xs) (hc : Chg F w w') (hF : ∀ k, v.ownBlock = some k → ¬ F k) : Own enc sz e base w' v xs :=
  h.blk fun k hk => hc.block k (h.lt k hk).2 (hF k hk)
theorem Rd.chg {α : Type} {enc : α → List Value} {sz : Nat} {A : Option Addr} {xs : List α} (h : Rd enc sz w A xs) (hc : Chg F w w') (hA : ∀ a, A = some a → ¬ F a.block) : Rd enc sz w' A xs := by
  rcases h with h | ⟨b, off, rfl, hlt, hcs⟩
  · exact .inl h
  · refine .inr ⟨b, off, rfl, Nat.lt_of_lt_of_le hlt hc.size, fun k x hx j v hv => ?_⟩
    rw [World.cell?_of_block (w := w) (hc.block b hlt (hA _ rfl))]
    exact hcs k x hx j v hv
/-- An element of a row, as a range of cells. -/
theorem Rd.range {α : Type} {enc : α → List Value} {sz : Nat} {b off : Nat} {xs : List α} (h : Rd enc sz w (some ⟨b, off, none⟩) xs) {i : Nat} {x : α} (hx : xs[i]? = some x) : w.rangeAt b (off + i * sz) (enc x) := by
  rcases h with h | ⟨b', off', heq, hlt, hc⟩
  · subst h; simp at hx
  · cases heq
    intro j v hv
    exact hc i x hx j v hv
theorem range_blk {g o : Nat} {cs : Array Value} {l : List Value} {t : TypeId} {fr : Nat × Nat} (h : w.heap[g]? = some (.cells cs t fr)) (hl : ∀ j v, l[j]? = some v → cs[o + j]? = some v) : w.rangeAt g o l := by
  intro j v hv
  rw [blk_cell h]
  exact hl j v hv
theorem there_blk {g o n : Nat} {cs : Array Value} {t : TypeId} (h : w.heap[g]? = some (.cells cs t (0, 0))) (hl : o + n ≤ cs.size) : w.there g o n := by
  intro j hj
  rw [blk_cell h, blk_free h]
  exact ⟨by simp [Array.getElem?_eq_getElem (show o + j < cs.size from by omega)], rfl⟩
end
theorem setCells_other (b : Nat) : ∀ (vs : List Value) (o : Nat) (w : World) (k : Nat), k ≠ b → (w.setCells b o vs).heap[k]? = w.heap[k]?
  | [], _, _, _, _ => rfl
  | v :: r, o, w, k, h => by rw [World.setCells, setCells_other b r (o + 1) _ k h, Below.heap_setCell _ _ _ _ h]
theorem setCells_grown (b : Nat) : ∀ (vs : List Value) (o : Nat) (w : World), w.grownBy (w.setCells b o vs) (some b)
  | [], _, w => grown_refl w _
  | v :: r, o, w => grown_trans (grown_set w b o v) (setCells_grown b r (o + 1) _)
theorem setCells_blk {b : Nat} {t : TypeId} {fr : Nat × Nat} : ∀ (vs : List Value) (o : Nat) (w : World) (cs : Array Value), w.heap[b]? = some (.cells cs t fr) → o + vs.length ≤ cs.size →
    (w.setCells b o vs).heap[b]? = some (.cells (cs.toList.take o ++ vs ++ cs.toList.drop (o + vs.length)).toArray t fr)
  | [], o, w, cs, h, hl => by simpa [World.setCells] using h
  | v :: r, o, w, cs, h, hl => by
    have hl' : o + r.length + 1 ≤ cs.size := by simpa [Nat.add_assoc] using hl
    rw [World.setCells, setCells_blk r (o + 1) _ _ (blk_set h o v) (by simp; omega)]
    congr 3
    have e : (cs.setIfInBounds o v).toList = cs.toList.set o v := by simp
    rw [e]
    have ho : o < cs.toList.length := by simp; omega
    rw [List.take_set, List.drop_set_of_lt (by omega), List.take_succ_eq_append_getElem ho, List.set_append_right _ _ (by simp; omega)]
    simp [Nat.min_eq_left (show o ≤ cs.size from by omega), show o + 1 + r.length = o + (r.length + 1) from by omega]
/-- No block of cells has changed. -/
def Kept (w w' : World) : Prop := ∀ (i : Nat) (cs : Array Value) (t : TypeId) (fr : Nat × Nat), w.heap[i]? = some (.cells cs t fr) → w'.heap[i]? = some (.cells cs t fr)
section
variable {w w' w'' : World}
theorem Kept.refl (w : World) : Kept w w := fun _ _ _ _ h => h
theorem Kept.trans (h : Kept w w') (k : Kept w' w'') : Kept w w'' := fun i cs t fr e => k i cs t fr (h i cs t fr e)
theorem Kept.below (h : Below w.heap.size w w') : Kept w w' := fun i cs t fr e => by rw [h.block i (blk_lt e)]; exact e
theorem Kept.alloc (h : Kept w w') (o : Obj) : Kept w (w'.alloc o) := h.trans (Kept.below ((Below.refl _ w').alloc (Nat.le_refl _) o))
theorem kept_map {α : Type} {enc : α → Value} {L : List (Int × α)} {b : Nat} (h : MapI w b enc L) (hb : Below w.heap.size w w') (hg : w'.grownBy w'' (some b)) : Kept w w'' := fun i cs t fr e => by
  have hi := blk_lt e
  have hs := hb.size
  rw [hg.block i (by omega) (fun q => ?_), hb.block i hi]
  · exact e
  · cases q
    obtain ⟨es, c, h1, _⟩ := h
    rw [e] at h1
    cases h1
theorem cell_blk {a : Addr} {v : Value} (h : w.cell? a = some v) (ha : a.spot = none) : ∃ cs t fr, w.heap[a.block]? = some (.cells cs t fr) := by
  unfold World.cell? at h
  split at h <;> simp_all
theorem Rd.kept {α : Type} {enc : α → List Value} {sz : Nat} {A : Option Addr} {xs : List α} (h : Rd enc sz w A xs) (hk : Kept w w') (hs : w.heap.size ≤ w'.heap.size) : Rd enc sz w' A xs := by
  rcases h with h | ⟨b, off, rfl, hlt, hc⟩
  · exact .inl h
  · refine .inr ⟨b, off, rfl, by omega, fun k x hx j v hv => ?_⟩
    have h1 := hc k x hx j v hv
    obtain ⟨cs, t, fr, e⟩ := cell_blk h1 rfl
    rw [World.cell?_of_block (w := w) (show w'.heap[b]? = w.heap[b]? from by rw [hk _ _ _ _ e]; exact e.symm)]
    exact h1
end
end Go.Proofs.Ytglpckdmiohciaa
