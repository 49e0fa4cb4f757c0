/- Rows that a call makes: 'Own'; append to them; what they read as. No program is named here. -/
import Derived.Test.YtofdmkglhjpbcaaBase
import Derived.Deep.AppendLies
import Derived.Deep.RegionHeld3
namespace Go.Proofs.Ytofdmkglhjpbcaa
open Go.RowKit
set_option linter.unusedVariables false
set_option linter.unusedSimpArgs false

/-- An encoding of elements in 'sz' cells, each the value of one cell. -/
structure Enc {α : Type} (enc : α → List Value) (sz : Nat) : Prop where
  len : ∀ x, (enc x).length = sz
  one : ∀ x, ∀ u ∈ enc x, u.oneCell' = true
  pos : 0 < sz

theorem flat_len {α : Type} {enc : α → List Value} {sz : Nat} (he : Enc enc sz) (xs : List α) : (xs.flatMap enc).length = xs.length * sz := by
  induction xs with
  | nil => simp
  | cons x xs ih => simp [ih, he.len, Nat.succ_mul, Nat.add_comm]

theorem flat_get {α : Type} {enc : α → List Value} {sz : Nat} (he : Enc enc sz) : ∀ (xs : List α) (i : Nat) (x : α), xs[i]? = some x → ∀ (j : Nat) (v : Value), (enc x)[j]? = some v → (xs.flatMap enc)[i * sz + j]? = some v
  | [], i, x, hx, _, _, _ => by simp at hx
  | y :: xs, 0, x, hx, j, v, hv => by
    simp at hx
    subst hx
    have hj : j < (enc y).length := (List.getElem?_eq_some_iff.1 hv).1
    simp only [List.flatMap_cons, Nat.zero_mul, Nat.zero_add]
    rw [List.getElem?_append_left hj]
    exact hv
  | y :: xs, i + 1, x, hx, j, v, hv => by
    simp only [List.flatMap_cons]
    rw [List.getElem?_append_right (by rw [he.len, Nat.succ_mul]; omega), he.len, show (i + 1) * sz + j - sz = i * sz + j from by rw [Nat.succ_mul]; omega]
    exact flat_get he xs i x (by simpa using hx) j v hv

/-- A slice value whose row the call made (from block 'base' on): its elements are xs. -/
def Own {α : Type} (enc : α → List Value) (sz e base : Nat) (w : World) (v : Value) (xs : List α) : Prop := w.ownsRow base e sz v xs.length (xs.flatMap enc)

section
variable {α : Type} {enc : α → List Value} {sz e base : Nat} {w w' : World} {v : Value} {xs : List α}
theorem Own.nil : Own enc sz e base w (.slice none 0 0) ([] : List α) := World.ownsRow_nil _ _ _ _
theorem Own.kept (h : Own enc sz e base w v xs) {row : Option Nat} (hg : w.grownBy w' row) (hne : v.ownBlock = none ∨ v.ownBlock ≠ row) : Own enc sz e base w' v xs := World.ownsRow.kept h hg hne
theorem Own.lt (h : Own enc sz e base w v xs) : ∀ k, v.ownBlock = some k → base ≤ k ∧ k < w.heap.size := World.ownsRow.lt h
theorem Own.below (h : Own enc sz e base w v xs) (hb : Below w.heap.size w w') : Own enc sz e base w' v xs :=
  h.kept (row := none) ⟨hb.os, hb.tape, hb.output, hb.size, fun k hk _ => hb.block k hk⟩ (by cases v.ownBlock <;> simp)
theorem Own.alloc (h : Own enc sz e base w v xs) (o : Obj) : Own enc sz e base (w.alloc o) v xs := h.below ((Below.refl _ _).alloc (Nat.le_refl _) o)
theorem Own.drewN (h : Own enc sz e base w v xs) (n : Nat) : Own enc sz e base (w.drewN n) v xs := h.below (bl_drewN (Below.refl _ _) n)
theorem Own.drew (h : Own enc sz e base w v xs) : Own enc sz e base w.drew v xs := h.below (Below.refl _ _).drew
theorem Own.mono (h : Own enc sz e base w v xs) {base' : Nat} (hb : base' ≤ base) : Own enc sz e base' w v xs :=
  ⟨h.1, h.2.elim Or.inl (fun ⟨g, cap, cur, hv, hg, r⟩ => Or.inr ⟨g, cap, cur, hv, Nat.le_trans hb hg, r⟩)⟩
/-- A store elsewhere. -/
theorem Own.far (h : Own enc sz e base w v xs) {p : Addr} (hp : v.ownBlock ≠ some p.block) (u : Value) : Own enc sz e base (w.setCell p u) v xs := by
  refine h.kept (row := some p.block) ⟨rfl, rfl, rfl, by simp [World.setCell], fun k hk hne => Below.heap_setCell _ _ _ _ (fun e => hne (by rw [e]))⟩ (.inr hp)
/-- What it reads as. -/
theorem Own.rd (he : Enc enc sz) (h : Own enc sz e base w v xs) : ∃ A c, v = .slice A xs.length c ∧ xs.length ≤ c ∧ c ≤ 9223372036854775807 ∧ Rd enc sz w A xs ∧ (∀ a, A = some a → base ≤ a.block) := by
  rcases h.2 with ⟨rfl, h0⟩ | ⟨g, cap, cur, rfl, hb, hh, h1, h2, h3, h4⟩
  · have : xs = [] := List.eq_nil_of_length_eq_zero h0
    subst this
    exact ⟨none, 0, rfl, Nat.le_refl _, by omega, .inl rfl, fun a ha => by cases ha⟩
  · refine ⟨_, cap, rfl, h1, by simpa [maxLen] using h2, .inr ⟨g, 0, rfl, blk_lt hh, fun i x hx j u hu => ?_⟩, fun a ha => by cases ha; exact hb⟩
    have hf := flat_get he xs i x hx j u hu
    rw [blk_cell hh, Nat.zero_add]
    rw [← h4] at hf
    have hlt := (List.getElem?_eq_some_iff.1 hf).1
    rw [List.getElem?_take_of_lt (by rw [List.length_take] at hlt; omega)] at hf
    simpa using hf
theorem Own.rd' (he : Enc enc sz) {A : Option Addr} {n c : Nat} (h : Own enc sz e base w (.slice A n c) xs) : n = xs.length ∧ xs.length ≤ c ∧ c ≤ 9223372036854775807 ∧ Rd enc sz w A xs ∧ (∀ a, A = some a → base ≤ a.block) := by
  obtain ⟨A', c', hv, h1, h2, h3, h4⟩ := h.rd he
  injection hv with e1 e2 e3
  subst e1 e3
  exact ⟨e2, h1, h2, h3, h4⟩
theorem Own.len_le (h : Own enc sz e base w v xs) : xs.length ≤ 9223372036854775807 := by
  rcases h.2 with ⟨rfl, h0⟩ | ⟨g, cap, cur, rfl, hb, hh, h1, h2, h3, h4⟩
  · omega
  · simp only [maxLen] at h2; omega
end

/-- append(v, y): in a plain region; the world is that behind the variadic's box. -/
theorem ap_own {α : Type} {enc : α → List Value} {sz : Nat} {P : Program} {ops : Array Oper} {rest : List Oper} {o : Oper} {a : Act} {W : World} {Q : Exit → Act → World → Prop} (he : Enc enc sz) (hgd : o.guard = none) (s x : Operand) (t e : TypeId) (z : Value) (bytes : Nat)
    (ho : o.op = .call { callee := .builtin .append, args := #[s, x], argTypes := #[t, t] }) (ht : P.underlying t = some (.slice e))
    (hinfo : (P.info? e).map (fun i => (i.zero, i.size, i.bytes)) = some (some z, sz, bytes)) (hz : z.cells.size = sz)
    (base : Nat) (v : Value) (xs : List α) (y : α) (cs : Array Value) (hcs : cs.toList = enc y) (hs : a.eval s = v) (H : Nat) (hH : W.heap.size = H) (hx : a.eval x = .slice (some ⟨H, 0, none⟩) 1 1)
    (HO : Own enc sz e base W v xs) (hbase : base ≤ W.heap.size) (hl : (xs.length + 1) * bytes ≤ 140737488355328) (hl' : xs.length + 1 ≤ 140737488355328)
    (h : ∀ g cap w', Own enc sz e base w' (.slice (some ⟨g, 0, none⟩) (xs.length + 1) cap) (xs ++ [y]) → W.grownBy w' v.ownBlock → (v.ownBlock = some g ∨ W.heap.size ≤ g) → g < w'.heap.size → wpList P ops Q rest (a.put o.dst (.slice (some ⟨g, 0, none⟩) (xs.length + 1) cap)) w') :
    wpList P ops Q (o :: rest) a (W.alloc (.cells cs e)) := by
  subst hH
  obtain ⟨i0, hi, hz0, hz1, hz2⟩ := info_parts hinfo
  refine wpList_append_lies (W.alloc (.cells cs e)) hgd s x t ho base e i0 z sz bytes ht hi hz0 hz1 hz2 hz he.pos v xs.length (xs.flatMap enc) hs (World.ownsRow.alloc HO _) ⟨W.heap.size, 0, none⟩ 1 1 (enc y) hx (by rw [he.len]; simp)
    (by rw [← hcs]; exact World.news_of_block (blk_new W _)) (he.one y) (by omega) (by simp only [maxLen]; omega) hl (by simp; omega) (W.heap.size + 1) (by simp) ?_
  intro g cap w' hown hg hat hlt
  refine h g cap w' (by simpa [Own] using hown) ?_ ?_ hlt
  · exact ⟨hg.os, hg.tape, hg.output, by have := hg.size; simp at this; omega, fun k hk hne => (hg.block k (by simp; omega) hne).trans (Below.heap_alloc _ _ _ hk)⟩
  · rcases hat with hat | hat
    · exact .inl hat
    · exact .inr (by omega)

/-- append(v, y): a step of a region that draws its order. -/
theorem st_own {α : Type} {enc : α → List Value} {sz : Nat} {P : Program} {ops : Array Oper} {o : Oper} {a : Act} {W W0 : World} {K : Act → World → Prop} {Q : Exit → Act → World → Prop} {E : Prop} (he : Enc enc sz) (hgd : o.guard = none) (s x : Operand) (t e : TypeId) (z : Value) (bytes : Nat)
    (ho : o.op = .call { callee := .builtin .append, args := #[s, x], argTypes := #[t, t] }) (ht : P.underlying t = some (.slice e))
    (hinfo : (P.info? e).map (fun i => (i.zero, i.size, i.bytes)) = some (some z, sz, bytes)) (hz : z.cells.size = sz)
    (base : Nat) (v : Value) (xs : List α) (y : α) (g0 : Nat) (cs : Array Value) (fr : Nat × Nat) (hg0 : W.heap[g0]? = some (.cells cs e fr)) (hcs : cs.toList = enc y) (hs : a.eval s = v) (hx : a.eval x = .slice (some ⟨g0, 0, none⟩) 1 1)
    (HO : Own enc sz e base W v xs) (hbase : base ≤ W.heap.size) (hl : (xs.length + 1) * bytes ≤ 140737488355328) (hl' : xs.length + 1 ≤ 140737488355328)
    (h : ∀ g cap w', Own enc sz e base w' (.slice (some ⟨g, 0, none⟩) (xs.length + 1) cap) (xs ++ [y]) → W.grownBy w' v.ownBlock → (v.ownBlock = some g ∨ W.heap.size ≤ g) → g < w'.heap.size → K (a.put o.dst (.slice (some ⟨g, 0, none⟩) (xs.length + 1) cap)) w') :
    if Region.wanted o (yielded ops a.tmps) = true then Oper.wp P o a W K Q else E := by
  obtain ⟨i0, hi, hz0, hz1, hz2⟩ := info_parts hinfo
  refine step_append_lies W hgd s x t ho base e i0 z sz bytes ht hi hz0 hz1 hz2 hz he.pos v xs.length (xs.flatMap enc) hs HO ⟨g0, 0, none⟩ 1 1 (enc y) hx (by rw [he.len]; simp)
    (by rw [← hcs]; exact World.news_of_block hg0) (he.one y) (by omega) (by simp only [maxLen]; omega) hl hbase W.heap.size rfl ?_
  intro g cap w' hown hg hat hlt
  exact h g cap w' (by simpa [Own] using hown) hg (hat.imp_right (fun e => by omega)) hlt

theorem Entry.ok : Enc Entry.enc 2 := ⟨fun _ => rfl, fun x u hu => by simp [Entry.enc] at hu; rcases hu with rfl | rfl <;> rfl, by omega⟩
theorem Change.ok : Enc Change.enc 5 := ⟨fun _ => rfl, fun x u hu => by simp [Change.enc] at hu; rcases hu with rfl | rfl | rfl | rfl | rfl <;> rfl, by omega⟩
def strEnc (s : Str) : List Value := [.string s]
theorem strOk : Enc strEnc 1 := ⟨fun _ => rfl, fun x u hu => by simp [strEnc] at hu; subst hu; rfl, by omega⟩
end Go.Proofs.Ytofdmkglhjpbcaa
