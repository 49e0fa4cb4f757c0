/- append in general: a slice that has no room; nothing appended; a row of the call's own onto which another is appended. No program is named here. -/
import Derived.Test.YtofdmkglhjpbcaaOwn
import Derived.Deep.AppendSrc
import Derived.Deep.Upon
namespace Go.Proofs.Ytofdmkglhjpbcaa
open Go.RowKit
set_option linter.unusedVariables false
set_option linter.unusedSimpArgs false

section
variable {α : Type} {enc : α → List Value} {sz : Nat} {P : Program}

/-- The cells of a row that is read. -/
theorem Rd.cells (he : Enc enc sz) {w : World} {b off : Nat} {xs : List α} (h : Rd enc sz w (some ⟨b, off, none⟩) xs) : ∀ j u, (xs.flatMap enc)[j]? = some u → w.cell? ((⟨b, off, none⟩ : Addr).add j) = some u := by
  intro j u hu
  have hadd : (⟨b, off, none⟩ : Addr).add j = ⟨b, off + j, none⟩ := by unfold Addr.add; split <;> simp_all
  rw [hadd]
  rcases h with h | ⟨b', off', heq, hlt, hc⟩
  · subst h; simp at hu
  · cases heq
    have hj := (List.getElem?_eq_some_iff.1 hu).1
    rw [flat_len he] at hj
    have hi : j / sz < xs.length := Nat.div_lt_of_lt_mul (by rw [Nat.mul_comm]; exact hj)
    have hm : j % sz < sz := Nat.mod_lt _ he.pos
    have hx : xs[j / sz]? = some xs[j / sz] := List.getElem?_eq_getElem hi
    have hv : (enc xs[j / sz])[j % sz]? = some ((enc xs[j / sz])[j % sz]'(by rw [he.len]; exact hm)) := List.getElem?_eq_getElem _
    have hf := flat_get he xs _ _ hx _ _ hv
    have hdm : j / sz * sz + j % sz = j := by rw [Nat.mul_comm]; exact Nat.div_add_mod j sz
    rw [hdm, hu] at hf
    have := hc _ _ hx _ _ hv
    rw [Nat.add_assoc, hdm] at this
    rw [this, hf]

theorem flat_one (he : Enc enc sz) (xs : List α) : ∀ u ∈ xs.flatMap enc, u.oneCell' = true := by
  intro u hu
  obtain ⟨x, _, hx⟩ := List.mem_flatMap.1 hu
  exact he.one x u hx

/-- What is appended, as the library's laws take it. -/
theorem Rd.src (he : Enc enc sz) {t e : TypeId} (ht : P.underlying t = some (.slice e)) {w : World} {A : Option Addr} {xs : List α} (c : Nat) (h : Rd enc sz w A xs) : Src P sz t (.slice A xs.length c) xs.length (xs.flatMap enc) w := by
  cases A with
  | none =>
    rcases h with h | ⟨b, off, heq, _⟩
    · subst h; exact Src.ofNil w ht c
    · cases heq
  | some a =>
    by_cases hx : xs = []
    · subst hx
      exact Src.ofSlice w ht a 0 c [] (by simp) (by simp) (by simp)
    · rcases h with h | ⟨b, off, heq, hlt, hc⟩
      · exact absurd h hx
      · cases heq
        exact Src.ofSlice w ht _ _ c _ (flat_len he xs) (Rd.cells he (.inr ⟨b, off, rfl, hlt, hc⟩)) (flat_one he xs)

theorem op_append {o : Oper} {a : Act} {W w' : World} {K : Act → World → Prop} {Q : Exit → Act → World → Prop} (s x : Operand) (t : TypeId)
    (ho : o.op = .call { callee := .builtin .append, args := #[s, x], argTypes := #[t, t] }) {v u r : Value} (hs : a.eval s = v) (hx : a.eval x = u)
    (hr : (Builtin.append_ #[t, t] o.type #[v, u]).run P W = .ok r w') (h : K (a.put o.dst r) w') : Oper.wp P o a W K Q := by
  unfold Oper.wp execOp
  simp only [ho, resolve, invoke, builtin, Sem.run_bind, Sem.run_pure, Result.andThen_ok, List.map_toArray, List.map_cons, List.map_nil, hs, hx, hr]
  exact h

theorem op_grow (he : Enc enc sz) {o : Oper} {a : Act} {W : World} {K : Act → World → Prop} {Q : Exit → Act → World → Prop} (s x : Operand) (t e : TypeId) (z : Value) (bytes : Nat)
    (ho : o.op = .call { callee := .builtin .append, args := #[s, x], argTypes := #[t, t] }) (ht : P.underlying t = some (.slice e))
    (hinfo : (P.info? e).map (fun i => (i.zero, i.size, i.bytes)) = some (some z, sz, bytes)) (hz : z.cells.size = sz)
    (A B : Option Addr) (sCap c : Nat) (olds news : List α) (n m : Nat) (hn : olds.length = n) (hm : news.length = m) (hs : a.eval s = .slice A n sCap) (hx : a.eval x = .slice B m c)
    (hro : Rd enc sz W A olds) (hrn : Rd enc sz W B news) (hg : sCap < n + m) (hl : (n + m) * bytes ≤ 140737488355328) (hl' : n + m ≤ 140737488355328) (H : Nat) (hH : W.heap.size = H)
    (h : ∀ cap w', Own enc sz e W.heap.size w' (.slice (some ⟨H, 0, none⟩) (n + m) cap) (olds ++ news) → Below W.heap.size W w' → H < w'.heap.size → K (a.put o.dst (.slice (some ⟨H, 0, none⟩) (n + m) cap)) w') : Oper.wp P o a W K Q := by
  subst hn hm hH
  obtain ⟨i0, hi, hz0, hz1, hz2⟩ := info_parts hinfo
  subst hz1 hz2
  have hold : (Builtin.firstCells i0.size olds.length (.slice A olds.length sCap)).run P W.drew = .ok (olds.flatMap enc).toArray W.drew := (Rd.src (P := P) he ht sCap hro).cellsD
  refine op_append s x t ho hs hx (run_append_grow_src W t t o.type e i0 z ht hi hz0 A olds.length sCap (olds.flatMap enc) hold _ news.length (news.flatMap enc) (Rd.src he ht c hrn) hg (by omega) (growslice_fits hg hl)) ?_
  have hge := grownCap_ge W (olds.length + news.length) sCap e
  have hcm := grownCap_le_maxLen W (olds.length + news.length) sCap e (by simp only [maxLen]; omega)
  refine h _ _ ⟨by rw [flat_len he], .inr ⟨W.heap.size, _, _, by rw [List.length_append], Nat.le_refl _, blk_new W.drew _, by simpa using hge, hcm, ?_, ?_⟩⟩ ?_ (by simp)
  · simp only [Array.size_append, List.size_toArray, size_zeroCells, hz, List.length_append, flat_len he, ← Nat.add_mul]
    congr 1
    omega
  · simp only [Array.toList_append, List.flatMap_append]
    rw [List.take_append_of_le_length (by simp [flat_len he, Nat.add_mul]), List.take_of_length_le (by simp [flat_len he, Nat.add_mul])]
  · exact ((Below.refl _ _).drew).alloc (Nat.le_refl _) _

theorem op_nothing {o : Oper} {a : Act} {W : World} {K : Act → World → Prop} {Q : Exit → Act → World → Prop} (s x : Operand) (t e : TypeId) (z : Value) (bytes : Nat)
    (ho : o.op = .call { callee := .builtin .append, args := #[s, x], argTypes := #[t, t] }) (ht : P.underlying t = some (.slice e))
    (hinfo : (P.info? e).map (fun i => (i.zero, i.size, i.bytes)) = some (some z, sz, bytes))
    (A B : Option Addr) (n sCap c : Nat) (hle : n ≤ sCap) (hs : a.eval s = .slice A n sCap) (hx : a.eval x = .slice B 0 c)
    (h : K (a.put o.dst (.slice A n sCap)) W) : Oper.wp P o a W K Q := by
  obtain ⟨i0, hi, hz0, hz1, hz2⟩ := info_parts hinfo
  have hsrc : Src P i0.size t (.slice B 0 c) 0 [] W := by
    cases B with
    | none => exact Src.ofNil W ht c
    | some b => exact Src.ofSlice W ht b 0 c [] (by simp) (by simp) (by simp)
  exact op_append s x t ho hs hx (run_append_nothing W t t o.type e i0 ht hi A n sCap hle _ hsrc) h

/-- append(v, xs...), v a row of the call's own, xs whatever is read and not empty. -/
theorem op_ownN (he : Enc enc sz) {o : Oper} {a : Act} {W : World} {K : Act → World → Prop} {Q : Exit → Act → World → Prop} (s x : Operand) (t e : TypeId) (z : Value) (bytes : Nat)
    (ho : o.op = .call { callee := .builtin .append, args := #[s, x], argTypes := #[t, t] }) (ht : P.underlying t = some (.slice e))
    (hinfo : (P.info? e).map (fun i => (i.zero, i.size, i.bytes)) = some (some z, sz, bytes)) (hz : z.cells.size = sz)
    (base : Nat) (v : Value) (xs : List α) (B : Option Addr) (c : Nat) (news : List α) (m : Nat) (hm : news.length = m) (hpos : news ≠ []) (hs : a.eval s = v) (hx : a.eval x = .slice B m c)
    (HO : Own enc sz e base W v xs) (hrn : Rd enc sz W B news) (hbase : base ≤ W.heap.size) (hl : (xs.length + m) * bytes ≤ 140737488355328) (hl' : xs.length + m ≤ 140737488355328)
    (h : ∀ g cap w', Own enc sz e base w' (.slice (some ⟨g, 0, none⟩) (xs.length + m) cap) (xs ++ news) → W.grownBy w' v.ownBlock → (v.ownBlock = some g ∨ W.heap.size ≤ g) → g < w'.heap.size → K (a.put o.dst (.slice (some ⟨g, 0, none⟩) (xs.length + m) cap)) w') : Oper.wp P o a W K Q := by
  subst hm
  obtain ⟨i0, hi, hz0, hz1, hz2⟩ := info_parts hinfo
  rcases hrn with h0 | ⟨b, off, rfl, hlt, hc⟩
  · exact absurd h0 hpos
  have hm0 : 0 < news.length := by cases news with | nil => exact absurd rfl hpos | cons y l => simp
  refine wp_append_lies W s x t ho base e i0 z sz bytes ht hi hz0 hz1 hz2 hz he.pos v xs.length (xs.flatMap enc) hs HO ⟨b, off, none⟩ news.length c (news.flatMap enc) hx (flat_len he news)
    (Rd.cells he (.inr ⟨b, off, rfl, hlt, hc⟩)) (flat_one he news) hm0 (by simp only [maxLen]; omega) hl hbase W.heap.size rfl ?_
  intro g cap w' hown hg hat hlt
  exact h g cap w' (by simpa [Own] using hown) hg (hat.imp_right (fun e => by omega)) hlt
end

/-- A law at the operation, in a plain region and at a step of one that draws its order. -/
theorem at_list {P : Program} {ops : Array Oper} {rest : List Oper} {o : Oper} {a : Act} {W : World} {Q : Exit → Act → World → Prop} (hgd : o.guard = none) (h : ∀ K : Act → World → Prop, (∀ a w, wpList P ops Q rest a w → K a w) → Oper.wp P o a W K Q) : wpList P ops Q (o :: rest) a W := wpList_plain hgd h
theorem at_step {P : Program} {ops : Array Oper} {o : Oper} {a : Act} {W : World} {K : Act → World → Prop} {Q : Exit → Act → World → Prop} {E : Prop} (hgd : o.guard = none) (h : Oper.wp P o a W K Q) :
    if Region.wanted o (yielded ops a.tmps) = true then Oper.wp P o a W K Q else E := by
  rw [if_pos (by simp [Region.wanted, hgd])]
  exact h
end Go.Proofs.Ytofdmkglhjpbcaa
