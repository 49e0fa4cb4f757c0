/- The last row made longer, in place; a row put behind; what extent.Free's Give is made of. -/
import Derived.Test.YtglpckdmiohciaaExt6
namespace Go.Proofs.Ytglpckdmiohciaa
open Go.RowKit
set_option linter.unusedVariables false
set_option linter.unusedSimpArgs false

/-- The last of a row has another number of pages. -/
def lastPages (xs : List Span) (p : Int) : List Span := match xs.getLast? with | some y => xs.dropLast ++ [⟨y.start, p⟩] | none => xs
theorem last_split {xs : List Span} {y : Span} (h : xs.getLast? = some y) : xs = xs.dropLast ++ [y] := by
  have hne : xs ≠ [] := by intro e; subst e; cases h
  rw [List.getLast?_eq_some_getLast hne] at h
  cases h
  exact (List.dropLast_concat_getLast hne).symm
theorem last_at {xs : List Span} (h : 0 < xs.length) : ∃ y, xs.getLast? = some y ∧ xs[xs.length - 1]? = some y := by
  have hne : xs ≠ [] := by intro e; subst e; simp at h
  refine ⟨xs.getLast hne, List.getLast?_eq_some_getLast hne, ?_⟩
  rw [← List.getLast?_eq_getElem?]
  exact List.getLast?_eq_some_getLast hne
theorem lastPages_len {xs : List Span} (p : Int) : (lastPages xs p).length = xs.length := by
  unfold lastPages
  cases h : xs.getLast? with
  | none => rfl
  | some y =>
    have := last_split h
    conv => rhs; rw [this]
    simp
theorem Own.lastPages {base g n c : Nat} {e : TypeId} {w : World} {xs : List Span} (h : Own Span.enc 2 e base w (.slice (some ⟨g, 0, none⟩) n c) xs) (h0 : 0 < xs.length) (p : Int) :
    Own Span.enc 2 e base (w.setCell ⟨g, (xs.length - 1) * 2 + 1, none⟩ (.int .i64 p)) (.slice (some ⟨g, 0, none⟩) n c) (Go.Proofs.Ytglpckdmiohciaa.lastPages xs p) := by
  obtain ⟨y, hy, _⟩ := last_at h0
  have hs := last_split hy
  have hl : xs.dropLast.length = xs.length - 1 := by simp
  have hp : Go.Proofs.Ytglpckdmiohciaa.lastPages xs p = xs.dropLast ++ [⟨y.start, p⟩] := by unfold Go.Proofs.Ytglpckdmiohciaa.lastPages; rw [hy]
  refine ⟨by rw [flat_len Span.ok], ?_⟩
  rw [lastPages_len]
  rcases h.2 with ⟨e0, _⟩ | ⟨g', cap, cur, e0, hb, hh, h1, h2, h3, h4⟩
  · cases e0
  · cases e0
    refine .inr ⟨g, c, _, rfl, hb, blk_set hh _ _, h1, h2, by simpa using h3, ?_⟩
    rw [Array.toList_setIfInBounds, List.take_set, h4, hp]
    have hf : (xs.dropLast.flatMap Span.enc).length = (xs.length - 1) * 2 := by rw [flat_len Span.ok, hl]
    conv => lhs; rw [hs]
    simp only [List.flatMap_append, List.flatMap_cons, List.flatMap_nil, List.append_nil, List.length_append, List.length_cons, List.length_nil, hl]
    rw [show xs.length - 1 + (0 + 1) - 1 = xs.length - 1 from by omega, List.set_append_right _ _ (by omega), hf, show (xs.length - 1) * 2 + 1 - (xs.length - 1) * 2 = 1 from by omega]
    rfl
theorem joinR_last {acc : List Span} {r y : Span} (h : acc.getLast? = some y) (e : y.start + y.pages = r.start) : joinR acc r = lastPages acc (y.pages + r.pages) := by
  unfold joinR lastPages; rw [h]; simp [e]
theorem joinR_snoc {acc : List Span} {r : Span} (h : ∀ y, acc.getLast? = some y → y.start + y.pages ≠ r.start) : joinR acc r = acc ++ [r] := by
  unfold joinR
  cases hy : acc.getLast? with
  | none => rfl
  | some y => simp [h y hy]
theorem Rise.take {n : Int} : ∀ {l : List Span} {lo : Int} (k : Nat), Rise lo n l → Rise lo n (l.take k)
  | [], _, k, _ => by simp [Rise]
  | x :: l, lo, 0, _ => trivial
  | x :: l, lo, k + 1, ⟨h1, h2, h3, h4⟩ => ⟨h1, h2, h3, h4.take k⟩
section
variable {w w' wr : World} {g : Nat} {F F' : Nat → Prop} {D D' : Fr} {A : Option Addr} {L : List Span}
/-- Within Give: what is joined so far, the set's own; the rows that are to be joined beside it. -/
def GiveI (w wr : World) (g : Nat) (F : Nat → Prop) (D : Fr) (A : Option Addr) (L : List Span) : Prop :=
  ∃ F', FrAt wr g F' D ∧ (∀ i, F' i → F i ∨ w.heap.size ≤ i) ∧ Chg F w wr ∧ Rd Span.enc 2 wr A L ∧ (∀ a, A = some a → ¬ F' a.block ∧ a.block < wr.heap.size)
theorem GiveI.did (h : GiveI w wr g F D A L) : FrDid F w wr g D := by obtain ⟨F', a, b, c, d, e⟩ := h; exact ⟨F', a, c, b⟩
theorem GiveI.rd (h : GiveI w wr g F D A L) : Rd Span.enc 2 wr A L := by obtain ⟨F', a, b, c, d, e⟩ := h; exact d
theorem GiveI.step (h : GiveI w wr g F D A L) (hs : ∀ F', FrAt wr g F' D → FrDid F' wr w' g D') : GiveI w w' g F D' A L := by
  obtain ⟨F', a, b, c, d, e⟩ := h
  obtain ⟨F2, a2, c2, b2⟩ := hs F' a
  refine ⟨F2, a2, fun i hi => ?_, c.trans c2 (fun i hi hf => (b i hf).resolve_right (by omega)), d.chg c2 (fun x hx => (e x hx).1), fun x hx => ⟨fun hf => ?_, Nat.lt_of_lt_of_le (e x hx).2 c2.size⟩⟩
  · rcases b2 i hi with q | q
    · exact b i q
    · exact .inr (Nat.le_trans c.size q)
  · rcases b2 _ hf with q | q
    · exact (e x hx).1 q
    · have := (e x hx).2; omega
theorem GiveI.below (h : GiveI w wr g F D A L) (hb : Below wr.heap.size wr w') : GiveI w w' g F D A L := h.step fun F' a => FrDid.of_below a hb
/-- A row's element in a block that the round has just made. -/
theorem GiveI.fresh (h : GiveI w wr g F D A L) (r : Span) : GiveI w (wr.alloc (.cells #[.int .i64 r.start, .int .i64 r.pages] 90)) g F D (some ⟨wr.heap.size, 0, none⟩) [r] := by
  obtain ⟨F', a, b, c, d, e⟩ := h
  refine ⟨F', a.alloc _, b, c.trans (Chg.alloc wr _ F) (fun _ _ q => q), Rd.lit (blk_new wr (.cells r.cells 90)) rfl, fun x hx => ?_⟩
  cases hx
  exact ⟨fun hf => Nat.lt_irrefl _ (a.lt _ hf), by simp⟩
/-- Its third cell and its last row, for a walk. -/
theorem GiveI.cells (h : GiveI w wr g F D A L) : ∃ (B : Option Addr) (c : Nat), wr.cell? ⟨g, 2, none⟩ = some (.slice B D.l.length c) ∧ wr.frozen? ⟨g, 2, none⟩ = false ∧ g < wr.heap.size ∧ D.l.length ≤ c ∧ c ≤ 9223372036854775807 ∧
    Own Span.enc 2 90 0 wr (.slice B D.l.length c) D.l ∧ (0 < D.l.length → ∃ b y, B = some ⟨b, 0, none⟩ ∧ b < wr.heap.size ∧ b ≠ g ∧ D.l.getLast? = some y ∧ wr.cell? ⟨b, (D.l.length - 1) * 2, none⟩ = some (.int .i64 y.start) ∧ wr.cell? ⟨b, (D.l.length - 1) * 2 + 1, none⟩ = some (.int .i64 y.pages) ∧ ∀ j, wr.frozen? ⟨b, j, none⟩ = false) := by
  obtain ⟨F', a, b, c, d, e⟩ := h
  obtain ⟨B, cc, c0, c1, c2, fz, ho, hr, hc, hv, hb⟩ := a.cells
  refine ⟨B, cc, c2, fz 2, a.glt, hc, (ho.rd' Span.ok).2.2.1, ho, fun h0 => ?_⟩
  obtain ⟨y, hy, hy2⟩ := last_at h0
  rcases ho.2 with ⟨e0, _⟩ | ⟨g', cap, cur, e0, hbb, hh, _⟩
  · injection e0 with e1 e2 e3; omega
  · injection e0 with e1 e2 e3
    subst e1
    obtain ⟨z0, z1⟩ := Rd.span hr hy2
    rw [Nat.zero_add] at z0 z1
    exact ⟨g', y, rfl, blk_lt hh, (hv g' rfl).1, hy, z0, z1, fun j => blk_free hh j⟩
/-- The last row is made longer. -/
theorem GiveI.bump (h : GiveI w wr g F D A L) {b c : Nat} (hB : wr.cell? ⟨g, 2, none⟩ = some (.slice (some ⟨b, 0, none⟩) D.l.length c)) (h0 : 0 < D.l.length) (p : Int) (hk : Fr.Ok { D with l := lastPages D.l p }) :
    GiveI w (wr.setCell ⟨b, (D.l.length - 1) * 2 + 1, none⟩ (.int .i64 p)) g F { D with l := lastPages D.l p } A L := by
  refine h.step fun F' a => ?_
  obtain ⟨B, cc, c0, c1, c2, fz, ho, hr, hc, hv, hb⟩ := a.cells
  rw [hB] at c2
  cases c2
  obtain ⟨hbg, hbF⟩ := hv b rfl
  refine a.put _ (.slice (some ⟨b, 0, none⟩) D.l.length c) (blk_far hb (fun e => hbg e.symm) _) (ho.lastPages h0 p) (fun k e => by cases e; exact ⟨hbg, .inl hbF⟩) (Chg.set wr _ hbF) hk
/-- A row is put behind the others. -/
theorem GiveI.snoc (h : GiveI w wr g F D A L) {v v' : Value} (hB : wr.cell? ⟨g, 2, none⟩ = some v) {w2 : World} {r : Span} (ho : Own Span.enc 2 90 0 w2 v' (D.l ++ [r])) (hg : wr.grownBy w2 v.ownBlock) (hn : ∀ k, v'.ownBlock = some k → v.ownBlock = some k ∨ wr.heap.size ≤ k) (hk : Fr.Ok { D with l := D.l ++ [r] }) :
    GiveI w (w2.setCell ⟨g, 2, none⟩ v') g F { D with l := D.l ++ [r] } A L := by
  refine h.step fun F' a => ?_
  obtain ⟨B, cc, c0, c1, c2, fz, _, hr, hc, hv, hb⟩ := a.cells
  rw [hB] at c2
  cases c2
  have hgl := a.glt
  have hvg : some g ≠ (Value.slice B D.l.length cc).ownBlock := fun e => (hv g e.symm).1 rfl
  have hv'g : ∀ k, v'.ownBlock = some k → k ≠ g := fun k e q => by
    subst q
    rcases hn k e with q | q
    · exact hvg q.symm
    · omega
  refine a.put _ v' (blk_set' (by rw [hg.block g hgl hvg]; exact hb) 2 v' rfl) (ho.far (p := ⟨g, 2, none⟩) (fun e => hv'g g e rfl) v') (fun k e => ⟨hv'g k e, (hn k e).imp (fun q => (hv k q).2) (fun q => q)⟩) ?_ hk
  exact (Chg.grownO hg (fun k e => (hv k e).2)).trans (Chg.set w2 v' a.fg) (fun _ _ q => q)
end
end Go.Proofs.Ytglpckdmiohciaa
