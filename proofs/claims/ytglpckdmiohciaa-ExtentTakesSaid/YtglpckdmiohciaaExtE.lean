/- law06.ExtentTakes: what holds between its rounds. -/
import Derived.Test.YtglpckdmiohciaaExtD
namespace Go.Proofs.Ytglpckdmiohciaa
open Go.RowKit
set_option linter.unusedVariables false
set_option linter.unusedSimpArgs false

def Span.has (s : Span) (j : Int) : Prop := s.start ≤ j ∧ j < s.start + s.pages
/-- What was taken of D0, D being left. -/
structure TakP (D0 D : Fr) (tk : List Span) : Prop where
  lo : D.lo = D0.lo
  n : D.n = D0.n
  inn : ∀ j, inL D.l j ↔ inL D0.l j ∧ ∀ t ∈ tk, ¬ t.has j
  all : ∀ t ∈ tk, D0.there t = true ∧ ∀ j, t.has j → inL D0.l j
  apart : tk.Pairwise fun s t => ∀ j, s.has j → ¬ t.has j
theorem takP_begin (D : Fr) : TakP D D [] := ⟨rfl, rfl, fun j => by simp, (fun t h => by cases h), List.Pairwise.nil⟩
theorem there_eq {D D' : Fr} (h1 : D.lo = D'.lo) (h2 : D.n = D'.n) (s : Span) : D.there s = D'.there s := by unfold Fr.there; rw [h1, h2]
theorem there_pages {D : Fr} {s : Span} (h : D.there s = true) : 1 ≤ s.pages := by simp only [Fr.there, decide_eq_true_eq] at h; exact h.1
theorem there_num {D : Fr} {s : Span} (hk : D.Ok) (h : D.there s = true) : 0 ≤ s.start ∧ 1 ≤ s.pages ∧ s.start + s.pages ≤ 16384 := by
  simp only [Fr.there, decide_eq_true_eq] at h
  have := hk.lo0
  have := hk.n1
  omega
section
variable {D0 D : Fr} {tk : List Span}
/-- One more is taken. -/
theorem TakP.take (h : TakP D0 D tk) (hk : D.Ok) {n : Int} (hy : (D.take n).1.2 = true) : TakP D0 (D.take n).2 (tk ++ [⟨(D.take n).1.1, n⟩]) ∧ (∀ t ∈ tk, ∀ j, t.has j → ¬ (⟨(D.take n).1.1, n⟩ : Span).has j) ∧ D0.there ⟨(D.take n).1.1, n⟩ = true := by
  obtain ⟨h1, h2, h3, h4, h5, h6, _⟩ := Fr.take_yes hk hy
  have hap : ∀ t ∈ tk, ∀ j, t.has j → ¬ (⟨(D.take n).1.1, n⟩ : Span).has j := fun t ht j hj hs => ((h.inn j).1 (h3 j hs.1 hs.2)).2 t ht hj
  have hth : D0.there ⟨(D.take n).1.1, n⟩ = true := by rw [← there_eq h.lo h.n]; exact h2
  refine ⟨⟨h4.trans h.lo, h5.trans h.n, fun j => ?_, fun t ht => ?_, ?_⟩, hap, hth⟩
  · rw [h6, h.inn]
    constructor
    · rintro ⟨⟨a, b⟩, c⟩
      refine ⟨a, fun t ht => ?_⟩
      rcases List.mem_append.1 ht with q | q
      · exact b t q
      · simp at q
        subst q
        exact c
    · rintro ⟨a, b⟩
      exact ⟨⟨a, fun t ht => b t (List.mem_append_left _ ht)⟩, b _ (List.mem_append_right _ List.mem_cons_self)⟩
  · rcases List.mem_append.1 ht with q | q
    · exact h.all t q
    · simp at q
      subst q
      exact ⟨hth, fun j hj => ((h.inn j).1 (h3 j hj.1 hj.2)).1⟩
  · rw [List.pairwise_append]
    refine ⟨h.apart, List.pairwise_singleton _ _, fun a ha b hb => ?_⟩
    simp at hb
    subst hb
    exact hap a ha
/-- None is taken: no row is so long. -/
theorem take_no_max (hk : D.Ok) {n : Int} (hy : ¬ (D.take n).1.2 = true) (h1 : 1 ≤ n) : maxL D.l < n := by
  rcases (Fr.take_no hk hy).2 with q | q
  · omega
  · exact maxL_lt D.l 0 (by omega) q
/-- The first of those that were taken is given back. -/
theorem TakP.give {t : Span} (h : TakP D0 D (t :: tk)) (hk : D.Ok) : D.has t = false ∧ (D.give t).1 = true ∧ TakP D0 (D.give t).2 tk ∧ ∀ D', D' = (D.give t).2 → D'.Ok → D'.give t = (false, D') := by
  obtain ⟨ht1, ht2⟩ := h.all t List.mem_cons_self
  have hth : D.there t = true := by rw [there_eq h.lo h.n]; exact ht1
  have hp := there_pages hth
  have hno : ∀ j, t.has j → ¬ inL D.l j := fun j hj hi => ((h.inn j).1 hi).2 t List.mem_cons_self hj
  have hfree : D.free t = true := (Fr.free_iff hk).2 ⟨hth, fun j a b => hno j ⟨a, b⟩⟩
  obtain ⟨g1, g2, g3, g4⟩ := Fr.give_yes hk hfree
  have hap := List.pairwise_cons.1 h.apart
  refine ⟨?_, g1, ⟨g2.trans h.lo, g3.trans h.n, fun j => ?_, fun s hs => h.all s (List.mem_cons_of_mem _ hs), hap.2⟩, fun D' e hk' => ?_⟩
  · cases hh : D.has t with
    | false => rfl
    | true => exact absurd (((Fr.has_iff hk).1 hh).2 t.start (by omega) (by omega)) (hno _ ⟨by omega, by omega⟩)
  · rw [g4, h.inn]
    constructor
    · rintro (⟨a, b⟩ | q)
      · exact ⟨a, fun s hs => b s (List.mem_cons_of_mem _ hs)⟩
      · exact ⟨ht2 j q, fun s hs => hap.1 s hs j q⟩
    · rintro ⟨a, b⟩
      by_cases q : t.has j
      · exact .inr q
      · refine .inl ⟨a, fun s hs => ?_⟩
        rcases List.mem_cons.1 hs with rfl | hs
        · exact q
        · exact b s hs
  · refine Fr.give_no fun hf => ?_
    have := ((Fr.free_iff hk').1 hf).2 t.start (by omega) (by omega)
    rw [e, g4] at this
    exact this (.inr ⟨by omega, by omega⟩)
theorem TakP.done (h : TakP D0 D []) (hk0 : D0.Ok) (hk : D.Ok) : D.l = D0.l := norm_eq hk.norm hk0.norm (fun j => by rw [h.inn]; simp)
end
/-- Between two rounds: the set, the rows that were there, those that were taken. -/
def TakS (W1 wr : World) (g : Nat) (D : Fr) (A : Option Addr) (was : List Span) (v : Value) (tk : List Span) : Prop :=
  ∃ F, FrAt wr g F D ∧ (∀ i, F i → W1.heap.size ≤ i) ∧ Below W1.heap.size W1 wr ∧ Rd Span.enc 2 wr A was ∧ (∀ a, A = some a → ¬ F a.block ∧ a.block < wr.heap.size ∧ W1.heap.size ≤ a.block) ∧ Own Span.enc 2 90 W1.heap.size wr v tk ∧ ∀ k, v.ownBlock = some k → ¬ F k ∧ ∀ a, A = some a → a.block ≠ k
section
variable {W1 wr w3 : World} {g : Nat} {D D' : Fr} {A : Option Addr} {was tk : List Span} {v v' : Value}
theorem TakS.frB (h : TakS W1 wr g D A was v tk) : FrB W1 wr g D := by obtain ⟨F, a, b, c, d⟩ := h; exact ⟨F, a, b, c⟩
theorem TakS.okD (h : TakS W1 wr g D A was v tk) : D.Ok := h.frB.okD
theorem TakS.bl (h : TakS W1 wr g D A was v tk) : Below W1.heap.size W1 wr := h.frB.bl
theorem TakS.rd (h : TakS W1 wr g D A was v tk) : Rd Span.enc 2 wr A was := by obtain ⟨F, a, b, c, d, e⟩ := h; exact d
theorem TakS.own (h : TakS W1 wr g D A was v tk) : Own Span.enc 2 90 W1.heap.size wr v tk := by obtain ⟨F, a, b, c, d, e, f, _⟩ := h; exact f
theorem TakS.stepF {F : Nat → Prop} (a : FrAt wr g F D) (b : ∀ i, F i → W1.heap.size ≤ i) (c : Below W1.heap.size W1 wr) (d : Rd Span.enc 2 wr A was) (e : ∀ a, A = some a → ¬ F a.block ∧ a.block < wr.heap.size ∧ W1.heap.size ≤ a.block) (f : Own Span.enc 2 90 W1.heap.size wr v tk) (q : ∀ k, v.ownBlock = some k → ¬ F k ∧ ∀ a, A = some a → a.block ≠ k) (hs : FrDid F wr w3 g D') : TakS W1 w3 g D' A was v tk := by
  obtain ⟨F', k1, k2, k3⟩ := hs
  refine ⟨F', k1, fun i hi => (k3 i hi).elim (b i) (fun z => Nat.le_trans c.size z), c.trans (k2.below c.size b), d.chg k2 (fun x hx => (e x hx).1), fun x hx => ⟨fun hf => ?_, Nat.lt_of_lt_of_le (e x hx).2.1 k2.size, (e x hx).2.2⟩, f.chg k2 (fun k hk => (q k hk).1), fun k hk => ⟨fun hf => ?_, (q k hk).2⟩⟩
  · rcases k3 _ hf with z | z
    · exact (e x hx).1 z
    · have := (e x hx).2.1; omega
  · rcases k3 _ hf with z | z
    · exact (q k hk).1 z
    · have := (f.lt k hk).2; omega
theorem TakS.below (h : TakS W1 wr g D A was v tk) (hb : Below wr.heap.size wr w3) : TakS W1 w3 g D A was v tk := by
  obtain ⟨F, a, b, c, d, e, f, q⟩ := h
  exact TakS.stepF a b c d e f q (FrDid.of_below a hb)
theorem TakS.belowF {F : Nat → Prop} (h : FrAt wr g F D ∧ (∀ i, F i → W1.heap.size ≤ i) ∧ Below W1.heap.size W1 wr ∧ Rd Span.enc 2 wr A was ∧ (∀ a, A = some a → ¬ F a.block ∧ a.block < wr.heap.size ∧ W1.heap.size ≤ a.block) ∧ Own Span.enc 2 90 W1.heap.size wr v tk ∧ ∀ k, v.ownBlock = some k → ¬ F k ∧ ∀ a, A = some a → a.block ≠ k) (hb : Below wr.heap.size wr w3) :
    FrAt w3 g F D ∧ (∀ i, F i → W1.heap.size ≤ i) ∧ Below W1.heap.size W1 w3 ∧ Rd Span.enc 2 w3 A was ∧ (∀ a, A = some a → ¬ F a.block ∧ a.block < w3.heap.size ∧ W1.heap.size ≤ a.block) ∧ Own Span.enc 2 90 W1.heap.size w3 v tk ∧ ∀ k, v.ownBlock = some k → ¬ F k ∧ ∀ a, A = some a → a.block ≠ k := by
  obtain ⟨a, b, c, d, e, f, q⟩ := h
  exact ⟨a.below hb, b, bl_then c c.size hb, d.below hb (Nat.le_refl _), fun x hx => ⟨(e x hx).1, Nat.lt_of_lt_of_le (e x hx).2.1 hb.size, (e x hx).2.2⟩, f.below hb, q⟩
/-- Given back, with an element beside it, in a block that the round has made. -/
theorem takS_give2 (h : TakS W1 wr g D A was v tk) (s : Span) {o : Obj} {w2 : World} (hb : Below (wr.alloc o).heap.size (wr.alloc o) w2) : Calls Try.prog 57 #[.pointer (some ⟨g, 0, none⟩), .agg #[.int .i64 s.start, .int .i64 s.pages]] w2 fun e w' => e = .returned (.bool (D.give s).1) ∧ TakS W1 w' g (D.give s).2 A was v tk ∧ w'.heap[wr.heap.size]? = w2.heap[wr.heap.size]? := by
  obtain ⟨F, h⟩ := h
  have hnF : ¬ F wr.heap.size := fun hf => Nat.lt_irrefl _ (h.1.lt _ hf)
  have hb2 : Below wr.heap.size wr w2 := bl_then (bl_alloc (Below.refl _ wr) o) (by simp) hb
  have hlt : wr.heap.size < w2.heap.size := by have := hb.size; simp at this; omega
  obtain ⟨a, b, c, d, e, f, q⟩ := TakS.belowF h hb2
  exact (give_calls a s).mono fun e' w' hh => ⟨hh.1, TakS.stepF a b c d e f q hh.2, by
    obtain ⟨F', k1, k2, k3⟩ := hh.2
    exact k2.block _ hlt hnF⟩
theorem TakS.calls {fk : FuncId} {args : Array Value} {R : Ending → Prop} (h : TakS W1 wr g D A was v tk) (hc : ∀ F, FrAt wr g F D → Calls Try.prog fk args wr fun e w' => R e ∧ FrDid F wr w' g D') :
    Calls Try.prog fk args wr fun e w' => R e ∧ TakS W1 w' g D' A was v tk := by
  obtain ⟨F, a, b, c, d, e, f, q⟩ := h
  exact (hc F a).mono fun e' w' hh => ⟨hh.1, TakS.stepF a b c d e f q hh.2⟩
theorem TakS.begin (h : FrB W1 wr g D) (hb : Below wr.heap.size wr w3) (ho : Own Span.enc 2 90 wr.heap.size w3 v was) : ∃ A c, v = .slice A was.length c ∧ was.length ≤ c ∧ c ≤ 9223372036854775807 ∧ TakS W1 w3 g D A was (.slice none 0 0) [] := by
  obtain ⟨A, c, rfl, h1, h2, h3, h4⟩ := ho.rd Span.ok
  obtain ⟨F, a, b, d⟩ := h
  refine ⟨A, c, rfl, h1, h2, F, a.below hb, b, bl_then d d.size hb, h3, fun x hx => ⟨fun hf => ?_, ?_, ?_⟩, Own.nil, fun k hk => by cases hk⟩
  · have := h4 x hx; have := a.lt _ hf; omega
  · rcases ho.2 with ⟨e0, _⟩ | ⟨g', cap, cur, e0, hb', hh, _⟩
    · rw [hx] at e0; cases e0
    · rw [hx] at e0; cases e0; exact blk_lt hh
  · exact Nat.le_trans d.size (h4 x hx)
/-- One more is put to those that were taken. -/
theorem TakS.snoc (h : TakS W1 wr g D A was v tk) {x : Span} (ho : Own Span.enc 2 90 W1.heap.size w3 v' (tk ++ [x])) (hg : wr.grownBy w3 v.ownBlock) (hn : ∀ k, v'.ownBlock = some k → v.ownBlock = some k ∨ wr.heap.size ≤ k) : TakS W1 w3 g D A was v' (tk ++ [x]) := by
  obtain ⟨F, a, b, c, d, e, f, q⟩ := h
  have hc : Chg (fun i => v.ownBlock = some i) wr w3 := Chg.grownO hg (fun k hk => hk)
  refine ⟨F, a.chg hc (fun i hi hv => (q i hv).1 hi), b, c.grown hg c.size (fun k hk => (f.lt k hk).1), d.chg hc (fun x hx hv => (q _ hv).2 x hx rfl), fun x hx => ⟨(e x hx).1, Nat.lt_of_lt_of_le (e x hx).2.1 hg.size, (e x hx).2.2⟩, ho, fun k hk => ?_⟩
  rcases hn k hk with z | z
  · exact q k z
  · exact ⟨fun hf => by have := a.lt k hf; omega, fun x hx => by have := (e x hx).2.1; omega⟩
theorem takS_take (h : TakS W1 wr g D A was v tk) (n : Int) : Calls Try.prog 54 #[.pointer (some ⟨g, 0, none⟩), .int .i64 n] wr fun e w' => e = .returned (.tuple #[.int .i64 (D.take n).1.1, .bool (D.take n).1.2]) ∧ TakS W1 w' g (D.take n).2 A was v tk :=
  h.calls (R := fun e => e = .returned (.tuple #[.int .i64 (D.take n).1.1, .bool (D.take n).1.2])) fun F a => take_calls a n
theorem takS_give (h : TakS W1 wr g D A was v tk) (s : Span) : Calls Try.prog 57 #[.pointer (some ⟨g, 0, none⟩), .agg #[.int .i64 s.start, .int .i64 s.pages]] wr fun e w' => e = .returned (.bool (D.give s).1) ∧ TakS W1 w' g (D.give s).2 A was v tk :=
  h.calls (R := fun e => e = .returned (.bool (D.give s).1)) fun F a => give_calls a s
end
end Go.Proofs.Ytglpckdmiohciaa
