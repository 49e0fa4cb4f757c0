/- A set of free pages (extent.Free): what it is in this claim's own words, how it lies in memory; its small functions. -/
import Derived.Test.YtglpckdmiohciaaChg
import Derived.Test.YtglpckdmiohciaaProg
import Derived.Test.YtglpckdmiohciaaAppendS
namespace Go.Proofs.Ytglpckdmiohciaa
open Go.RowKit
set_option linter.unusedVariables false
set_option linter.unusedSimpArgs false

structure Span where
  start : Int
  pages : Int
deriving DecidableEq, Inhabited
def Span.enc (s : Span) : List Value := [.int .i64 s.start, .int .i64 s.pages]
def Span.cells (s : Span) : Array Value := #[.int .i64 s.start, .int .i64 s.pages]
def Span.v (s : Span) : Value := .agg s.cells
def Span.fin (s : Span) : Int := s.start + s.pages
theorem Span.ok : Enc Span.enc 2 := ⟨fun _ => rfl, fun x u hu => by simp [Span.enc] at hu; rcases hu with rfl | rfl <;> rfl, by omega⟩
/-- A span whose end is a number, too. -/
def Span.fits (s : Span) : Prop := -9223372036854775808 ≤ s.start + s.pages ∧ s.start + s.pages ≤ 9223372036854775807

/-- The rows are rising, none next to another, all between two pages. -/
def Norm (lo n : Int) : List Span → Prop
  | [] => True
  | s :: l => lo ≤ s.start ∧ 1 ≤ s.pages ∧ s.start + s.pages ≤ n ∧ Norm (s.start + s.pages + 1) n l
structure Fr where
  lo : Int
  n : Int
  l : List Span
structure Fr.Ok (D : Fr) : Prop where
  lo0 : 0 ≤ D.lo
  lo1 : D.lo ≤ 9223372036854775807
  n0 : -9223372036854775808 ≤ D.n
  n1 : D.n ≤ 16384
  norm : Norm D.lo D.n D.l
theorem Norm.mono {n : Int} : ∀ {l : List Span} {a b : Int}, Norm a n l → b ≤ a → Norm b n l
  | [], _, _, _, _ => trivial
  | _ :: _, _, _, ⟨h1, h2, h3, h4⟩, hb => ⟨by omega, h2, h3, h4⟩
theorem Norm.mem {n : Int} : ∀ {l : List Span} {lo : Int}, Norm lo n l → ∀ s ∈ l, lo ≤ s.start ∧ 1 ≤ s.pages ∧ s.start + s.pages ≤ n
  | [], _, _, s, hs => by cases hs
  | x :: l, lo, ⟨h1, h2, h3, h4⟩, s, hs => by
    rcases List.mem_cons.1 hs with rfl | hs
    · exact ⟨h1, h2, h3⟩
    · have := Norm.mem h4 s hs
      omega
theorem Norm.len {n : Int} : ∀ {l : List Span} {lo : Int}, Norm lo n l → l ≠ [] → lo + l.length ≤ n
  | [], _, _, h => absurd rfl h
  | [x], lo, ⟨h1, h2, h3, h4⟩, _ => by simp; omega
  | x :: y :: l, lo, ⟨h1, h2, h3, h4⟩, _ => by
    have := Norm.len h4 (by simp)
    simp only [List.length_cons] at this ⊢
    omega
theorem Fr.Ok.len {D : Fr} (h : D.Ok) : D.l.length ≤ 16384 := by
  by_cases e : D.l = []
  · simp [e]
  · have := h.norm.len e
    have := h.lo0
    have := h.n1
    omega

/-- The set D lies at block g; all its blocks are in F. -/
def FrAt (w : World) (g : Nat) (F : Nat → Prop) (D : Fr) : Prop :=
  ∃ v, w.heap[g]? = some (.cells #[.int .i64 D.lo, .int .i64 D.n, v] 150 (0, 0)) ∧ Own Span.enc 2 90 0 w v D.l ∧ (∀ k, v.ownBlock = some k → k ≠ g ∧ F k) ∧ F g ∧ (∀ i, F i → i < w.heap.size) ∧ D.Ok
/-- What a call made of the set at g. -/
def FrDid (F : Nat → Prop) (w w' : World) (g : Nat) (D : Fr) : Prop := ∃ F', FrAt w' g F' D ∧ Chg F w w' ∧ ∀ i, F' i → F i ∨ w.heap.size ≤ i
section
variable {w w' w'' : World} {g : Nat} {F G : Nat → Prop} {D D' : Fr}
theorem FrAt.lt (h : FrAt w g F D) : ∀ i, F i → i < w.heap.size := by obtain ⟨v, a, b, c, d, e, f⟩ := h; exact e
theorem FrAt.fg (h : FrAt w g F D) : F g := by obtain ⟨v, a, b, c, d, e, f⟩ := h; exact d
theorem FrAt.glt (h : FrAt w g F D) : g < w.heap.size := h.lt g h.fg
theorem FrAt.okD (h : FrAt w g F D) : D.Ok := by obtain ⟨v, a, b, c, d, e, f⟩ := h; exact f
theorem FrAt.chg (h : FrAt w g F D) (hc : Chg G w w') (hG : ∀ i, F i → ¬ G i) : FrAt w' g F D := by
  obtain ⟨v, a, b, c, d, e, f⟩ := h
  exact ⟨v, hc.blk a (hG _ d), b.chg hc (fun k hk => hG _ (c k hk).2), c, d, fun i hi => Nat.lt_of_lt_of_le (e i hi) hc.size, f⟩
theorem FrAt.below (h : FrAt w g F D) (hb : Below w.heap.size w w') : FrAt w' g F D := h.chg (Below.chg hb fun _ => False) (fun _ _ h => h)
theorem FrAt.alloc (h : FrAt w g F D) (o : Obj) : FrAt (w.alloc o) g F D := h.below ((Below.refl _ w).alloc (Nat.le_refl _) o)
/-- Its cells, for a walk. -/
theorem FrAt.cells (h : FrAt w g F D) : ∃ (A : Option Addr) (c : Nat), w.cell? ⟨g, 0, none⟩ = some (.int .i64 D.lo) ∧ w.cell? ⟨g, 1, none⟩ = some (.int .i64 D.n) ∧ w.cell? ⟨g, 2, none⟩ = some (.slice A D.l.length c) ∧ (∀ i, w.frozen? ⟨g, i, none⟩ = false) ∧
    Own Span.enc 2 90 0 w (.slice A D.l.length c) D.l ∧ Rd Span.enc 2 w A D.l ∧ D.l.length ≤ c ∧ (∀ k, (Value.slice A D.l.length c).ownBlock = some k → k ≠ g ∧ F k) ∧ w.heap[g]? = some (.cells #[.int .i64 D.lo, .int .i64 D.n, .slice A D.l.length c] 150 (0, 0)) := by
  obtain ⟨v, a, b, c, d, e, f⟩ := h
  obtain ⟨A, cc, rfl, h1, h2, h3, _⟩ := b.rd Span.ok
  refine ⟨A, cc, ?_, ?_, ?_, fun i => blk_free a i, b, h3, h1, c, a⟩ <;> rw [blk_cell a] <;> rfl
theorem FrDid.refl (h : FrAt w g F D) : FrDid F w w g D := ⟨F, h, Chg.refl _ _, fun i hi => .inl hi⟩
theorem FrDid.of_below (h : FrAt w g F D) (hb : Below w.heap.size w w') : FrDid F w w' g D := ⟨F, h.below hb, Below.chg hb F, fun i hi => .inl hi⟩
theorem FrDid.after {F1 : Nat → Prop} (k : FrDid F1 w' w'' g D') (c1 : Chg F w w') (s1 : ∀ i, F1 i → F i ∨ w.heap.size ≤ i) : FrDid F w w'' g D' := by
  obtain ⟨F2, h2, c2, s2⟩ := k
  refine ⟨F2, h2, c1.trans c2 (fun i hi hf => ?_), fun i hi => ?_⟩
  · rcases s1 i hf with e | e
    · exact e
    · omega
  · rcases s2 i hi with e | e
    · exact s1 i e
    · exact .inr (Nat.le_trans c1.size e)
theorem FrDid.trans (h : ∀ F', FrAt w' g F' D → FrDid F' w' w'' g D') (k : FrDid F w w' g D) : FrDid F w w'' g D' := by
  obtain ⟨F1, h1, c1, s1⟩ := k
  exact (h F1 h1).after c1 s1
/-- The rows told anew: a slice of the set's own in its third cell. -/
theorem FrAt.put (h : FrAt w g F D) (w' : World) (v : Value) (hb : w'.heap[g]? = some (.cells #[.int .i64 D'.lo, .int .i64 D'.n, v] 150 (0, 0))) (ho : Own Span.enc 2 90 0 w' v D'.l) (hv : ∀ k, v.ownBlock = some k → k ≠ g ∧ (F k ∨ w.heap.size ≤ k)) (hc : Chg F w w') (hk : D'.Ok) : FrDid F w w' g D' := by
  refine ⟨fun i => F i ∨ (w.heap.size ≤ i ∧ i < w'.heap.size), ⟨v, hb, ho, fun k hk => ⟨(hv k hk).1, ?_⟩, .inl h.fg, ?_, hk⟩, hc, fun i hi => hi.imp_right And.left⟩
  · rcases (hv k hk).2 with e | e
    · exact .inl e
    · exact .inr ⟨e, (ho.lt k hk).2⟩
  · rintro i (hi | hi)
    · exact Nat.lt_of_lt_of_le (h.lt i hi) hc.size
    · exact hi.2
end

def Num (x : Int) : Prop := -9223372036854775808 ≤ x ∧ x ≤ 9223372036854775807
/-! ### The small functions -/
theorem span_at {W : World} {g : Nat} {s : Span} {t : TypeId} {fr : Nat × Nat} (h : W.heap[g]? = some (.cells s.cells t fr)) : W.cell? ⟨g, 0, none⟩ = some (.int .i64 s.start) ∧ W.cell? ⟨g, 1, none⟩ = some (.int .i64 s.pages) := by
  constructor <;> rw [blk_cell h] <;> rfl
theorem wrapI {x : Int} (h : -9223372036854775808 ≤ x ∧ x ≤ 9223372036854775807) : IntKind.i64.wrap x = x := by rw [IntKind.wrap_i64]; omega
theorem wrap64I {x : Int} (h : -9223372036854775808 ≤ x ∧ x ≤ 9223372036854775807) : wrap64 x = x := by unfold wrap64; omega
set_option maxRecDepth 100000 in
theorem end_calls (w : World) (a b : Int) (h : Num (a + b)) : Calls Try.prog 104 #[.agg #[.int .i64 a, .int .i64 b]] w fun e w' => e = .returned (.int .i64 (a + b)) ∧ Below w.heap.size w w' := by
  obtain ⟨h1, h2⟩ := h
  go_enter Try.func104, Try.ntmps104
  go_wp2
  go_ret
  exact ⟨rfl, bl_alloc (Below.refl _ w) _⟩
set_option maxRecDepth 100000 in
theorem room_calls (w : World) (s r : Span) : Calls Try.prog 96 #[.agg #[.int .i64 s.start, .int .i64 s.pages], .agg #[.int .i64 r.start, .int .i64 r.pages]] w fun e w' => e = .returned (.bool (decide (s.pages ≤ r.pages))) ∧ Below w.heap.size w w' := by
  go_enter Try.func96, Try.ntmps96
  go_wp2
  go_ret
  exact ⟨rfl, bl_alloc (bl_alloc (Below.refl _ w) _) _⟩
end Go.Proofs.Ytglpckdmiohciaa
