/- A set of free pages (extent.Free): what it is in this claim's own words, how it lies in memory; its small functions. Rows of free pages, in plain terms: which pages a list of rows has; cut, joined, put in; the rows of a list of marks. No program in sight. extent.Free: there, row, within, meets, behind, Has, New. extent.Free: within, meets, behind. slices.IndexFunc at rows of spans; extent.Free: row, Has. The library's Grow, Clone, Concat at rows of spans. Regions that draw their order, whose last operation (number z) may break what held of the world till then. No program is named here. XHeld, further: an operation for which z waits through others may be taken first. No program is named here. -/
import Derived.Test.YtikgplhcadomcaaGreatKA
import Derived.Test.YtikgplhcadomcaaGreatProg
import Derived.Deep.RegionLaw
import Derived.Deep.RegionWith
import Derived.Lib.AppendZeros
import Derived.Deep.RegionHeld
namespace Go.Proofs.YtikgplhcadomcaaGreat
open Go.RowKit
set_option linter.unusedVariables false
set_option linter.unusedSimpArgs false

structure Span where
  start : Int
  pages : Int
deriving DecidableEq, Inhabited
def Span.enc (s : Span) : List Value := [.int .i64 s.start, .int .i64 s.pages]
def Span.cells (s : Span) : Array Value := #[.int .i64 s.start, .int .i64 s.pages]
def Span.v (s : Span) : Value := .agg s.cells
def Span.fin (s : Span) : Int := s.start + s.pages
theorem Span.ok : Enc Span.enc 2 := ⟨fun _ => rfl, fun x u hu => by simp [Span.enc] at hu; rcases hu with rfl | rfl <;> rfl, by omega⟩
/-- A span whose end is a number, too. -/
def Span.fits (s : Span) : Prop := -9223372036854775808 ≤ s.start + s.pages ∧ s.start + s.pages ≤ 9223372036854775807

/-- The rows are rising, none next to another, all between two pages. -/
def Norm (lo n : Int) : List Span → Prop
  | [] => True
  | s :: l => lo ≤ s.start ∧ 1 ≤ s.pages ∧ s.start + s.pages ≤ n ∧ Norm (s.start + s.pages + 1) n l
structure Fr where
  lo : Int
  n : Int
  l : List Span
structure Fr.Ok (D : Fr) : Prop where
  lo0 : 0 ≤ D.lo
  lo1 : D.lo ≤ 9223372036854775807
  n0 : -9223372036854775808 ≤ D.n
  n1 : D.n ≤ 16384
  norm : Norm D.lo D.n D.l
theorem Norm.mono {n : Int} : ∀ {l : List Span} {a b : Int}, Norm a n l → b ≤ a → Norm b n l
  | [], _, _, _, _ => trivial
  | _ :: _, _, _, ⟨h1, h2, h3, h4⟩, hb => ⟨by omega, h2, h3, h4⟩
theorem Norm.mem {n : Int} : ∀ {l : List Span} {lo : Int}, Norm lo n l → ∀ s ∈ l, lo ≤ s.start ∧ 1 ≤ s.pages ∧ s.start + s.pages ≤ n
  | [], _, _, s, hs => by cases hs
  | x :: l, lo, ⟨h1, h2, h3, h4⟩, s, hs => by
    rcases List.mem_cons.1 hs with rfl | hs
    · exact ⟨h1, h2, h3⟩
    · have := Norm.mem h4 s hs
      omega
theorem Norm.len {n : Int} : ∀ {l : List Span} {lo : Int}, Norm lo n l → l ≠ [] → lo + l.length ≤ n
  | [], _, _, h => absurd rfl h
  | [x], lo, ⟨h1, h2, h3, h4⟩, _ => by simp; omega
  | x :: y :: l, lo, ⟨h1, h2, h3, h4⟩, _ => by
    have := Norm.len h4 (by simp)
    simp only [List.length_cons] at this ⊢
    omega
theorem Fr.Ok.len {D : Fr} (h : D.Ok) : D.l.length ≤ 16384 := by
  by_cases e : D.l = []
  · simp [e]
  · have := h.norm.len e
    have := h.lo0
    have := h.n1
    omega

/-- The set D lies at block g; all its blocks are in F. -/
def FrAt (w : World) (g : Nat) (F : Nat → Prop) (D : Fr) : Prop :=
  ∃ v, w.heap[g]? = some (.cells #[.int .i64 D.lo, .int .i64 D.n, v] 253 (0, 0)) ∧ Own Span.enc 2 160 0 w v D.l ∧ (∀ k, v.ownBlock = some k → k ≠ g ∧ F k) ∧ F g ∧ (∀ i, F i → i < w.heap.size) ∧ D.Ok
/-- What a call made of the set at g. -/
def FrDid (F : Nat → Prop) (w w' : World) (g : Nat) (D : Fr) : Prop := ∃ F', FrAt w' g F' D ∧ Chg F w w' ∧ ∀ i, F' i → F i ∨ w.heap.size ≤ i
section
variable {w w' w'' : World} {g : Nat} {F G : Nat → Prop} {D D' : Fr}
theorem FrAt.lt (h : FrAt w g F D) : ∀ i, F i → i < w.heap.size := by obtain ⟨v, a, b, c, d, e, f⟩ := h; exact e
theorem FrAt.fg (h : FrAt w g F D) : F g := by obtain ⟨v, a, b, c, d, e, f⟩ := h; exact d
theorem FrAt.glt (h : FrAt w g F D) : g < w.heap.size := h.lt g h.fg
theorem FrAt.okD (h : FrAt w g F D) : D.Ok := by obtain ⟨v, a, b, c, d, e, f⟩ := h; exact f
theorem FrAt.chg (h : FrAt w g F D) (hc : Chg G w w') (hG : ∀ i, F i → ¬ G i) : FrAt w' g F D := by
  obtain ⟨v, a, b, c, d, e, f⟩ := h
  exact ⟨v, hc.blk a (hG _ d), b.chg hc (fun k hk => hG _ (c k hk).2), c, d, fun i hi => Nat.lt_of_lt_of_le (e i hi) hc.size, f⟩
theorem FrAt.below (h : FrAt w g F D) (hb : Below w.heap.size w w') : FrAt w' g F D := h.chg (Below.chg hb fun _ => False) (fun _ _ h => h)
theorem FrAt.alloc (h : FrAt w g F D) (o : Obj) : FrAt (w.alloc o) g F D := h.below ((Below.refl _ w).alloc (Nat.le_refl _) o)
/-- Its cells, for a walk. -/
theorem FrAt.cells (h : FrAt w g F D) : ∃ (A : Option Addr) (c : Nat), w.cell? ⟨g, 0, none⟩ = some (.int .i64 D.lo) ∧ w.cell? ⟨g, 1, none⟩ = some (.int .i64 D.n) ∧ w.cell? ⟨g, 2, none⟩ = some (.slice A D.l.length c) ∧ (∀ i, w.frozen? ⟨g, i, none⟩ = false) ∧
    Own Span.enc 2 160 0 w (.slice A D.l.length c) D.l ∧ Rd Span.enc 2 w A D.l ∧ D.l.length ≤ c ∧ (∀ k, (Value.slice A D.l.length c).ownBlock = some k → k ≠ g ∧ F k) ∧ w.heap[g]? = some (.cells #[.int .i64 D.lo, .int .i64 D.n, .slice A D.l.length c] 253 (0, 0)) := by
  obtain ⟨v, a, b, c, d, e, f⟩ := h
  obtain ⟨A, cc, rfl, h1, h2, h3, _⟩ := b.rd Span.ok
  refine ⟨A, cc, ?_, ?_, ?_, fun i => blk_free a i, b, h3, h1, c, a⟩ <;> rw [blk_cell a] <;> rfl
theorem FrDid.refl (h : FrAt w g F D) : FrDid F w w g D := ⟨F, h, Chg.refl _ _, fun i hi => .inl hi⟩
theorem FrDid.of_below (h : FrAt w g F D) (hb : Below w.heap.size w w') : FrDid F w w' g D := ⟨F, h.below hb, Below.chg hb F, fun i hi => .inl hi⟩
theorem FrDid.after {F1 : Nat → Prop} (k : FrDid F1 w' w'' g D') (c1 : Chg F w w') (s1 : ∀ i, F1 i → F i ∨ w.heap.size ≤ i) : FrDid F w w'' g D' := by
  obtain ⟨F2, h2, c2, s2⟩ := k
  refine ⟨F2, h2, c1.trans c2 (fun i hi hf => ?_), fun i hi => ?_⟩
  · rcases s1 i hf with e | e
    · exact e
    · omega
  · rcases s2 i hi with e | e
    · exact s1 i e
    · exact .inr (Nat.le_trans c1.size e)
theorem FrDid.trans (h : ∀ F', FrAt w' g F' D → FrDid F' w' w'' g D') (k : FrDid F w w' g D) : FrDid F w w'' g D' := by
  obtain ⟨F1, h1, c1, s1⟩ := k
  exact (h F1 h1).after c1 s1
/-- The rows told anew: a slice of the set's own in its third cell. -/
theorem FrAt.put (h : FrAt w g F D) (w' : World) (v : Value) (hb : w'.heap[g]? = some (.cells #[.int .i64 D'.lo, .int .i64 D'.n, v] 253 (0, 0))) (ho : Own Span.enc 2 160 0 w' v D'.l) (hv : ∀ k, v.ownBlock = some k → k ≠ g ∧ (F k ∨ w.heap.size ≤ k)) (hc : Chg F w w') (hk : D'.Ok) : FrDid F w w' g D' := by
  refine ⟨fun i => F i ∨ (w.heap.size ≤ i ∧ i < w'.heap.size), ⟨v, hb, ho, fun k hk => ⟨(hv k hk).1, ?_⟩, .inl h.fg, ?_, hk⟩, hc, fun i hi => hi.imp_right And.left⟩
  · rcases (hv k hk).2 with e | e
    · exact .inl e
    · exact .inr ⟨e, (ho.lt k hk).2⟩
  · rintro i (hi | hi)
    · exact Nat.lt_of_lt_of_le (h.lt i hi) hc.size
    · exact hi.2
end

def Num (x : Int) : Prop := -9223372036854775808 ≤ x ∧ x ≤ 9223372036854775807
/-! ### The small functions -/
theorem span_at {W : World} {g : Nat} {s : Span} {t : TypeId} {fr : Nat × Nat} (h : W.heap[g]? = some (.cells s.cells t fr)) : W.cell? ⟨g, 0, none⟩ = some (.int .i64 s.start) ∧ W.cell? ⟨g, 1, none⟩ = some (.int .i64 s.pages) := by
  constructor <;> rw [blk_cell h] <;> rfl
theorem wrapI {x : Int} (h : -9223372036854775808 ≤ x ∧ x ≤ 9223372036854775807) : IntKind.i64.wrap x = x := by rw [IntKind.wrap_i64]; omega
theorem wrap64I {x : Int} (h : -9223372036854775808 ≤ x ∧ x ≤ 9223372036854775807) : wrap64 x = x := by unfold wrap64; omega
set_option maxRecDepth 100000 in
theorem end_calls (w : World) (a b : Int) (h : Num (a + b)) : Calls Tryz.prog 178 #[.agg #[.int .i64 a, .int .i64 b]] w fun e w' => e = .returned (.int .i64 (a + b)) ∧ Below w.heap.size w w' := by
  obtain ⟨h1, h2⟩ := h
  go_enter Tryz.func178, Tryz.ntmps178
  go_wp2
  go_ret
  exact ⟨rfl, bl_alloc (Below.refl _ w) _⟩
set_option maxRecDepth 100000 in
theorem room_calls (w : World) (s r : Span) : Calls Tryz.prog 194 #[.agg #[.int .i64 s.start, .int .i64 s.pages], .agg #[.int .i64 r.start, .int .i64 r.pages]] w fun e w' => e = .returned (.bool (decide (s.pages ≤ r.pages))) ∧ Below w.heap.size w w' := by
  go_enter Tryz.func194, Tryz.ntmps194
  go_wp2
  go_ret
  exact ⟨rfl, bl_alloc (bl_alloc (Below.refl _ w) _) _⟩
end Go.Proofs.YtikgplhcadomcaaGreat

namespace Go.Proofs.YtikgplhcadomcaaGreat
set_option linter.unusedVariables false
set_option linter.unusedSimpArgs false

/-- Page i is in one of the rows. -/
def inL : List Span → Int → Prop
  | [], _ => False
  | s :: l, i => (s.start ≤ i ∧ i < s.start + s.pages) ∨ inL l i
theorem inL_mem : ∀ {l : List Span} {i : Int}, inL l i ↔ ∃ s ∈ l, s.start ≤ i ∧ i < s.start + s.pages
  | [], i => by simp [inL]
  | s :: l, i => by simp [inL, inL_mem (l := l)]
theorem inL_append {l m : List Span} {i : Int} : inL (l ++ m) i ↔ inL l i ∨ inL m i := by
  simp only [inL_mem, List.mem_append]
  constructor
  · rintro ⟨s, h | h, k⟩
    · exact .inl ⟨s, h, k⟩
    · exact .inr ⟨s, h, k⟩
  · rintro (⟨s, h, k⟩ | ⟨s, h, k⟩)
    · exact ⟨s, .inl h, k⟩
    · exact ⟨s, .inr h, k⟩
theorem Norm.inn {lo n : Int} {l : List Span} (h : Norm lo n l) {i : Int} (hi : inL l i) : lo ≤ i ∧ i < n := by
  obtain ⟨s, hs, h1, h2⟩ := inL_mem.1 hi
  have := h.mem s hs
  omega
/-! ### A span and the rows -/
def within (s r : Span) : Bool := decide (r.start ≤ s.start ∧ s.start + s.pages ≤ r.start + r.pages)
def meets (s r : Span) : Bool := decide (r.start < s.start + s.pages ∧ s.start < r.start + r.pages)
def behind (s r : Span) : Bool := decide (s.start + s.pages ≤ r.start)
def room (s r : Span) : Bool := decide (s.pages ≤ r.pages)
/-- The place of the first row that something holds of; -1: of none. -/
def place (p : Span → Bool) (l : List Span) : Int := match l.findIdx? p with | some i => (i : Int) | none => -1
theorem place_neg {p : Span → Bool} {l : List Span} : place p l < 0 ↔ ∀ r ∈ l, p r = false := by
  unfold place
  cases h : l.findIdx? p with
  | none =>
    have := List.findIdx?_eq_none_iff.1 h
    simp only [show ((-1 : Int) < 0) from by omega, true_iff]
    exact fun r hr => by simpa using this r hr
  | some i =>
    obtain ⟨h1, h2, h3⟩ := List.findIdx?_eq_some_iff_getElem.1 h
    simp only [show ¬ ((i : Int) < 0) from by omega, false_iff]
    exact fun q => by rw [q _ (List.getElem_mem h1)] at h2; cases h2
theorem place_some {p : Span → Bool} {l : List Span} (h : ¬ place p l < 0) : ∃ (i : Nat) (r : Span), place p l = i ∧ l[i]? = some r ∧ p r = true ∧ ∀ (j : Nat) x, j < i → l[j]? = some x → p x = false := by
  unfold place at h ⊢
  cases hi : l.findIdx? p with
  | none => rw [hi] at h; exact absurd (by decide) h
  | some i =>
    obtain ⟨h1, h2, h3⟩ := List.findIdx?_eq_some_iff_getElem.1 hi
    refine ⟨i, l[i], rfl, List.getElem?_eq_getElem h1, h2, fun j x hj hx => ?_⟩
    obtain ⟨hl, rfl⟩ := List.getElem?_eq_some_iff.1 hx
    have := h3 j hj
    simpa using this
theorem within_iff {n : Int} (s : Span) (hs : 1 ≤ s.pages) : ∀ {l : List Span} {lo : Int}, Norm lo n l → ((∃ r ∈ l, within s r = true) ↔ ∀ i, s.start ≤ i → i < s.start + s.pages → inL l i)
  | [], _, _ => by
    simp only [List.not_mem_nil, false_and, exists_false, false_iff]
    exact fun h => h s.start (by omega) (by omega)
  | r :: l, lo, ⟨h1, h2, h3, h4⟩ => by
    constructor
    · rintro ⟨x, hx, hw⟩ i i1 i2
      simp only [within, decide_eq_true_eq] at hw
      exact inL_mem.2 ⟨x, hx, by omega, by omega⟩
    · intro h
      rcases h s.start (by omega) (by omega) with q | q
      · refine ⟨r, List.mem_cons_self, ?_⟩
        simp only [within, decide_eq_true_eq]
        refine ⟨q.1, ?_⟩
        rcases Int.lt_or_le (r.start + r.pages) (s.start + s.pages) with k | k
        · rcases h (r.start + r.pages) (by omega) (by omega) with z | z
          · omega
          · have := h4.inn z; omega
        · exact k
      · have hq := h4.inn q
        obtain ⟨x, hx, hw⟩ := (within_iff s hs h4).2 (fun i i1 i2 => by
          rcases h i i1 i2 with z | z
          · omega
          · exact z)
        exact ⟨x, List.mem_cons_of_mem _ hx, hw⟩
/-! ### Cut out of a row -/
/-- What is left of a row. -/
def rest (r s : Span) : List Span := (if r.start < s.start then [⟨r.start, s.start - r.start⟩] else []) ++ (if s.start + s.pages < r.start + r.pages then [⟨s.start + s.pages, r.start + r.pages - (s.start + s.pages)⟩] else [])
def cutL (l : List Span) (i : Nat) (s : Span) : List Span := l.take i ++ rest (l.getD i default) s ++ l.drop (i + 1)
theorem rest_norm {lo n : Int} {r s : Span} {l : List Span} (h1 : lo ≤ r.start) (h3 : r.start + r.pages ≤ n) (h4 : Norm (r.start + r.pages + 1) n l) (hs : 1 ≤ s.pages) (hw : within s r = true) : Norm lo n (rest r s ++ l) := by
  simp only [within, decide_eq_true_eq] at hw
  unfold rest
  split <;> split <;> simp only [List.nil_append, List.cons_append, List.append_nil, Norm]
  · exact ⟨by omega, by omega, by omega, by omega, by omega, by omega, h4.mono (by omega)⟩
  · exact ⟨by omega, by omega, by omega, h4.mono (by omega)⟩
  · exact ⟨by omega, by omega, by omega, h4.mono (by omega)⟩
  · exact h4.mono (by omega)
theorem rest_in {r s : Span} (hw : within s r = true) (hs : 1 ≤ s.pages) (j : Int) : inL (rest r s) j ↔ (r.start ≤ j ∧ j < r.start + r.pages) ∧ ¬ (s.start ≤ j ∧ j < s.start + s.pages) := by
  simp only [within, decide_eq_true_eq] at hw
  unfold rest
  split <;> split <;> simp only [List.nil_append, List.cons_append, List.append_nil, inL, or_false, false_or, false_iff] <;> omega
theorem cut_norm {n : Int} {s r : Span} (hs : 1 ≤ s.pages) (hw : within s r = true) : ∀ {l : List Span} {lo : Int} (i : Nat), Norm lo n l → l[i]? = some r → Norm lo n (cutL l i s)
  | [], _, i, _, h => by simp at h
  | x :: l, lo, 0, ⟨h1, h2, h3, h4⟩, h => by
    simp at h
    subst h
    simpa [cutL] using rest_norm h1 h3 h4 hs hw
  | x :: l, lo, i + 1, ⟨h1, h2, h3, h4⟩, h => by
    have := cut_norm hs hw i h4 (by simpa using h)
    have e : cutL (x :: l) (i + 1) s = x :: cutL l i s := by simp [cutL]
    rw [e]
    exact ⟨h1, h2, h3, this⟩
theorem cut_in {n : Int} {s r : Span} (hs : 1 ≤ s.pages) (hw : within s r = true) (j : Int) : ∀ {l : List Span} {lo : Int} (i : Nat), Norm lo n l → l[i]? = some r → (inL (cutL l i s) j ↔ inL l j ∧ ¬ (s.start ≤ j ∧ j < s.start + s.pages))
  | [], _, i, _, h => by simp at h
  | x :: l, lo, 0, ⟨h1, h2, h3, h4⟩, h => by
    simp at h
    subst h
    have e : cutL (x :: l) 0 s = rest x s ++ l := by simp [cutL]
    rw [e, inL_append, rest_in hw hs]
    simp only [within, decide_eq_true_eq] at hw
    simp only [inL]
    constructor
    · rintro (q | q)
      · exact ⟨.inl q.1, q.2⟩
      · have := h4.inn q
        exact ⟨.inr q, by omega⟩
    · rintro ⟨q | q, k⟩
      · exact .inl ⟨q, k⟩
      · exact .inr q
  | x :: l, lo, i + 1, ⟨h1, h2, h3, h4⟩, h => by
    have e : cutL (x :: l) (i + 1) s = x :: cutL l i s := by simp [cutL]
    have hr := (List.mem_of_getElem? (show l[i]? = some r by simpa using h))
    have hm := h4.mem r hr
    rw [e]
    simp only [inL, cut_in hs hw j i h4 (by simpa using h)]
    simp only [within, decide_eq_true_eq] at hw
    constructor
    · rintro (q | q)
      · exact ⟨.inl q, by omega⟩
      · exact ⟨.inr q.1, q.2⟩
    · rintro ⟨q | q, k⟩
      · exact .inl q
      · exact .inr ⟨q, k⟩

/-! ### Put in and joined -/
/-- As Norm, but rows may be next to each other. -/
def Rise (lo n : Int) : List Span → Prop
  | [] => True
  | s :: l => lo ≤ s.start ∧ 1 ≤ s.pages ∧ s.start + s.pages ≤ n ∧ Rise (s.start + s.pages) n l
theorem Norm.rise {n : Int} : ∀ {l : List Span} {lo : Int}, Norm lo n l → Rise lo n l
  | [], _, _ => trivial
  | s :: l, lo, ⟨h1, h2, h3, h4⟩ => ⟨h1, h2, h3, (h4.mono (by omega)).rise⟩
theorem Rise.mono {n : Int} : ∀ {l : List Span} {a b : Int}, Rise a n l → b ≤ a → Rise b n l
  | [], _, _, _, _ => trivial
  | _ :: _, _, _, ⟨h1, h2, h3, h4⟩, hb => ⟨by omega, h2, h3, h4⟩
theorem Rise.mem {n : Int} : ∀ {l : List Span} {lo : Int}, Rise lo n l → ∀ s ∈ l, lo ≤ s.start ∧ 1 ≤ s.pages ∧ s.start + s.pages ≤ n
  | [], _, _, s, hs => by cases hs
  | x :: l, lo, ⟨h1, h2, h3, h4⟩, s, hs => by
    rcases List.mem_cons.1 hs with rfl | hs
    · exact ⟨h1, h2, h3⟩
    · have := Rise.mem h4 s hs
      omega
theorem place_cons (p : Span → Bool) (r : Span) (l : List Span) : place p (r :: l) = if p r then 0 else if place p l < 0 then -1 else place p l + 1 := by
  unfold place
  rw [List.findIdx?_cons]
  cases p r with
  | true => rfl
  | false =>
    cases l.findIdx? p with
    | none => rfl
    | some i =>
      simp only [Option.map_some, Bool.false_eq_true, if_false]
      rw [if_neg (by omega)]
      omega
/-- One more row behind those that were joined. -/
def joinR (acc : List Span) (r : Span) : List Span :=
  match acc.getLast? with
  | some y => if y.start + y.pages = r.start then acc.dropLast ++ [⟨y.start, y.pages + r.pages⟩] else acc ++ [r]
  | none => acc ++ [r]
theorem norm_snoc {m : Int} {x : Span} (hx : 1 ≤ x.pages) : ∀ {acc : List Span} {lo : Int}, Norm lo m acc → (∀ y, acc.getLast? = some y → y.start + y.pages < x.start) → lo ≤ x.start → Norm lo (x.start + x.pages) (acc ++ [x])
  | [], lo, _, _, h => ⟨h, hx, by omega, trivial⟩
  | [y], lo, ⟨h1, h2, h3, _⟩, h, _ => by
    have := h y rfl
    exact ⟨h1, h2, by omega, by omega, hx, by omega, trivial⟩
  | y :: z :: acc, lo, ⟨h1, h2, h3, h4⟩, h, hl => by
    have hlast := h4
    have q := norm_snoc hx h4 (fun t ht => h t (by simpa using ht)) (by
      have hne : (z :: acc) ≠ [] := by simp
      have hm := List.getLast_mem hne
      have := h ((z :: acc).getLast hne) (by rw [List.getLast?_cons_cons, List.getLast?_eq_some_getLast hne])
      have := h4.mem _ hm
      omega)
    refine ⟨h1, h2, ?_, q⟩
    have := q.mem x (by simp)
    omega
theorem norm_last {m : Int} {x y : Span} (hx : 1 ≤ x.pages) (he : y.start + y.pages = x.start) : ∀ {acc : List Span} {lo : Int}, Norm lo m (acc ++ [y]) → Norm lo (x.start + x.pages) (acc ++ [⟨y.start, y.pages + x.pages⟩])
  | [], lo, ⟨h1, h2, h3, h4⟩ => ⟨h1, by dsimp only; omega, by dsimp only; omega, trivial⟩
  | z :: acc, lo, ⟨h1, h2, h3, h4⟩ => by
    have q := norm_last hx he h4
    refine ⟨h1, h2, ?_, q⟩
    have := q.mem ⟨y.start, y.pages + x.pages⟩ (by simp)
    dsimp only at this
    omega
theorem join_norm {lo m : Int} {acc : List Span} {x : Span} (h : Norm lo m acc) (hm : m ≤ x.start) (hl : lo ≤ x.start) (hx : 1 ≤ x.pages) : Norm lo (x.start + x.pages) (joinR acc x) := by
  unfold joinR
  cases hy : acc.getLast? with
  | none => exact norm_snoc hx h (fun y e => by rw [hy] at e; cases e) hl
  | some y =>
    have hne : acc ≠ [] := by intro e; subst e; cases hy
    have hmem : y ∈ acc := List.mem_of_getLast? hy
    have hb := h.mem y hmem
    dsimp only
    split
    · rename_i e
      have e2 : acc = acc.dropLast ++ [y] := by
        rw [List.getLast?_eq_some_getLast hne] at hy
        cases hy
        exact (List.dropLast_concat_getLast hne).symm
      rw [e2] at h
      exact norm_last hx e h
    · exact norm_snoc hx h (fun z hz => by rw [hy] at hz; cases hz; omega) hl
theorem join_in {acc : List Span} {x : Span} (hx : 1 ≤ x.pages) (hp : ∀ y ∈ acc, 1 ≤ y.pages) (j : Int) : inL (joinR acc x) j ↔ inL acc j ∨ (x.start ≤ j ∧ j < x.start + x.pages) := by
  unfold joinR
  cases hy : acc.getLast? with
  | none => simp [inL_append, inL]
  | some y =>
    have hne : acc ≠ [] := by intro e; subst e; cases hy
    dsimp only
    split
    · rename_i e
      have e2 : acc = acc.dropLast ++ [y] := by
        rw [List.getLast?_eq_some_getLast hne] at hy
        cases hy
        exact (List.dropLast_concat_getLast hne).symm
      have hyp := hp y (List.mem_of_getLast? hy)
      have e3 : inL acc j ↔ inL acc.dropLast j ∨ (y.start ≤ j ∧ j < y.start + y.pages) := by
        conv => lhs; rw [e2]
        simp [inL_append, inL]
      rw [e3]
      simp only [inL_append, inL, or_false]
      constructor
      · rintro (q | q)
        · exact .inl (.inl q)
        · by_cases hj : j < y.start + y.pages
          · exact .inl (.inr ⟨q.1, hj⟩)
          · exact .inr (by omega)
      · rintro ((q | q) | q)
        · exact .inl q
        · exact .inr (by omega)
        · exact .inr (by omega)
    · simp [inL_append, inL]
theorem Norm.up {n m : Int} (hm : m ≤ n) : ∀ {l : List Span} {lo : Int}, Norm lo m l → Norm lo n l
  | [], _, _ => trivial
  | _ :: _, _, ⟨h1, h2, h3, h4⟩ => ⟨h1, h2, by omega, h4.up hm⟩
theorem joins {n : Int} : ∀ {l acc : List Span} {lo m : Int}, Norm lo m acc → lo ≤ m → m ≤ n → Rise m n l → Norm lo n (l.foldl joinR acc) ∧ ∀ j, inL (l.foldl joinR acc) j ↔ inL acc j ∨ inL l j
  | [], acc, lo, m, h, hlo, hm, _ => by
    refine ⟨?_, fun j => by simp [inL]⟩
    exact h.up hm
  | x :: l, acc, lo, m, h, hlo, hm, ⟨r1, r2, r3, r4⟩ => by
    obtain ⟨q1, q2⟩ := joins (join_norm h r1 (by omega) r2) (by omega) r3 r4
    refine ⟨q1, fun j => ?_⟩
    show inL (l.foldl joinR (joinR acc x)) j ↔ _
    rw [q2, join_in r2 (fun y hy => (h.mem y hy).2.1)]
    simp only [inL]
    constructor
    · rintro ((q | q) | q)
      · exact .inl q
      · exact .inr (.inl q)
      · exact .inr (.inr q)
    · rintro (q | q | q)
      · exact .inl (.inl q)
      · exact .inl (.inr q)
      · exact .inr q
end Go.Proofs.YtikgplhcadomcaaGreat

namespace Go.Proofs.YtikgplhcadomcaaGreat
open Go.RowKit
set_option linter.unusedVariables false
set_option linter.unusedSimpArgs false

/-- All pages of a span are among those that there are. -/
def Fr.there (D : Fr) (s : Span) : Bool := decide (1 ≤ s.pages ∧ D.lo ≤ s.start ∧ s.start < D.n ∧ s.pages ≤ D.n - s.start)
section
variable {w : World} {g : Nat} {F : Nat → Prop} {D : Fr}
set_option maxRecDepth 100000 in
set_option maxHeartbeats 4000000 in
theorem there_calls (h : FrAt w g F D) (s : Span) : Calls Tryz.prog 172 #[.pointer (some ⟨g, 0, none⟩), .agg #[.int .i64 s.start, .int .i64 s.pages]] w fun e w' => e = .returned (.bool (D.there s)) ∧ Below w.heap.size w w' := by
  have hok := h.okD
  obtain ⟨A, c, c0, c1, c2, fz, ho, hr, hc, hv, hb⟩ := h.cells
  have hgl := h.glt
  obtain ⟨l0, l1, l2, l3, ln⟩ := hok
  clear h fz ho hr hc hv hb ln c2
  obtain ⟨a, b⟩ := s
  have k0 : ∀ o, (w.alloc o).cell? ⟨g, 0, none⟩ = some (.int .i64 D.lo) := fun o => ((bl_alloc (Below.refl _ w) o).cell (by exact hgl)).trans c0
  have k1 : ∀ o, (w.alloc o).cell? ⟨g, 1, none⟩ = some (.int .i64 D.n) := fun o => ((bl_alloc (Below.refl _ w) o).cell (by exact hgl)).trans c1
  have hfin : ∀ q : Nat, Hid (Below w.heap.size w ((w.alloc (.cells #[.int .i64 a, .int .i64 b] 160)).drewN q)) := fun q => bl_drewN (bl_alloc (Below.refl _ w) _) q
  go_enter Tryz.func172, Tryz.ntmps172
  rcases (Decidable.em (1 ≤ b)) with h1 | h1
  case' inr =>
    have d1 : decide (1 ≤ b) = false := by simpa using h1
    go_wp2
    go_quiet (fail)
    go_wp2
    go_ret
    exact ⟨ret_bool (by simp [Fr.there]; omega), (hfin _).out⟩
  rcases (Decidable.em (D.lo ≤ a)) with h2 | h2
  case' inr =>
    have d2 : decide (D.lo ≤ a) = false := by simpa using h2
    go_wp2
    go_quiet (fail)
    go_wp2
    go_ret
    exact ⟨ret_bool (by simp [Fr.there]; omega), (hfin _).out⟩
  rcases (Decidable.em (a < D.n)) with h3 | h3
  case' inr =>
    have d3 : decide (a < D.n) = false := by simpa using h3
    go_wp2
    go_quiet (fail)
    go_wp2
    go_ret
    exact ⟨ret_bool (by simp [Fr.there]; omega), (hfin _).out⟩
  have hw : IntKind.i64.wrap (D.n - a) = D.n - a := wrapI (by omega)
  go_wp2
  go_quiet (fail)
  go_wp2
  go_ret
  exact ⟨ret_bool (by simp [Fr.there, h1, h2, h3]), (hfin _).out⟩
end
end Go.Proofs.YtikgplhcadomcaaGreat

namespace Go.Proofs.YtikgplhcadomcaaGreat
open Go.RowKit
set_option linter.unusedVariables false
set_option linter.unusedSimpArgs false
set_option maxRecDepth 100000 in
set_option maxHeartbeats 4000000 in
theorem within_calls (w : World) (s r : Span) (hs : s.fits) (hr : r.fits) : Calls Tryz.prog 193 #[.agg #[.int .i64 s.start, .int .i64 s.pages], .agg #[.int .i64 r.start, .int .i64 r.pages]] w fun e w' => e = .returned (.bool (within s r)) ∧ Below w.heap.size w w' := by
  obtain ⟨a, b⟩ := s
  obtain ⟨c, d⟩ := r
  have hS : Hid (Num (a + b)) := hs
  have hR : Hid (Num (c + d)) := hr
  clear hs hr
  obtain ⟨W1, hW1⟩ : ∃ W, W = (w.alloc (.cells #[.int .i64 a, .int .i64 b] 251)).alloc (.cells #[.int .i64 c, .int .i64 d] 160) := ⟨_, rfl⟩
  have hb1 : Hid (Below w.heap.size w W1) := by show Below _ _ _; rw [hW1]; exact bl_alloc (bl_alloc (Below.refl _ w) _) _
  have hx : Hid (W1.heap[w.heap.size]? = some (.cells #[.int .i64 a, .int .i64 b] 251 (0, 0))) := hW1 ▸ blk_alloc (blk_new w _) _
  have hy : Hid (W1.heap[w.heap.size + 1]? = some (.cells #[.int .i64 c, .int .i64 d] 160 (0, 0))) := by
    show _ = _
    rw [hW1]
    have := blk_new (w.alloc (.cells #[.int .i64 a, .int .i64 b] 251)) (.cells #[.int .i64 c, .int .i64 d] 160)
    rw [World.size_alloc] at this
    exact this
  have hS1 : Hid (∀ W, Below W1.heap.size W1 W → W.cell? ⟨w.heap.size, 0, none⟩ = some (.int .i64 a) ∧ W.cell? ⟨w.heap.size, 1, none⟩ = some (.int .i64 b) ∧ W.cell? ⟨w.heap.size + 1, 0, none⟩ = some (.int .i64 c) ∧ W.cell? ⟨w.heap.size + 1, 1, none⟩ = some (.int .i64 d)) := fun W hW => by
    have q1 := span_at (s := ⟨a, b⟩) (blk_below hW hx.out (blk_lt hx.out))
    have q2 := span_at (s := ⟨c, d⟩) (blk_below hW hy.out (blk_lt hy.out))
    exact ⟨q1.1, q1.2, q2.1, q2.2⟩
  have hb0 : Hid (Below W1.heap.size W1 W1.drew) := (Below.refl _ W1).drew
  clear hx hy
  go_enter Tryz.func193, Tryz.ntmps193
  rcases (Decidable.em (c ≤ a)) with h1 | h1
  · go_wp2_with fail
    rw [← hW1]
    clear hW1
    go_region_held3 (fun W => W.cell? ⟨w.heap.size, 0, none⟩ = some (.int .i64 a) ∧ W.cell? ⟨w.heap.size, 1, none⟩ = some (.int .i64 b) ∧ W.cell? ⟨w.heap.size + 1, 0, none⟩ = some (.int .i64 c) ∧ W.cell? ⟨w.heap.size + 1, 1, none⟩ = some (.int .i64 d))
      (first | exact hS1.out _ hb0.out | exact hS1.out _ B2.out | exact hS1.out _ B3.out)
      (first
        | (go_simp; go_at_call 178; with_reducible refine (end_calls _ a b hS.out).mono ?_; rintro e w2 ⟨rfl, b2⟩; have B2 := Lib.hid (bl_then hb0.out hb0.out.size b2); clear b2)
        | (go_simp; go_at_call 178; with_reducible refine (end_calls _ c d hR.out).mono ?_; rintro e w3 ⟨rfl, b3⟩; have B3 := Lib.hid (bl_then B2.out B2.out.size b3); clear b3))
    all_goals
      go_wp2
      go_ret
      exact ⟨ret_bool (by simp [within, h1]), bl_then hb1.out hb1.out.size B3.out⟩
  · have d1 : decide (c ≤ a) = false := by simpa using h1
    go_wp2_with fail
    rw [← hW1]
    clear hW1
    obtain ⟨y0, y1, y2, y3⟩ := hS1.out _ (Below.refl _ W1)
    first
    | go_region_law (fail)
    | fail
    all_goals
      go_wp2
      go_ret
      exact ⟨ret_bool (by simp [within]; omega), bl_then hb1.out hb1.out.size hb0.out⟩
end Go.Proofs.YtikgplhcadomcaaGreat

namespace Go.Proofs.YtikgplhcadomcaaGreat
open Go.RowKit
set_option linter.unusedVariables false
set_option linter.unusedSimpArgs false

/-- An element's cells, for a walk. -/
theorem Rd.span {W : World} {b off k : Nat} {l : List Span} {x : Span} (h : Rd Span.enc 2 W (some ⟨b, off, none⟩) l) (hx : l[k]? = some x) : W.cell? ⟨b, off + k * 2, none⟩ = some (.int .i64 x.start) ∧ W.cell? ⟨b, off + k * 2 + 1, none⟩ = some (.int .i64 x.pages) := by
  have hr := h.range hx
  exact ⟨hr 0 _ rfl, hr 1 _ rfl⟩
theorem place_at {p : Span → Bool} {l : List Span} {k : Nat} {x : Span} (hx : l[k]? = some x) (hp : p x = true) (hl : ∀ (j : Nat) y, j < k → l[j]? = some y → p y = false) : place p l = k := by
  unfold place
  have : l.findIdx? p = some k := by
    obtain ⟨h, rfl⟩ := List.getElem?_eq_some_iff.1 hx
    refine List.findIdx?_eq_some_iff_getElem.2 ⟨h, hp, fun j hj => ?_⟩
    have := hl j _ hj (List.getElem?_eq_getElem (by omega))
    simpa using this
  rw [this]
theorem place_none {p : Span → Bool} {l : List Span} (hl : ∀ (j : Nat) y, l[j]? = some y → p y = false) : place p l = -1 := by
  unfold place
  have : l.findIdx? p = none := List.findIdx?_eq_none_iff.2 fun x hx => by
    obtain ⟨j, hj⟩ := List.mem_iff_getElem?.1 hx
    exact hl j x hj
  rw [this]
set_option maxRecDepth 100000 in
set_option maxHeartbeats 4000000 in
theorem indexFunc_calls (fk : FuncId) (V : Value) (p : Span → Bool) (w : World) (A : Option Addr) (c : Nat) (l : List Span) (hf : ∀ (args : Array Value) (W : World), (callFunc fk args).run Tryz.prog W = .ok (.enter fk args) W)
    (hp : ∀ r ∈ l, ∀ W, Below w.heap.size w W → Calls Tryz.prog fk #[V, .agg #[.int .i64 r.start, .int .i64 r.pages]] W fun e W' => e = .returned (.bool (p r)) ∧ Below W.heap.size W W') (hr : Rd Span.enc 2 w A l) (hc : l.length ≤ c) (hbig : c ≤ 9223372036854775807) :
    Calls Tryz.prog 199 #[.slice A l.length c, .func (.func fk) #[V] #[]] w fun e w' => e = .returned (.int .i64 (place p l)) ∧ Below w.heap.size w w' := by
  have HR := Lib.hid hr
  have HP := Lib.hid hp
  clear hr hp
  go_enter Tryz.func199, Tryz.ntmps199
  go_wp2
  go_loopg [8] l.length (fun m i wr => ∃ k : Nat, i = .int .i64 k ∧ k + m = l.length ∧ Hid (Below w.heap.size w wr) ∧ Hid (∀ (j : Nat) y, j < k → l[j]? = some y → p y = false))
  case atStart => exact ⟨0, rfl, by omega, Below.refl _ _, fun j y h => by omega⟩
  case round =>
    obtain ⟨k, rfl, hk, hb, hl⟩ := hrel
    rcases Nat.lt_or_ge k l.length with hlt | hge
    · rcases HR.out with h0 | ⟨b, off, rfl, hbl, hcell⟩
      · simp [h0] at hlt
      have hx : l[k]? = some l[k] := List.getElem?_eq_getElem hlt
      have hm : l[k] ∈ l := List.getElem_mem hlt
      obtain ⟨c0, c1⟩ := Rd.span (HR.out.below hb.out (Nat.le_refl _)) hx
      have hcall := Lib.hid (HP.out _ hm wr hb.out)
      have HX := Lib.hid hx
      generalize l[k] = x at *
      have i0 : (0 : Int) ≤ (k : Int) := by omega
      have i1 : (k : Int) < (l.length : Int) := by omega
      clear hcell hx hm
      go_wp2_with fail
      refine hcall.out.mono ?_
      rintro e w1 ⟨rfl, hb1⟩
      have hb2 : Hid (Below w.heap.size w w1) := bl_then hb.out hb.out.size hb1
      clear hb1
      rcases hpx : p x with _ | _
      · go_wp2
        go_roundg (gk - 1)
        case measure => omega
        case rel =>
          refine ⟨k + 1, by go_num, by omega, hb2.out, fun j y hj hy => ?_⟩
          rcases Nat.lt_or_ge j k with h | h
          · exact hl.out j y h hy
          · obtain rfl : j = k := by omega
            rw [HX.out] at hy
            cases hy
            exact hpx
      · go_wp2
        go_ret
        exact ⟨ret_int (place_at HX.out hpx hl.out).symm, hb2.out⟩
    · go_wp2
      go_ret
      refine ⟨ret_int (place_none fun j y hy => ?_).symm, hb.out⟩
      exact hl.out j y (by have := (List.getElem?_eq_some_iff.1 hy).1; omega) hy
section
variable {w : World} {g : Nat} {F : Nat → Prop} {D : Fr}
set_option maxRecDepth 100000 in
set_option maxHeartbeats 4000000 in
theorem row_of (fk : FuncId) (V : Value) (p : Span → Bool) (h : FrAt w g F D) (hf : ∀ (args : Array Value) (W : World), (callFunc fk args).run Tryz.prog W = .ok (.enter fk args) W)
    (hp : ∀ r ∈ D.l, ∀ W, Below w.heap.size w W → Calls Tryz.prog fk #[V, .agg #[.int .i64 r.start, .int .i64 r.pages]] W fun e W' => e = .returned (.bool (p r)) ∧ Below W.heap.size W W') :
    Calls Tryz.prog 173 #[.pointer (some ⟨g, 0, none⟩), .func (.func fk) #[V] #[]] w fun e w' => e = .returned (.int .i64 (place p D.l)) ∧ Below w.heap.size w w' := by
  obtain ⟨A, c, c0, c1, c2, fz, ho, hr, hc, hv, hb⟩ := h.cells
  have hcall := Lib.hid (indexFunc_calls fk V p w A c D.l hf hp hr hc (ho.rd' Span.ok).2.2.1)
  clear h fz ho hr hc hv hb c0 c1 hp hf
  go_enter Tryz.func173, Tryz.ntmps173
  go_wp2_with fail
  refine hcall.out.mono ?_
  rintro e w1 ⟨rfl, hb1⟩
  have HB := Lib.hid hb1
  clear hb1
  go_wp2
  go_ret
  exact ⟨rfl, HB.out⟩
theorem Fr.Ok.fits {D : Fr} (h : D.Ok) : ∀ r ∈ D.l, r.fits := fun r hr => by
  have := h.norm.mem r hr
  have := h.lo0
  have := h.n1
  unfold Span.fits
  omega
theorem Fr.there_fits {D : Fr} {s : Span} (h : D.Ok) (ht : D.there s = true) : s.fits := by
  simp only [Fr.there, decide_eq_true_eq] at ht
  have := h.lo0
  have := h.n1
  unfold Span.fits
  omega
theorem row_room (h : FrAt w g F D) (s : Span) : Calls Tryz.prog 173 #[.pointer (some ⟨g, 0, none⟩), .func (.func 194) #[.agg #[.int .i64 s.start, .int .i64 s.pages]] #[]] w fun e w' => e = .returned (.int .i64 (place (room s) D.l)) ∧ Below w.heap.size w w' :=
  row_of _ _ (room s) h (run_callFunc Tryz.func194 (by rfl) (by rfl)) fun r hr W _ => room_calls W s r
theorem row_within (h : FrAt w g F D) (s : Span) (hs : s.fits) : Calls Tryz.prog 173 #[.pointer (some ⟨g, 0, none⟩), .func (.func 193) #[.agg #[.int .i64 s.start, .int .i64 s.pages]] #[]] w fun e w' => e = .returned (.int .i64 (place (within s) D.l)) ∧ Below w.heap.size w w' :=
  row_of _ _ (within s) h (run_callFunc Tryz.func193 (by rfl) (by rfl)) fun r hr W _ => within_calls W s r hs (h.okD.fits r hr)
def Fr.has (D : Fr) (s : Span) : Bool := D.there s && decide (0 ≤ place (within s) D.l)
set_option maxRecDepth 100000 in
set_option maxHeartbeats 4000000 in
theorem fhas_calls (h : FrAt w g F D) (s : Span) : Calls Tryz.prog 191 #[.pointer (some ⟨g, 0, none⟩), .agg #[.int .i64 s.start, .int .i64 s.pages]] w fun e w' => e = .returned (.bool (D.has s)) ∧ Below w.heap.size w w' := by
  have h1 := Lib.hid (h.alloc (.cells #[.int .i64 s.start, .int .i64 s.pages] 160))
  have hb1 : Hid (Below w.heap.size w (w.alloc (.cells #[.int .i64 s.start, .int .i64 s.pages] 160))) := bl_alloc (Below.refl _ w) _
  have hs1 : Hid (∀ W, Below (w.alloc (.cells #[.int .i64 s.start, .int .i64 s.pages] 160)).heap.size (w.alloc (.cells #[.int .i64 s.start, .int .i64 s.pages] 160)) W → W.cell? ⟨w.heap.size, 0, none⟩ = some (.int .i64 s.start) ∧ W.cell? ⟨w.heap.size, 1, none⟩ = some (.int .i64 s.pages)) := fun W hW =>
    span_at (blk_below hW (blk_new w (.cells s.cells 160)) (by simp))
  have hfit := Lib.hid (fun q => Fr.there_fits (s := s) h.okD q)
  clear h
  go_enter Tryz.func191, Tryz.ntmps191
  go_wp2_with fail
  refine (there_calls h1.out s).mono ?_
  rintro e w1 ⟨rfl, b1⟩
  have B1 := Lib.hid b1
  obtain ⟨x0, x1⟩ := hs1.out w1 b1
  clear b1
  rcases ht : D.there s with _ | _
  · go_wp2
    go_ret
    exact ⟨ret_bool (by simp [Fr.has, ht]), bl_then hb1.out hb1.out.size B1.out⟩
  · have hF := Lib.hid (hfit.out ht)
    go_wp2_with fail
    refine (row_within (h1.out.below B1.out) s hF.out).mono ?_
    rintro e w2 ⟨rfl, b2⟩
    have B2 := Lib.hid b2
    clear b2
    go_wp2
    go_ret
    exact ⟨ret_bool (by simp [Fr.has, ht]), bl_then (bl_then hb1.out hb1.out.size B1.out) (bl_then hb1.out hb1.out.size B1.out).size B2.out⟩
end
end Go.Proofs.YtikgplhcadomcaaGreat

namespace Go.Proofs.YtikgplhcadomcaaGreat
open Go.RowKit
set_option linter.unusedVariables false
set_option linter.unusedSimpArgs false

theorem infoSpan : (Tryz.prog.info? 160).map (fun i => (i.zero, i.size, i.bytes)) = some (some (.agg #[.int .i64 0, .int .i64 0]), 2, 16) := by kernel_rfl
/-- Grow of the nil slice. -/
def GrowR (w w' : World) (e : Ending) : Prop := ∃ v, e = .returned v ∧ Own Span.enc 2 160 w.heap.size w' v [] ∧ Below w.heap.size w w'
set_option maxRecDepth 100000 in
set_option maxHeartbeats 4000000 in
theorem growSpan_calls (w : World) (n : Nat) (hn : n ≤ 1000000000) : Calls Tryz.prog 226 #[.slice none 0 0, .int .i64 n] w fun e w' => GrowR w w' e := by
  obtain ⟨i0, hi, hz0, hz1, hz2⟩ := info_parts infoSpan
  have h0 : (0 : Int) ≤ (n : Int) := by omega
  rcases Nat.eq_zero_or_pos n with rfl | hp
  · go_enter Tryz.func226, Tryz.ntmps226
    go_wp2
    go_ret
    exact ⟨_, rfl, Own.nil, Below.refl _ _⟩
  · have hr := fun ty => Lib.run_append_nil_zeros (P := Tryz.prog) w 90 3 ty 160 i0 _ .i64 .i64 Tryz.underlying90 Tryz.underlying3 hi hz0 n hp (by rw [hz1]; omega) (by omega) (by rw [hz2]; omega)
    have hge := grownCap_ge w n 0 160
    have hcm := grownCap_le_maxLen w n 0 160 (by simp only [maxLen]; omega)
    obtain ⟨G, hG⟩ : ∃ G, G = grownCap w n 0 160 := ⟨_, rfl⟩
    rw [← hG] at hr hge hcm
    unfold maxLen at hcm
    have HG := Lib.hid (show G ≤ 9223372036854775807 from hcm)
    clear hG hi hz0 hz1 hz2
    have hpi : (0 : Int) < (n : Int) := by omega
    have hb : Hid (Below w.heap.size w (w.drew.alloc (.cells (Builtin.zeroCells (Value.agg #[.int .i64 0, .int .i64 0]).cells n ++ Builtin.zeroCells (Value.agg #[.int .i64 0, .int .i64 0]).cells (G - n)) 160))) := ((Below.refl _ w).drew).alloc (Nat.le_refl _) _
    have ho : Hid (Own Span.enc 2 160 w.heap.size (w.drew.alloc (.cells (Builtin.zeroCells (Value.agg #[.int .i64 0, .int .i64 0]).cells n ++ Builtin.zeroCells (Value.agg #[.int .i64 0, .int .i64 0]).cells (G - n)) 160)) (.slice (some ⟨w.heap.size, 0, none⟩) 0 G) []) := by
      refine World.ownsRow_made w.drew _ G (Nat.le_refl _) HG.out ?_
      rw [Array.size_append, size_zeroCells, size_zeroCells]
      have : (Value.agg #[.int .i64 0, .int .i64 0]).cells.size = 2 := rfl
      rw [this]
      omega
    go_enter Tryz.func226, Tryz.ntmps226
    go_wp2_with (at_builtin; refine Lib.wpList_append_run _ rfl _ _ _ _ rfl _ _ rfl rfl _ _ (hr _) ?_)
    go_ret
    exact ⟨_, rfl, ho.out, hb.out⟩
/-- Rows that are to be put one behind the other. -/
structure Piece where
  A : Option Addr
  c : Nat
  l : List Span
def Piece.v (p : Piece) : Value := .slice p.A p.l.length p.c
def allP (ps : List Piece) : List Span := ps.flatMap Piece.l
def sumP (ps : List Piece) : Nat := (allP ps).length
theorem sumP_take {ps : List Piece} {k : Nat} {p : Piece} (h : ps[k]? = some p) : allP (ps.take (k + 1)) = allP (ps.take k) ++ p.l := by
  unfold allP
  rw [List.take_add_one, h]
  simp
theorem sumP_le (ps : List Piece) (k : Nat) : sumP (ps.take k) ≤ sumP ps := by
  unfold sumP allP
  conv => rhs; rw [← List.take_append_drop k ps, List.flatMap_append, List.length_append]
  omega
def ConcatR (w w' : World) (xs : List Span) (e : Ending) : Prop := ∃ v, e = .returned v ∧ Own Span.enc 2 160 w.heap.size w' v xs ∧ Below w.heap.size w w'
set_option maxRecDepth 100000 in
set_option maxHeartbeats 8000000 in
theorem concat_calls (w : World) (b off C : Nat) (ps : List Piece) (hcell : ∀ (k : Nat) p, ps[k]? = some p → w.cell? ⟨b, off + k, none⟩ = some p.v) (hb : b < w.heap.size) (hr : ∀ p ∈ ps, Rd Span.enc 2 w p.A p.l) (hC : ps.length ≤ C) (hC2 : C ≤ 1000) (hs : sumP ps ≤ 1000000000) :
    Calls Tryz.prog 215 #[.slice (some ⟨b, off, none⟩) ps.length C] w fun e w' => ConcatR w w' (allP ps) e := by
  have HC := Lib.hid hcell
  have HR := Lib.hid hr
  have t1 : Hid ((Value.agg #[.int .i64 0, .int .i64 0]).cells.size = 2) := rfl
  clear hcell hr
  go_enter Tryz.func215, Tryz.ntmps215
  go_wp2
  go_loopg [3, 5, 11] ps.length (fun m sz s5 i wr => ∃ k : Nat, i = .int .i64 k ∧ sz = .int .i64 (sumP (ps.take k)) ∧ k + m = ps.length ∧ wr = w)
  case atStart => exact ⟨0, rfl, by simp [sumP, allP], by omega, rfl⟩
  case round =>
    obtain ⟨k, rfl, rfl, hk, rfl⟩ := hrel
    rcases Nat.lt_or_ge k ps.length with hlt | hge
    · have hx : ps[k]? = some ps[k] := List.getElem?_eq_getElem hlt
      have x0 := HC.out k _ hx
      unfold Piece.v at x0
      have hsum := sumP_take hx
      have hle := sumP_le ps (k + 1)
      have e1 : sumP (ps.take (k + 1)) = sumP (ps.take k) + (ps[k]).l.length := by unfold sumP; rw [hsum]; simp
      have HE := Lib.hid e1
      have h1 : sumP (ps.take k) + (ps[k]).l.length ≤ 1000000000 := by omega
      generalize ps[k] = p at *
      generalize sumP (ps.take k) = sk at *
      have i0 : (0 : Int) ≤ (k : Int) := by omega
      have i1 : (k : Int) < (ps.length : Int) := by omega
      clear hx hsum e1
      go_wp2
      go_roundg (gk - 1)
      case measure => omega
      case rel => exact ⟨k + 1, by go_num, by rw [HE.out]; go_num, by omega, rfl⟩
    · have hke : Hid (sumP (ps.take k) = sumP ps) := by show _ = _; rw [List.take_of_length_le (by omega)]
      rw [hke.out]
      go_wp2_with fail
      refine (growSpan_calls wr (sumP ps) hs).mono ?_
      rintro e w1 ⟨v1, rfl, ho1, hb1⟩
      have HO1 := Lib.hid ho1
      have HB1 := Lib.hid hb1
      clear ho1 hb1
      go_wp2
      go_loopg [6, 8, 27] ps.length (fun m v s8 i w2 => ∃ (k : Nat) (v6 : Value) (W2 : World), i = .int .i64 k ∧ v6 = v ∧ W2 = w2 ∧ k + m = ps.length ∧ Hid (Own Span.enc 2 160 wr.heap.size W2 v6 (allP (ps.take k))) ∧ Hid (Below wr.heap.size wr W2))
      case atStart => exact ⟨0, _, _, rfl, rfl, rfl, by omega, by simpa [allP] using HO1, HB1⟩
      case round =>
        obtain ⟨j, v6, w2, rfl, rfl, rfl, hj, ho, hb2⟩ := hrel
        rcases Nat.lt_or_ge j ps.length with hlt | hge
        · have hx : ps[j]? = some ps[j] := List.getElem?_eq_getElem hlt
          have x0 := (hb2.out.cell (by exact hb)).trans (HC.out j _ hx)
          unfold Piece.v at x0
          have HS := Lib.hid (Rd.src (P := Tryz.prog) Span.ok Tryz.underlying90 (ps[j]).c ((HR.out _ (List.getElem_mem hlt)).below hb2.out (Nat.le_refl _)))
          have hsum := sumP_take hx
          have hle := sumP_le ps (j + 1)
          have e1 : sumP (ps.take (j + 1)) = (allP (ps.take j)).length + (ps[j]).l.length := by unfold sumP; rw [hsum]; simp
          have HE := Lib.hid hsum
          have l1 : Hid (((allP (ps.take j)).length + (ps[j]).l.length) * 16 ≤ 140737488355328) := by show _ ≤ _; omega
          have l2 : Hid ((allP (ps.take j)).length + (ps[j]).l.length ≤ 140737488355328) := by show _ ≤ _; omega
          generalize ps[j] = p at *
          generalize allP (ps.take j) = xs at *
          have i0 : (0 : Int) ≤ (j : Int) := by omega
          have i1 : (j : Int) < (ps.length : Int) := by omega
          have hz : Hid (wr.heap.size ≤ w2.heap.size) := hb2.out.size
          clear hx hsum hle e1
          go_wp2_with (at_builtin; refine at_list rfl (fun K hK => op_ownS Span.ok _ _ _ _ _ _ _ rfl Tryz.underlying90 infoSpan t1.out wr.heap.size v6 (.slice p.A p.l.length p.c) xs p.l rfl rfl ho.out HS.out hz.out l1.out l2.out (fun v' w' ho' hg => hK _ _ ?_)))
          have HO' := Lib.hid ho'
          have HB' : Hid (Below wr.heap.size wr w') := hb2.out.grown hg hz.out (fun q e => (ho.out.lt q e).1)
          clear ho' hg
          go_wp2
          go_roundg (gk - 1)
          case measure => omega
          case rel => exact ⟨j + 1, _, _, by go_num, rfl, rfl, by omega, by rw [HE.out]; exact HO', HB'⟩
        · have hje : Hid (allP (ps.take j) = allP ps) := by show _ = _; rw [List.take_of_length_le (by omega)]
          rw [hje.out] at ho
          go_wp2
          go_ret
          exact ⟨_, rfl, ho.out, hb2.out⟩
end Go.Proofs.YtikgplhcadomcaaGreat

namespace Go.Proofs.YtikgplhcadomcaaGreat
open Go.RowKit
set_option linter.unusedVariables false
set_option linter.unusedSimpArgs false

section
variable {P : Program} {ops : Array Oper} {Q : Exit → Act → World → Prop} {md : Region.Mode} {S : World → Prop} {z : Nat}
/-- Whatever order is picked; S holds behind every operation but z. -/
def AnyZ (P : Program) (md : Region.Mode) (ops : Array Oper) (Q : Exit → Act → World → Prop) (S : World → Prop) (z : Nat) : Nat → Array Bool → Act → World → Prop
  | 0, l, a, w => Region.ready md ops l = [] ∧ Q .normal a w
  | n + 1, l, a, w => (Region.ready md ops l = [] → Q .normal a w) ∧ ∀ i ∈ Region.ready md ops l, wpOp P ops Q i (fun a' w' => (i = z ∨ S w') ∧ AnyZ P md ops Q S z n (l.setIfInBounds i true) a' w') a w
theorem AnyZ.any : ∀ (n : Nat) (l : Array Bool) (a : Act) (w : World), AnyZ P md ops Q S z n l a w → wpAny P md ops Q n l a w
  | 0, _, _, _, h => h
  | n + 1, l, a, w, h => ⟨h.1, fun i hi => wpOp_mono (fun a' w' k => AnyZ.any n _ a' w' k.2) (h.2 i hi)⟩
/-- Who waits for i cannot come up ahead of it. -/
theorem waits {i j : Nat} {oj : Oper} {l : Array Bool} (hj : j ∈ Region.ready md ops l) (hoj : ops[j]? = some oj) (hi : i ∈ Region.ready md ops l) : ∀ e ∈ oj.after, Region.binds md e = true → e.on ≠ i := by
  intro e he hb heq
  obtain ⟨_, o', ho', hall⟩ := mem_ready.1 hj
  rw [hoj] at ho'
  cases ho'
  have h1 := hall e he hb
  have h0 := (mem_ready.1 hi).1
  subst heq
  rcases Nat.lt_or_ge e.on l.size with hlt | hge
  · simp [hlt] at h0 h1
    rw [h0] at h1
    cases h1
  · simp [Array.getElem?_eq_none hge] at h1
/-- An operation that yields its value in every world that meets S, and for which z waits, may be taken first. -/
theorem AnyZ.first {i : Nat} {oi oz : Oper} {v : Value} (hi : ops[i]? = some oi) (hz : ops[z]? = some oz) (hzi : ∃ e ∈ oz.after, Region.binds md e = true ∧ e.on = i) (hsel : ∀ (j : Nat) (o : Oper) cs b, ops[j]? = some o → o.op ≠ .select cs b)
    (hQ : ∀ c a w, Q (.panic c) (a.put oi.dst v) w → Q (.panic c) a w) : ∀ (n : Nat) (l : Array Bool) (a : Act) (w : World),
      (∀ j oj, ops[j]? = some oj → j ≠ i → l.getD j true = false → (∀ e ∈ oj.after, Region.binds md e = true → e.on ≠ i) → oi.apart ops oj = true) →
      i ∈ Region.ready md ops l → YieldsIf P ops S oi v a → S w → AnyZ P md ops Q S z n (l.setIfInBounds i true) (a.put oi.dst v) w → AnyZ P md ops Q S z (n + 1) l a w := by
  intro n
  have now : ∀ (m : Nat) (l : Array Bool) (a : Act) (w : World), YieldsIf P ops S oi v a → S w → AnyZ P md ops Q S z m (l.setIfInBounds i true) (a.put oi.dst v) w → wpOp P ops Q i (fun a' w' => (i = z ∨ S w') ∧ AnyZ P md ops Q S z m (l.setIfInBounds i true) a' w') a w :=
    fun m l a w hy hS h => hy.wpOp hi hS ⟨.inr hS, h⟩
  induction n with
  | zero =>
    intro l a w _ hr hy hS h
    refine ⟨fun e => (by rw [e] at hr; cases hr), fun j hj => ?_⟩
    rcases Decidable.em (j = i) with e | e
    · subst e
      exact now 0 l a w hy hS h
    · have q := ready_mono hj e
      rw [h.1] at q
      cases q
  | succ n ih =>
    intro l a w hfree hr hy hS h
    refine ⟨fun e => (by rw [e] at hr; cases hr), fun j hj => ?_⟩
    rcases Decidable.em (j = i) with e | e
    · subst e
      exact now (n + 1) l a w hy hS h
    · obtain ⟨hun, oj, hoj, _⟩ := mem_ready.1 hj
      have hno := waits hj hoj hr
      have hjz : j ≠ z := fun ez => by
        subst ez
        rw [hz] at hoj
        cases hoj
        obtain ⟨d, hd, hb, ho⟩ := hzi
        exact hno d hd hb ho
      have step := wpOp_putIf hoj (hfree j oj hoj e hun hno) (fun cs b => hsel i oi cs b hi) (fun cs b => hsel j oj cs b hoj) hQ hy (h.2 j (ready_mono hj e))
      refine wpOp_mono (fun a' w' k => ?_) step
      obtain ⟨ky, ks, kn⟩ := k
      have hS' : S w' := ks.resolve_left hjz
      refine ⟨.inr hS', ih _ a' w' (fun k ok hk hki hu hw => hfree k ok hk hki ?_ hw) (ready_mono hr (fun q => e q.symm)) ky hS' ?_⟩
      · rcases Decidable.em (j = k) with q | q
        · subst q; exact hun
        · rwa [getD_set_ne true q] at hu
      · rw [Array.setIfInBounds_comm _ _ e]
        exact kn
theorem AnyZ.take {i : Nat} {oi oz : Oper} {v : Value} {n : Nat} {l : Array Bool} {a : Act} {w : World} (hi : ops[i]? = some oi) (hz : ops[z]? = some oz) (hzi : (oz.after.any fun e => Region.binds md e && e.on == i) = true)
    (hs : Region.noSelect ops = true) (hf : Region.free md ops l i = true) (hr : (Region.ready md ops l).contains i = true) (hQ : ∀ c a w, Q (.panic c) (a.put oi.dst v) w → Q (.panic c) a w) (hy : YieldsIf P ops S oi v a) (hS : S w)
    (h : AnyZ P md ops Q S z n (l.setIfInBounds i true) (a.put oi.dst v) w) : AnyZ P md ops Q S z (n + 1) l a w :=
  AnyZ.first hi hz (by
    obtain ⟨k, hk, he⟩ := Array.any_eq_true.1 hzi
    simp only [Bool.and_eq_true, beq_iff_eq] at he
    exact ⟨_, Array.getElem_mem hk, he.1, he.2⟩) (Region.noSelect_spec hs) hQ n l a w (Region.free_spec hi hf) (by simpa using hr) hy hS h
theorem AnyZ.one {i : Nat} {oi : Oper} {n : Nat} {l : Array Bool} {a : Act} {w : World} (hr : Region.ready md ops l = [i]) (hi : ops[i]? = some oi)
    (h : ∀ K : Act → World → Prop, Shut (∀ a w, (i = z ∨ S w) → AnyZ P md ops Q S z n (l.setIfInBounds i true) a w → K a w) → if Region.wanted oi (yielded ops a.tmps) = true then Oper.wp P oi a w K Q else K (a.put oi.dst undef) w) : AnyZ P md ops Q S z (n + 1) l a w := by
  refine ⟨fun e => (by rw [hr] at e; cases e), fun j hj => ?_⟩
  rw [hr] at hj
  simp at hj
  subst hj
  exact wpOp_step hi (fun K hK => h K (fun a w k1 k2 => hK a w ⟨k1, k2⟩))
theorem AnyZ.done {l : Array Bool} {a : Act} {w : World} (hr : Region.ready md ops l = []) (h : Q .normal a w) : ∀ n, AnyZ P md ops Q S z n l a w
  | 0 => ⟨hr, h⟩
  | _ + 1 => ⟨fun _ => h, fun i hi => by rw [hr] at hi; cases hi⟩
theorem wp_regionZ {id : Nat} {a : Act} {w : World} (z : Nat) (S : World → Prop) (hm : P.follows .mixedOrders = true) (h : AnyZ P .any ops Q S z ops.size (Array.replicate ops.size false) a w.drew) : (Code.region id ops true).wp P Q a w :=
  wp_region_any hm (AnyZ.any _ _ _ _ h)
end
end Go.Proofs.YtikgplhcadomcaaGreat

namespace Go.Proofs.YtikgplhcadomcaaGreat
open Go.RowKit
set_option linter.unusedVariables false
set_option linter.unusedSimpArgs false

section
variable {P : Program} {ops : Array Oper} {Q : Exit → Act → World → Prop} {md : Region.Mode} {S : World → Prop} {z : Nat}
/-- None of U can come up ahead of i: each waits for i or for one of U. -/
def chained (md : Region.Mode) (ops : Array Oper) (i : Nat) (U : List Nat) : Bool :=
  U.all fun u => match ops[u]? with
    | some o => o.after.any fun e => Region.binds md e && (e.on == i || U.contains e.on)
    | none => false
theorem unrun {i j : Nat} {U : List Nat} {l : Array Bool} (hc : chained md ops i U = true) (hl : ∀ u ∈ U, l.getD u true = false) (hi : i ∈ Region.ready md ops l) (hj : j ∈ Region.ready md ops l) : j ∉ U := by
  intro hU
  obtain ⟨_, o, ho, hall⟩ := mem_ready.1 hj
  have := List.all_eq_true.1 hc j hU
  rw [ho] at this
  obtain ⟨k, hk, he⟩ := Array.any_eq_true.1 this
  simp only [Bool.and_eq_true, Bool.or_eq_true, beq_iff_eq, List.contains_iff_mem] at he
  have hd := hall _ (Array.getElem_mem hk) he.1
  rcases he.2 with e | e
  · exact waits hj ho hi _ (Array.getElem_mem hk) he.1 e
  · have h0 := hl _ e
    generalize (o.after[k]).on = u at *
    rcases Nat.lt_or_ge u l.size with hlt | hge
    · simp [hlt] at h0 hd
      rw [h0] at hd
      cases hd
    · simp [Array.getElem?_eq_none hge] at hd
theorem AnyZ.firstU {i : Nat} {oi : Oper} {v : Value} (U : List Nat) (hi : ops[i]? = some oi) (hzU : z ∈ U) (hc : chained md ops i U = true) (hsel : ∀ (j : Nat) (o : Oper) cs b, ops[j]? = some o → o.op ≠ .select cs b)
    (hQ : ∀ c a w, Q (.panic c) (a.put oi.dst v) w → Q (.panic c) a w) : ∀ (n : Nat) (l : Array Bool) (a : Act) (w : World),
      (∀ j oj, ops[j]? = some oj → j ≠ i → l.getD j true = false → (∀ e ∈ oj.after, Region.binds md e = true → e.on ≠ i) → oi.apart ops oj = true) →
      (∀ u ∈ U, l.getD u true = false) →
      i ∈ Region.ready md ops l → YieldsIf P ops S oi v a → S w → AnyZ P md ops Q S z n (l.setIfInBounds i true) (a.put oi.dst v) w → AnyZ P md ops Q S z (n + 1) l a w := by
  intro n
  have now : ∀ (m : Nat) (l : Array Bool) (a : Act) (w : World), YieldsIf P ops S oi v a → S w → AnyZ P md ops Q S z m (l.setIfInBounds i true) (a.put oi.dst v) w → wpOp P ops Q i (fun a' w' => (i = z ∨ S w') ∧ AnyZ P md ops Q S z m (l.setIfInBounds i true) a' w') a w :=
    fun m l a w hy hS h => hy.wpOp hi hS ⟨.inr hS, h⟩
  induction n with
  | zero =>
    intro l a w _ _ hr hy hS h
    refine ⟨fun e => (by rw [e] at hr; cases hr), fun j hj => ?_⟩
    rcases Decidable.em (j = i) with e | e
    · subst e
      exact now 0 l a w hy hS h
    · have q := ready_mono hj e
      rw [h.1] at q
      cases q
  | succ n ih =>
    intro l a w hfree hU hr hy hS h
    refine ⟨fun e => (by rw [e] at hr; cases hr), fun j hj => ?_⟩
    rcases Decidable.em (j = i) with e | e
    · subst e
      exact now (n + 1) l a w hy hS h
    · obtain ⟨hun, oj, hoj, _⟩ := mem_ready.1 hj
      have hno := waits hj hoj hr
      have hjU := unrun hc hU hr hj
      have hjz : j ≠ z := fun ez => hjU (ez ▸ hzU)
      have step := wpOp_putIf hoj (hfree j oj hoj e hun hno) (fun cs b => hsel i oi cs b hi) (fun cs b => hsel j oj cs b hoj) hQ hy (h.2 j (ready_mono hj e))
      refine wpOp_mono (fun a' w' k => ?_) step
      obtain ⟨ky, ks, kn⟩ := k
      have hS' : S w' := ks.resolve_left hjz
      refine ⟨.inr hS', ih _ a' w' (fun k ok hk hki hu hw => hfree k ok hk hki ?_ hw) (fun u hu => ?_) (ready_mono hr (fun q => e q.symm)) ky hS' ?_⟩
      · rcases Decidable.em (j = k) with q | q
        · subst q; exact hun
        · rwa [getD_set_ne true q] at hu
      · rw [getD_set_ne true (fun q => hjU (by rw [q]; exact hu))]
        exact hU u hu
      · rw [Array.setIfInBounds_comm _ _ e]
        exact kn
theorem AnyZ.takeU {i : Nat} {oi : Oper} {v : Value} {n : Nat} {l : Array Bool} {a : Act} {w : World} (U : List Nat) (hi : ops[i]? = some oi) (hzU : U.contains z = true) (hc : chained md ops i U = true) (hl : (U.all fun u => l.getD u true == false) = true)
    (hs : Region.noSelect ops = true) (hf : Region.free md ops l i = true) (hr : (Region.ready md ops l).contains i = true) (hQ : ∀ c a w, Q (.panic c) (a.put oi.dst v) w → Q (.panic c) a w) (hy : YieldsIf P ops S oi v a) (hS : S w)
    (h : AnyZ P md ops Q S z n (l.setIfInBounds i true) (a.put oi.dst v) w) : AnyZ P md ops Q S z (n + 1) l a w :=
  AnyZ.firstU U hi (by simpa using hzU) hc (Region.noSelect_spec hs) hQ n l a w (Region.free_spec hi hf) (fun u hu => by simpa using List.all_eq_true.1 hl u hu) (by simpa using hr) hy hS h
end
end Go.Proofs.YtikgplhcadomcaaGreat
