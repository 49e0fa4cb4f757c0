/- Rows of free pages, in plain terms: which pages a list of rows has; cut, joined, put in; the rows of a list of marks. No program in sight. -/
import Derived.Test.YtglpckdmiohciaaExt0
namespace Go.Proofs.Ytglpckdmiohciaa
set_option linter.unusedVariables false
set_option linter.unusedSimpArgs false

/-- Page i is in one of the rows. -/
def inL : List Span → Int → Prop
  | [], _ => False
  | s :: l, i => (s.start ≤ i ∧ i < s.start + s.pages) ∨ inL l i
theorem inL_mem : ∀ {l : List Span} {i : Int}, inL l i ↔ ∃ s ∈ l, s.start ≤ i ∧ i < s.start + s.pages
  | [], i => by simp [inL]
  | s :: l, i => by simp [inL, inL_mem (l := l)]
theorem inL_append {l m : List Span} {i : Int} : inL (l ++ m) i ↔ inL l i ∨ inL m i := by
  simp only [inL_mem, List.mem_append]
  constructor
  · rintro ⟨s, h | h, k⟩
    · exact .inl ⟨s, h, k⟩
    · exact .inr ⟨s, h, k⟩
  · rintro (⟨s, h, k⟩ | ⟨s, h, k⟩)
    · exact ⟨s, .inl h, k⟩
    · exact ⟨s, .inr h, k⟩
theorem Norm.inn {lo n : Int} {l : List Span} (h : Norm lo n l) {i : Int} (hi : inL l i) : lo ≤ i ∧ i < n := by
  obtain ⟨s, hs, h1, h2⟩ := inL_mem.1 hi
  have := h.mem s hs
  omega
/-- Rows that have the same pages are the same. -/
theorem norm_eq {n n' : Int} : ∀ {l m : List Span} {lo lo' : Int}, Norm lo n l → Norm lo' n' m → (∀ i, inL l i ↔ inL m i) → l = m
  | [], [], _, _, _, _, _ => rfl
  | [], t :: m, _, _, _, ⟨h1, h2, h3, h4⟩, h => ((h t.start).2 (.inl ⟨by omega, by omega⟩)).elim
  | s :: l, [], _, _, ⟨h1, h2, h3, h4⟩, _, h => ((h s.start).1 (.inl ⟨by omega, by omega⟩)).elim
  | s :: l, t :: m, lo, lo', ⟨h1, h2, h3, h4⟩, ⟨k1, k2, k3, k4⟩, h => by
    have a1 : t.start ≤ s.start := by
      rcases (h s.start).1 (.inl ⟨by omega, by omega⟩) with q | q
      · omega
      · have := k4.inn q; omega
    have a2 : s.start ≤ t.start := by
      rcases (h t.start).2 (.inl ⟨by omega, by omega⟩) with q | q
      · omega
      · have := h4.inn q; omega
    have b1 : s.start + s.pages ≤ t.start + t.pages := by
      rcases Int.lt_or_le (t.start + t.pages) (s.start + s.pages) with q | q
      · rcases (h (t.start + t.pages)).1 (.inl ⟨by omega, by omega⟩) with r | r
        · omega
        · have := k4.inn r; omega
      · exact q
    have b2 : t.start + t.pages ≤ s.start + s.pages := by
      rcases Int.lt_or_le (s.start + s.pages) (t.start + t.pages) with q | q
      · rcases (h (s.start + s.pages)).2 (.inl ⟨by omega, by omega⟩) with r | r
        · omega
        · have := h4.inn r; omega
      · exact q
    have e : s = t := by
      cases s; cases t
      simp only [Span.mk.injEq]
      dsimp only at *
      omega
    subst e
    rw [norm_eq h4 k4 (fun i => ?_)]
    constructor
    · intro hi
      have := h4.inn hi
      rcases (h i).1 (.inr hi) with q | q
      · omega
      · exact q
    · intro hi
      have := k4.inn hi
      rcases (h i).2 (.inr hi) with q | q
      · omega
      · exact q

/-! ### A span and the rows -/
def within (s r : Span) : Bool := decide (r.start ≤ s.start ∧ s.start + s.pages ≤ r.start + r.pages)
def meets (s r : Span) : Bool := decide (r.start < s.start + s.pages ∧ s.start < r.start + r.pages)
def behind (s r : Span) : Bool := decide (s.start + s.pages ≤ r.start)
def room (s r : Span) : Bool := decide (s.pages ≤ r.pages)
/-- The place of the first row that something holds of; -1: of none. -/
def place (p : Span → Bool) (l : List Span) : Int := match l.findIdx? p with | some i => (i : Int) | none => -1
theorem place_neg {p : Span → Bool} {l : List Span} : place p l < 0 ↔ ∀ r ∈ l, p r = false := by
  unfold place
  cases h : l.findIdx? p with
  | none =>
    have := List.findIdx?_eq_none_iff.1 h
    simp only [show ((-1 : Int) < 0) from by omega, true_iff]
    exact fun r hr => by simpa using this r hr
  | some i =>
    obtain ⟨h1, h2, h3⟩ := List.findIdx?_eq_some_iff_getElem.1 h
    simp only [show ¬ ((i : Int) < 0) from by omega, false_iff]
    exact fun q => by rw [q _ (List.getElem_mem h1)] at h2; cases h2
theorem place_some {p : Span → Bool} {l : List Span} (h : ¬ place p l < 0) : ∃ (i : Nat) (r : Span), place p l = i ∧ l[i]? = some r ∧ p r = true ∧ ∀ (j : Nat) x, j < i → l[j]? = some x → p x = false := by
  unfold place at h ⊢
  cases hi : l.findIdx? p with
  | none => rw [hi] at h; exact absurd (by decide) h
  | some i =>
    obtain ⟨h1, h2, h3⟩ := List.findIdx?_eq_some_iff_getElem.1 hi
    refine ⟨i, l[i], rfl, List.getElem?_eq_getElem h1, h2, fun j x hj hx => ?_⟩
    obtain ⟨hl, rfl⟩ := List.getElem?_eq_some_iff.1 hx
    have := h3 j hj
    simpa using this
theorem within_iff {n : Int} (s : Span) (hs : 1 ≤ s.pages) : ∀ {l : List Span} {lo : Int}, Norm lo n l → ((∃ r ∈ l, within s r = true) ↔ ∀ i, s.start ≤ i → i < s.start + s.pages → inL l i)
  | [], _, _ => by
    simp only [List.not_mem_nil, false_and, exists_false, false_iff]
    exact fun h => h s.start (by omega) (by omega)
  | r :: l, lo, ⟨h1, h2, h3, h4⟩ => by
    constructor
    · rintro ⟨x, hx, hw⟩ i i1 i2
      simp only [within, decide_eq_true_eq] at hw
      exact inL_mem.2 ⟨x, hx, by omega, by omega⟩
    · intro h
      rcases h s.start (by omega) (by omega) with q | q
      · refine ⟨r, List.mem_cons_self, ?_⟩
        simp only [within, decide_eq_true_eq]
        refine ⟨q.1, ?_⟩
        rcases Int.lt_or_le (r.start + r.pages) (s.start + s.pages) with k | k
        · rcases h (r.start + r.pages) (by omega) (by omega) with z | z
          · omega
          · have := h4.inn z; omega
        · exact k
      · have hq := h4.inn q
        obtain ⟨x, hx, hw⟩ := (within_iff s hs h4).2 (fun i i1 i2 => by
          rcases h i i1 i2 with z | z
          · omega
          · exact z)
        exact ⟨x, List.mem_cons_of_mem _ hx, hw⟩
theorem meets_iff {lo n : Int} (s : Span) (hs : 1 ≤ s.pages) {l : List Span} (h : Norm lo n l) : (∀ r ∈ l, meets s r = false) ↔ ∀ i, s.start ≤ i → i < s.start + s.pages → ¬ inL l i := by
  constructor
  · intro hm i i1 i2 hi
    obtain ⟨r, hr, h1, h2⟩ := inL_mem.1 hi
    have := hm r hr
    simp only [meets, decide_eq_false_iff_not] at this
    omega
  · intro hm r hr
    simp only [meets, decide_eq_false_iff_not]
    intro ⟨a, b⟩
    have hrp := h.mem r hr
    refine hm (max r.start s.start) (by omega) (by omega) (inL_mem.2 ⟨r, hr, by omega, by omega⟩)

/-! ### Cut out of a row -/
/-- What is left of a row. -/
def rest (r s : Span) : List Span := (if r.start < s.start then [⟨r.start, s.start - r.start⟩] else []) ++ (if s.start + s.pages < r.start + r.pages then [⟨s.start + s.pages, r.start + r.pages - (s.start + s.pages)⟩] else [])
def cutL (l : List Span) (i : Nat) (s : Span) : List Span := l.take i ++ rest (l.getD i default) s ++ l.drop (i + 1)
theorem rest_norm {lo n : Int} {r s : Span} {l : List Span} (h1 : lo ≤ r.start) (h3 : r.start + r.pages ≤ n) (h4 : Norm (r.start + r.pages + 1) n l) (hs : 1 ≤ s.pages) (hw : within s r = true) : Norm lo n (rest r s ++ l) := by
  simp only [within, decide_eq_true_eq] at hw
  unfold rest
  split <;> split <;> simp only [List.nil_append, List.cons_append, List.append_nil, Norm]
  · exact ⟨by omega, by omega, by omega, by omega, by omega, by omega, h4.mono (by omega)⟩
  · exact ⟨by omega, by omega, by omega, h4.mono (by omega)⟩
  · exact ⟨by omega, by omega, by omega, h4.mono (by omega)⟩
  · exact h4.mono (by omega)
theorem rest_in {r s : Span} (hw : within s r = true) (hs : 1 ≤ s.pages) (j : Int) : inL (rest r s) j ↔ (r.start ≤ j ∧ j < r.start + r.pages) ∧ ¬ (s.start ≤ j ∧ j < s.start + s.pages) := by
  simp only [within, decide_eq_true_eq] at hw
  unfold rest
  split <;> split <;> simp only [List.nil_append, List.cons_append, List.append_nil, inL, or_false, false_or, false_iff] <;> omega
theorem cut_norm {n : Int} {s r : Span} (hs : 1 ≤ s.pages) (hw : within s r = true) : ∀ {l : List Span} {lo : Int} (i : Nat), Norm lo n l → l[i]? = some r → Norm lo n (cutL l i s)
  | [], _, i, _, h => by simp at h
  | x :: l, lo, 0, ⟨h1, h2, h3, h4⟩, h => by
    simp at h
    subst h
    simpa [cutL] using rest_norm h1 h3 h4 hs hw
  | x :: l, lo, i + 1, ⟨h1, h2, h3, h4⟩, h => by
    have := cut_norm hs hw i h4 (by simpa using h)
    have e : cutL (x :: l) (i + 1) s = x :: cutL l i s := by simp [cutL]
    rw [e]
    exact ⟨h1, h2, h3, this⟩
theorem cut_in {n : Int} {s r : Span} (hs : 1 ≤ s.pages) (hw : within s r = true) (j : Int) : ∀ {l : List Span} {lo : Int} (i : Nat), Norm lo n l → l[i]? = some r → (inL (cutL l i s) j ↔ inL l j ∧ ¬ (s.start ≤ j ∧ j < s.start + s.pages))
  | [], _, i, _, h => by simp at h
  | x :: l, lo, 0, ⟨h1, h2, h3, h4⟩, h => by
    simp at h
    subst h
    have e : cutL (x :: l) 0 s = rest x s ++ l := by simp [cutL]
    rw [e, inL_append, rest_in hw hs]
    simp only [within, decide_eq_true_eq] at hw
    simp only [inL]
    constructor
    · rintro (q | q)
      · exact ⟨.inl q.1, q.2⟩
      · have := h4.inn q
        exact ⟨.inr q, by omega⟩
    · rintro ⟨q | q, k⟩
      · exact .inl ⟨q, k⟩
      · exact .inr q
  | x :: l, lo, i + 1, ⟨h1, h2, h3, h4⟩, h => by
    have e : cutL (x :: l) (i + 1) s = x :: cutL l i s := by simp [cutL]
    have hr := (List.mem_of_getElem? (show l[i]? = some r by simpa using h))
    have hm := h4.mem r hr
    rw [e]
    simp only [inL, cut_in hs hw j i h4 (by simpa using h)]
    simp only [within, decide_eq_true_eq] at hw
    constructor
    · rintro (q | q)
      · exact ⟨.inl q, by omega⟩
      · exact ⟨.inr q.1, q.2⟩
    · rintro ⟨q | q, k⟩
      · exact .inl q
      · exact .inr ⟨q, k⟩

/-! ### Put in and joined -/
/-- As Norm, but rows may be next to each other. -/
def Rise (lo n : Int) : List Span → Prop
  | [] => True
  | s :: l => lo ≤ s.start ∧ 1 ≤ s.pages ∧ s.start + s.pages ≤ n ∧ Rise (s.start + s.pages) n l
theorem Norm.rise {n : Int} : ∀ {l : List Span} {lo : Int}, Norm lo n l → Rise lo n l
  | [], _, _ => trivial
  | s :: l, lo, ⟨h1, h2, h3, h4⟩ => ⟨h1, h2, h3, (h4.mono (by omega)).rise⟩
theorem Rise.mono {n : Int} : ∀ {l : List Span} {a b : Int}, Rise a n l → b ≤ a → Rise b n l
  | [], _, _, _, _ => trivial
  | _ :: _, _, _, ⟨h1, h2, h3, h4⟩, hb => ⟨by omega, h2, h3, h4⟩
theorem Rise.mem {n : Int} : ∀ {l : List Span} {lo : Int}, Rise lo n l → ∀ s ∈ l, lo ≤ s.start ∧ 1 ≤ s.pages ∧ s.start + s.pages ≤ n
  | [], _, _, s, hs => by cases hs
  | x :: l, lo, ⟨h1, h2, h3, h4⟩, s, hs => by
    rcases List.mem_cons.1 hs with rfl | hs
    · exact ⟨h1, h2, h3⟩
    · have := Rise.mem h4 s hs
      omega
/-- Where a span is put in. -/
def insL (l : List Span) (s : Span) : List Span := l.take (if place (behind s) l < 0 then l.length else (place (behind s) l).toNat) ++ s :: l.drop (if place (behind s) l < 0 then l.length else (place (behind s) l).toNat)
theorem place_cons (p : Span → Bool) (r : Span) (l : List Span) : place p (r :: l) = if p r then 0 else if place p l < 0 then -1 else place p l + 1 := by
  unfold place
  rw [List.findIdx?_cons]
  cases p r with
  | true => rfl
  | false =>
    cases l.findIdx? p with
    | none => rfl
    | some i =>
      simp only [Option.map_some, Bool.false_eq_true, if_false]
      rw [if_neg (by omega)]
      omega
theorem insL_cons (r : Span) (l : List Span) (s : Span) : insL (r :: l) s = if behind s r then s :: r :: l else r :: insL l s := by
  unfold insL
  rw [place_cons]
  cases behind s r with
  | true => simp
  | false =>
    simp only [Bool.false_eq_true, if_false]
    by_cases h : place (behind s) l < 0
    · simp [h]
    · have e : (place (behind s) l + 1).toNat = (place (behind s) l).toNat + 1 := by omega
      rw [if_neg h, if_neg (by omega), if_neg h, e]
      simp
theorem ins_rise {n : Int} (s : Span) (hs : 1 ≤ s.pages) (hn : s.start + s.pages ≤ n) : ∀ {l : List Span} {lo : Int}, Rise lo n l → lo ≤ s.start → (∀ r ∈ l, meets s r = false) → Rise lo n (insL l s)
  | [], lo, _, h, _ => ⟨h, hs, hn, trivial⟩
  | r :: l, lo, ⟨h1, h2, h3, h4⟩, h, hm => by
    rw [insL_cons]
    have hr := hm r List.mem_cons_self
    simp only [meets, decide_eq_false_iff_not] at hr
    cases hb : behind s r with
    | true =>
      simp only [behind, decide_eq_true_eq] at hb
      exact ⟨h, hs, hn, hb, h2, h3, h4⟩
    | false =>
      simp only [behind, decide_eq_false_iff_not] at hb
      exact ⟨h1, h2, h3, ins_rise s hs hn h4 (by omega) (fun x hx => hm x (List.mem_cons_of_mem _ hx))⟩
theorem ins_in (s : Span) (j : Int) : ∀ (l : List Span), inL (insL l s) j ↔ inL l j ∨ (s.start ≤ j ∧ j < s.start + s.pages)
  | [] => by simp [insL, inL]
  | r :: l => by
    rw [insL_cons]
    cases behind s r with
    | true => simp only [if_true, inL]; rw [or_comm]
    | false => simp only [Bool.false_eq_true, if_false, inL, ins_in s j l]; rw [or_assoc]
theorem ins_len (l : List Span) (s : Span) : (insL l s).length = l.length + 1 := by
  unfold insL
  generalize (if place (behind s) l < 0 then l.length else (place (behind s) l).toNat) = k
  simp only [List.length_append, List.length_cons, List.length_take, List.length_drop]
  omega
/-- One more row behind those that were joined. -/
def joinR (acc : List Span) (r : Span) : List Span :=
  match acc.getLast? with
  | some y => if y.start + y.pages = r.start then acc.dropLast ++ [⟨y.start, y.pages + r.pages⟩] else acc ++ [r]
  | none => acc ++ [r]
def joinL (l : List Span) : List Span := l.foldl joinR []
theorem norm_snoc {m : Int} {x : Span} (hx : 1 ≤ x.pages) : ∀ {acc : List Span} {lo : Int}, Norm lo m acc → (∀ y, acc.getLast? = some y → y.start + y.pages < x.start) → lo ≤ x.start → Norm lo (x.start + x.pages) (acc ++ [x])
  | [], lo, _, _, h => ⟨h, hx, by omega, trivial⟩
  | [y], lo, ⟨h1, h2, h3, _⟩, h, _ => by
    have := h y rfl
    exact ⟨h1, h2, by omega, by omega, hx, by omega, trivial⟩
  | y :: z :: acc, lo, ⟨h1, h2, h3, h4⟩, h, hl => by
    have hlast := h4
    have q := norm_snoc hx h4 (fun t ht => h t (by simpa using ht)) (by
      have hne : (z :: acc) ≠ [] := by simp
      have hm := List.getLast_mem hne
      have := h ((z :: acc).getLast hne) (by rw [List.getLast?_cons_cons, List.getLast?_eq_some_getLast hne])
      have := h4.mem _ hm
      omega)
    refine ⟨h1, h2, ?_, q⟩
    have := q.mem x (by simp)
    omega
theorem norm_last {m : Int} {x y : Span} (hx : 1 ≤ x.pages) (he : y.start + y.pages = x.start) : ∀ {acc : List Span} {lo : Int}, Norm lo m (acc ++ [y]) → Norm lo (x.start + x.pages) (acc ++ [⟨y.start, y.pages + x.pages⟩])
  | [], lo, ⟨h1, h2, h3, h4⟩ => ⟨h1, by dsimp only; omega, by dsimp only; omega, trivial⟩
  | z :: acc, lo, ⟨h1, h2, h3, h4⟩ => by
    have q := norm_last hx he h4
    refine ⟨h1, h2, ?_, q⟩
    have := q.mem ⟨y.start, y.pages + x.pages⟩ (by simp)
    dsimp only at this
    omega
theorem join_norm {lo m : Int} {acc : List Span} {x : Span} (h : Norm lo m acc) (hm : m ≤ x.start) (hl : lo ≤ x.start) (hx : 1 ≤ x.pages) : Norm lo (x.start + x.pages) (joinR acc x) := by
  unfold joinR
  cases hy : acc.getLast? with
  | none => exact norm_snoc hx h (fun y e => by rw [hy] at e; cases e) hl
  | some y =>
    have hne : acc ≠ [] := by intro e; subst e; cases hy
    have hmem : y ∈ acc := List.mem_of_getLast? hy
    have hb := h.mem y hmem
    dsimp only
    split
    · rename_i e
      have e2 : acc = acc.dropLast ++ [y] := by
        rw [List.getLast?_eq_some_getLast hne] at hy
        cases hy
        exact (List.dropLast_concat_getLast hne).symm
      rw [e2] at h
      exact norm_last hx e h
    · exact norm_snoc hx h (fun z hz => by rw [hy] at hz; cases hz; omega) hl
theorem join_in {acc : List Span} {x : Span} (hx : 1 ≤ x.pages) (hp : ∀ y ∈ acc, 1 ≤ y.pages) (j : Int) : inL (joinR acc x) j ↔ inL acc j ∨ (x.start ≤ j ∧ j < x.start + x.pages) := by
  unfold joinR
  cases hy : acc.getLast? with
  | none => simp [inL_append, inL]
  | some y =>
    have hne : acc ≠ [] := by intro e; subst e; cases hy
    dsimp only
    split
    · rename_i e
      have e2 : acc = acc.dropLast ++ [y] := by
        rw [List.getLast?_eq_some_getLast hne] at hy
        cases hy
        exact (List.dropLast_concat_getLast hne).symm
      have hyp := hp y (List.mem_of_getLast? hy)
      have e3 : inL acc j ↔ inL acc.dropLast j ∨ (y.start ≤ j ∧ j < y.start + y.pages) := by
        conv => lhs; rw [e2]
        simp [inL_append, inL]
      rw [e3]
      simp only [inL_append, inL, or_false]
      constructor
      · rintro (q | q)
        · exact .inl (.inl q)
        · by_cases hj : j < y.start + y.pages
          · exact .inl (.inr ⟨q.1, hj⟩)
          · exact .inr (by omega)
      · rintro ((q | q) | q)
        · exact .inl q
        · exact .inr (by omega)
        · exact .inr (by omega)
    · simp [inL_append, inL]
theorem Norm.up {n m : Int} (hm : m ≤ n) : ∀ {l : List Span} {lo : Int}, Norm lo m l → Norm lo n l
  | [], _, _ => trivial
  | _ :: _, _, ⟨h1, h2, h3, h4⟩ => ⟨h1, h2, by omega, h4.up hm⟩
theorem joins {n : Int} : ∀ {l acc : List Span} {lo m : Int}, Norm lo m acc → lo ≤ m → m ≤ n → Rise m n l → Norm lo n (l.foldl joinR acc) ∧ ∀ j, inL (l.foldl joinR acc) j ↔ inL acc j ∨ inL l j
  | [], acc, lo, m, h, hlo, hm, _ => by
    refine ⟨?_, fun j => by simp [inL]⟩
    exact h.up hm
  | x :: l, acc, lo, m, h, hlo, hm, ⟨r1, r2, r3, r4⟩ => by
    obtain ⟨q1, q2⟩ := joins (join_norm h r1 (by omega) r2) (by omega) r3 r4
    refine ⟨q1, fun j => ?_⟩
    show inL (l.foldl joinR (joinR acc x)) j ↔ _
    rw [q2, join_in r2 (fun y hy => (h.mem y hy).2.1)]
    simp only [inL]
    constructor
    · rintro ((q | q) | q)
      · exact .inl q
      · exact .inr (.inl q)
      · exact .inr (.inr q)
    · rintro (q | q | q)
      · exact .inl (.inl q)
      · exact .inl (.inr q)
      · exact .inr q
def giveL (l : List Span) (s : Span) : List Span := joinL (insL l s)
theorem give_norm {lo n : Int} {l : List Span} {s : Span} (h : Norm lo n l) (hs : 1 ≤ s.pages) (hl : lo ≤ s.start) (hn : s.start + s.pages ≤ n) (hm : ∀ r ∈ l, meets s r = false) : Norm lo n (giveL l s) ∧ ∀ j, inL (giveL l s) j ↔ inL l j ∨ (s.start ≤ j ∧ j < s.start + s.pages) := by
  have q := joins (acc := []) (lo := lo) (m := lo) trivial (Int.le_refl _) (by omega) (ins_rise s hs hn h.rise hl hm)
  exact ⟨q.1, fun j => by show inL (List.foldl joinR [] _) j ↔ _; rw [q.2, ins_in]; simp [inL]⟩
theorem join_len (acc : List Span) (r : Span) : (joinR acc r).length ≤ acc.length + 1 := by
  unfold joinR
  split
  · split
    · simp; try omega
    · simp
  · simp
end Go.Proofs.Ytglpckdmiohciaa
