/- law06.ExtentDoes: the program's set and the reference's, side by side. -/
import Derived.Test.YtglpckdmiohciaaExtW
import Derived.Test.YtglpckdmiohciaaExtD
namespace Go.Proofs.Ytglpckdmiohciaa
open Go.RowKit
set_option linter.unusedVariables false
set_option linter.unusedSimpArgs false

/-- The same pages. -/
structure Same (D : Fr) (X : Rf) : Prop where
  lo : X.lo = D.lo
  len : (X.L.length : Int) = max D.n 0
  mem : ∀ j : Nat, X.L[j]? = some true ↔ inL D.l (j : Int)
section
variable {D : Fr} {X : Rf} {s : Span}
theorem same_new (f n : Int) (hf : -9223372036854775808 ≤ f ∧ f ≤ 9223372036854775807) : Same (Fr.new f n) (Rf.new f n) := by
  refine ⟨rfl, by simp [Fr.new, Rf.new], fun j => ?_⟩
  simp only [Fr.new, Rf.new, List.getElem?_map]
  rcases Nat.lt_or_ge j (min n 16384).toNat with h | h
  · rw [List.getElem?_range h]
    simp only [Option.map_some, Option.some.injEq, decide_eq_true_eq]
    split
    · simp only [inL, or_false]; omega
    · simp only [inL, iff_false]; omega
  · rw [List.getElem?_eq_none (by simpa using h)]
    simp only [Option.map_none, reduceCtorEq, false_iff]
    split
    · simp only [inL, or_false]; omega
    · simp [inL]
theorem Same.fit (h : Same D X) (hk : D.Ok) : X.Fit s ↔ D.there s = true := by
  have := h.lo
  have := h.len
  have := hk.lo0
  simp only [Rf.Fit, Fr.there, decide_eq_true_eq]
  omega
theorem Same.all_true (h : Same D X) (hk : D.Ok) : X.All s true ↔ D.has s = true := by
  rw [Fr.has_iff hk]
  unfold Rf.All
  rw [h.fit hk]
  refine and_congr_right fun ht => ?_
  have := there_pos hk ht
  constructor
  · intro ha j j1 j2
    have := ha (j - s.start).toNat (by omega)
    rw [h.mem] at this
    rwa [show ((s.start.toNat + (j - s.start).toNat : Nat) : Int) = j from by omega] at this
  · intro ha j hj
    rw [h.mem]
    exact ha _ (by omega) (by omega)
where
  there_pos {D : Fr} {s : Span} (hk : D.Ok) (h : D.there s = true) : 0 ≤ s.start ∧ 1 ≤ s.pages := by
    simp only [Fr.there, decide_eq_true_eq] at h
    have := hk.lo0
    omega
theorem Same.all_false (h : Same D X) (hk : D.Ok) : X.All s false ↔ D.free s = true := by
  rw [Fr.free_iff hk]
  unfold Rf.All
  rw [h.fit hk]
  refine and_congr_right fun ht => ?_
  have hp := Same.all_true.there_pos hk ht
  have hf := (h.fit (s := s) hk).2 ht
  constructor
  · intro ha j j1 j2 hi
    have h1 := ha (j - s.start).toNat (by omega)
    have h2 := (h.mem (s.start.toNat + (j - s.start).toNat)).2 (by rw [show ((s.start.toNat + (j - s.start).toNat : Nat) : Int) = j from by omega]; exact hi)
    rw [h1] at h2
    cases h2
  · intro ha j hj
    have hlt : s.start.toNat + j < X.L.length := by have := hf.2.2.1; have := hf.2.2.2; omega
    rw [List.getElem?_eq_getElem hlt]
    rcases hv : X.L[s.start.toNat + j] with _ | _
    · rfl
    · exact absurd ((h.mem _).1 (by rw [List.getElem?_eq_getElem hlt, hv])) (ha _ (by omega) (by omega))
theorem Same.has (h : Same D X) (hk : D.Ok) : X.all s true = D.has s := by
  rw [Bool.eq_iff_iff, Rf.all_iff, h.all_true hk]
theorem Same.free (h : Same D X) (hk : D.Ok) : X.all s false = D.free s := by
  rw [Bool.eq_iff_iff, Rf.all_iff, h.all_false hk]
theorem Same.set (h : Same D X) (hk : D.Ok) {D' : Fr} {v : Bool} (ht : D.there s = true) (h1 : D'.lo = D.lo) (h2 : D'.n = D.n) (hm : ∀ j, inL D'.l j ↔ if s.start ≤ j ∧ j < s.start + s.pages then v = true else inL D.l j) : Same D' (X.set s v) := by
  have hp := Same.all_true.there_pos hk ht
  have hf := (h.fit (s := s) hk).2 ht
  refine ⟨by rw [h1]; exact h.lo, by rw [h2]; show ((setN X.L _ _ v).length : Int) = _; rw [setN_len]; exact h.len, fun j => ?_⟩
  show (setN X.L s.start.toNat s.pages.toNat v)[j]? = some true ↔ _
  rw [setN_get, hm]
  by_cases hj : s.start.toNat ≤ j ∧ j < s.start.toNat + s.pages.toNat
  · rw [if_pos hj, if_pos ⟨by omega, by omega⟩]
    have hlt : j < X.L.length := by have := hf.2.2.1; have := hf.2.2.2; omega
    rw [List.getElem?_eq_getElem hlt]
    simp
  · rw [if_neg hj, if_neg (by omega)]
    exact h.mem j
theorem Same.claim (h : Same D X) (hk : D.Ok) : (X.claim s).1 = (D.claim s).1 ∧ Same (D.claim s).2 (X.claim s).2 := by
  by_cases hh : D.has s = true
  · obtain ⟨c1, c2, c3, c4⟩ := Fr.claim_yes hk hh
    have e : X.claim s = (true, X.set s false) := by unfold Rf.claim; rw [h.has hk, if_pos hh]
    rw [e, c1]
    exact ⟨rfl, h.set hk ((Fr.has_iff hk).1 hh).1 c2 c3 (fun j => by rw [c4]; split <;> simp_all)⟩
  · have e : X.claim s = (false, X) := by unfold Rf.claim; rw [h.has hk, if_neg hh]
    rw [e, Fr.claim_no hh]
    exact ⟨rfl, h⟩
theorem Same.give (h : Same D X) (hk : D.Ok) : (X.give s).1 = (D.give s).1 ∧ Same (D.give s).2 (X.give s).2 := by
  by_cases hh : D.free s = true
  · obtain ⟨c1, c2, c3, c4⟩ := Fr.give_yes hk hh
    have e : X.give s = (true, X.set s true) := by unfold Rf.give; rw [h.free hk, if_pos hh]
    rw [e, c1]
    exact ⟨rfl, h.set hk ((Fr.free_iff hk).1 hh).1 c2 c3 (fun j => by
      rw [c4]
      split
      · rename_i q; exact ⟨fun _ => rfl, fun _ => .inr q⟩
      · rename_i q; exact ⟨fun z => z.resolve_right q, .inl⟩)⟩
  · have e : X.give s = (false, X) := by unfold Rf.give; rw [h.free hk, if_neg hh]
    rw [e, Fr.give_no hh]
    exact ⟨rfl, h⟩
theorem Same.take (h : Same D X) (hk : D.Ok) {n : Int} {r : (Int × Bool) × Rf} (hr : X.TakeR n r) : r.1 = (D.take n).1 ∧ Same (D.take n).2 r.2 := by
  by_cases hy : (D.take n).1.2 = true
  · obtain ⟨t1, t2, t3, t4, t5, t6, t7⟩ := Fr.take_yes hk hy
    have hall : X.All ⟨(D.take n).1.1, n⟩ true := (h.all_true hk).2 ((Fr.has_iff hk).2 ⟨t2, t3⟩)
    have hp := Same.all_true.there_pos hk t2
    dsimp only at hp
    rcases hr with ⟨i, ha, hb, rfl⟩ | ⟨hno, rfl⟩
    · have hi : (i : Int) = (D.take n).1.1 := by
        have h1 : ¬ (i : Int) < (D.take n).1.1 := fun q => t7 i q (((Fr.has_iff hk).1 ((h.all_true hk).1 ha)).2)
        have h2 : ¬ (D.take n).1.1 < (i : Int) := fun q => hb (D.take n).1.1.toNat (by omega) (by rw [show (((D.take n).1.1.toNat : Nat) : Int) = (D.take n).1.1 from by omega]; exact hall)
        omega
      refine ⟨?_, ?_⟩
      · have : (D.take n).1 = ((D.take n).1.1, (D.take n).1.2) := rfl
        rw [this, hy, hi]
      · dsimp only
        rw [hi]
        exact h.set hk t2 t4 t5 (fun j => by rw [t6]; split <;> simp_all)
    · exact absurd (by rw [show (((D.take n).1.1.toNat : Nat) : Int) = (D.take n).1.1 from by omega]; exact hall) (hno (D.take n).1.1.toNat)
  · obtain ⟨e, hno⟩ := Fr.take_no hk hy
    rcases hr with ⟨i, ha, hb, rfl⟩ | ⟨_, rfl⟩
    · have hh := (h.all_true hk).1 ha
      have hin := (Fr.has_iff hk).1 hh
      have ht := hin.1
      simp only [Fr.there, decide_eq_true_eq] at ht
      rcases hno with q | q
      · omega
      · obtain ⟨x, hx, hxw⟩ := (within_iff ⟨(i : Int), n⟩ (by show 1 ≤ n; omega) hk.norm).2 hin.2
        have := q x hx
        simp only [within, decide_eq_true_eq] at hxw
        omega
    · rw [e]
      exact ⟨rfl, h⟩
theorem Same.spans (h : Same D X) (hk : D.Ok) {xs : List Span} (hs : SpR X.L X.L.length xs) : xs = D.l := norm_eq hs.1 hk.norm (fun j => by
  rw [hs.2]
  constructor
  · rintro ⟨a, b, c⟩
    rw [h.mem] at c
    rwa [show ((j.toNat : Nat) : Int) = j from by omega] at c
  · intro hi
    have hb := hk.norm.inn hi
    have := hk.lo0
    have := h.len
    refine ⟨by omega, by omega, ?_⟩
    rw [h.mem, show ((j.toNat : Nat) : Int) = j from by omega]
    exact hi)
end
/-- Both sets, and a block beside them that stays. -/
def DoY (w wr : World) (g : Nat) (D : Fr) (g2 : Nat) (X : Rf) (bx : Nat) (o : Obj) : Prop :=
  ∃ F G, FrAt wr g F D ∧ RfAt wr g2 G X ∧ (∀ i, F i → w.heap.size ≤ i) ∧ (∀ i, G i → w.heap.size ≤ i) ∧ (∀ i, F i → ¬ G i) ∧ Below w.heap.size w wr ∧ wr.heap[bx]? = some o ∧ ¬ F bx ∧ ¬ G bx
section
variable {w wr w3 : World} {g g2 bx : Nat} {D D' : Fr} {X X' : Rf} {o : Obj} {R : Ending → Prop} {f : FuncId} {args : Array Value}
theorem DoY.bl (h : DoY w wr g D g2 X bx o) : Below w.heap.size w wr := by obtain ⟨F, G, a, b, c, d, e, f, _⟩ := h; exact f
theorem DoY.okD (h : DoY w wr g D g2 X bx o) : D.Ok := by obtain ⟨F, G, a, _⟩ := h; exact a.okD
theorem DoY.blk (h : DoY w wr g D g2 X bx o) : wr.heap[bx]? = some o := by obtain ⟨F, G, a, b, c, d, e, f, q, _⟩ := h; exact q
theorem DoY.frB (h : DoY w wr g D g2 X bx o) : FrB w wr g D := by obtain ⟨F, G, a, b, c, d, e, f, _⟩ := h; exact ⟨F, a, c, f⟩
theorem DoY.callsD (h : DoY w wr g D g2 X bx o) (hc : ∀ F, FrAt wr g F D → Calls Try.prog f args wr fun e w' => R e ∧ FrDid F wr w' g D') : Calls Try.prog f args wr fun e w' => R e ∧ DoY w w' g D' g2 X bx o := by
  obtain ⟨F, G, a, b, c, d, e, f, q, n1, n2⟩ := h
  refine (hc F a).mono fun e' w' hh => ⟨hh.1, ?_⟩
  obtain ⟨F', k1, k2, k3⟩ := hh.2
  refine ⟨F', G, k1, b.chg k2 (fun i hi hf => e i hf hi), fun i hi => (k3 i hi).elim (c i) (fun z => Nat.le_trans f.size z), d, fun i hi hg => ?_, f.trans (k2.below f.size c), by rw [k2.block _ (blk_lt q) n1]; exact q, fun hf => ?_, n2⟩
  · rcases k3 i hi with z | z
    · exact e i z hg
    · have := b.lt i hg; omega
  · rcases k3 _ hf with z | z
    · exact n1 z
    · have := blk_lt q; omega
theorem DoY.callsX {Q : Ending → Rf → Prop} (h : DoY w wr g D g2 X bx o) (hc : ∀ G, RfAt wr g2 G X → Calls Try.prog f args wr fun e w' => ∃ X', Q e X' ∧ RfDid G wr w' g2 X') : Calls Try.prog f args wr fun e w' => ∃ X', Q e X' ∧ DoY w w' g D g2 X' bx o := by
  obtain ⟨F, G, a, b, c, d, e, f, q, n1, n2⟩ := h
  refine (hc G b).mono fun e' w' hh => ?_
  obtain ⟨X', hq, G', k1, k2, k3⟩ := hh
  refine ⟨X', hq, F, G', a.chg k2 (fun i hi hg => e i hi hg), k1, c, fun i hi => (k3 i hi).elim (d i) (fun z => Nat.le_trans f.size z), fun i hi hg => ?_, f.trans (k2.below f.size d), by rw [k2.block _ (blk_lt q) n2]; exact q, n1, fun hf => ?_⟩
  · rcases k3 i hg with z | z
    · exact e i hi z
    · have := a.lt i hi; omega
  · rcases k3 _ hf with z | z
    · exact n2 z
    · have := blk_lt q; omega
theorem DoY.below (h : DoY w wr g D g2 X bx o) (hb : Below wr.heap.size wr w3) : DoY w w3 g D g2 X bx o := by
  obtain ⟨F, G, a, b, c, d, e, f, q, n1, n2⟩ := h
  exact ⟨F, G, a.below hb, b.below hb, c, d, e, bl_then f f.size hb, blk_below hb q (blk_lt q), n1, n2⟩
/-- Both sets alone. -/
def DoB (w wr : World) (g : Nat) (D : Fr) (g2 : Nat) (X : Rf) : Prop := ∃ F G, FrAt wr g F D ∧ RfAt wr g2 G X ∧ (∀ i, F i → w.heap.size ≤ i) ∧ (∀ i, G i → w.heap.size ≤ i) ∧ (∀ i, F i → ¬ G i) ∧ Below w.heap.size w wr
theorem DoY.two (h : DoY w wr g D g2 X bx o) : DoB w wr g D g2 X := by
  obtain ⟨F, G, a, b, c, d, e, f, q, n1, n2⟩ := h
  exact ⟨F, G, a, b, c, d, e, f⟩
theorem DoB.bl (h : DoB w wr g D g2 X) : Below w.heap.size w wr := by obtain ⟨F, G, a, b, c, d, e, f⟩ := h; exact f
theorem DoB.okD (h : DoB w wr g D g2 X) : D.Ok := by obtain ⟨F, G, a, _⟩ := h; exact a.okD
theorem DoB.frB (h : DoB w wr g D g2 X) : FrB w wr g D := by obtain ⟨F, G, a, b, c, d, e, f⟩ := h; exact ⟨F, a, c, f⟩
theorem DoB.below (h : DoB w wr g D g2 X) (hb : Below wr.heap.size wr w3) : DoB w w3 g D g2 X := by
  obtain ⟨F, G, a, b, c, d, e, f⟩ := h
  exact ⟨F, G, a.below hb, b.below hb, c, d, e, bl_then f f.size hb⟩
theorem b_rspans (h : DoB w wr g D g2 X) : Calls Try.prog 67 #[.pointer (some ⟨g2, 0, none⟩)] wr fun e w' => RSpansR wr w' X.L e := by
  obtain ⟨F, G, a, b, _⟩ := h
  exact rspans_calls b
/-- A block that the round makes beside them. -/
theorem DoB.box (h : DoB w wr g D g2 X) (o' : Obj) : DoY w (wr.alloc o') g D g2 X wr.heap.size o' := by
  obtain ⟨F, G, a, b, c, d, e, f⟩ := h
  exact ⟨F, G, a.alloc o', b.alloc o', c, d, e, f.alloc f.size o', blk_new wr o', fun hf => Nat.lt_irrefl _ (a.lt _ hf), fun hf => Nat.lt_irrefl _ (b.lt _ hf)⟩
theorem DoY.freshD (h : DoY w wr g D g2 X bx o) {e : Ending} (hf : FreshR wr w3 D' e) : ∃ g', e = .returned (.pointer (some ⟨g', 0, none⟩)) ∧ DoY w w3 g' D' g2 X bx o := by
  obtain ⟨F, G, a, b, c, d, e', f, q, n1, n2⟩ := h
  obtain ⟨g', F', he, k1, k2, k3⟩ := hf
  exact ⟨g', he, F', G, k1, b.below k3, fun i hi => Nat.le_trans f.size (k2 i hi), d, fun i hi hg => by have := k2 i hi; have := b.lt i hg; omega, bl_then f f.size k3, blk_below k3 q (blk_lt q), fun hz => by have := k2 _ hz; have := blk_lt q; omega, n2⟩
theorem DoY.freshX (h : DoY w wr g D g2 X bx o) {e : Ending} (hf : RFreshR wr w3 X' e) : ∃ g', e = .returned (.pointer (some ⟨g', 0, none⟩)) ∧ DoY w w3 g D g' X' bx o := by
  obtain ⟨F, G, a, b, c, d, e', f, q, n1, n2⟩ := h
  obtain ⟨g', G', he, k1, k2, k3⟩ := hf
  exact ⟨g', he, F, G', a.below k3, k1, c, fun i hi => Nat.le_trans f.size (k2 i hi), fun i hi hg => by have := k2 i hg; have := a.lt i hi; omega, bl_then f f.size k3, blk_below k3 q (blk_lt q), n1, fun hz => by have := k2 _ hz; have := blk_lt q; omega⟩
theorem y_take (h : DoY w wr g D g2 X bx o) (n : Int) : Calls Try.prog 54 #[.pointer (some ⟨g, 0, none⟩), .int .i64 n] wr fun e w' => e = .returned (.tuple #[.int .i64 (D.take n).1.1, .bool (D.take n).1.2]) ∧ DoY w w' g (D.take n).2 g2 X bx o :=
  h.callsD (R := fun e => e = .returned (.tuple #[.int .i64 (D.take n).1.1, .bool (D.take n).1.2])) fun F a => take_calls a n
theorem y_claim (h : DoY w wr g D g2 X bx o) (s : Span) : Calls Try.prog 61 #[.pointer (some ⟨g, 0, none⟩), .agg #[.int .i64 s.start, .int .i64 s.pages]] wr fun e w' => e = .returned (.bool (D.claim s).1) ∧ DoY w w' g (D.claim s).2 g2 X bx o :=
  h.callsD (R := fun e => e = .returned (.bool (D.claim s).1)) fun F a => claim_calls a s
theorem y_give (h : DoY w wr g D g2 X bx o) (s : Span) : Calls Try.prog 57 #[.pointer (some ⟨g, 0, none⟩), .agg #[.int .i64 s.start, .int .i64 s.pages]] wr fun e w' => e = .returned (.bool (D.give s).1) ∧ DoY w w' g (D.give s).2 g2 X bx o :=
  h.callsD (R := fun e => e = .returned (.bool (D.give s).1)) fun F a => give_calls a s
theorem y_has (h : DoY w wr g D g2 X bx o) (s : Span) : Calls Try.prog 56 #[.pointer (some ⟨g, 0, none⟩), .agg #[.int .i64 s.start, .int .i64 s.pages]] wr fun e w' => e = .returned (.bool (D.has s)) ∧ DoY w w' g D g2 X bx o :=
  h.callsD (R := fun e => e = .returned (.bool (D.has s))) fun F a => (fhas_calls a s).mono fun e w' hh => ⟨hh.1, FrDid.of_below a hh.2⟩
theorem y_copy (h : DoY w wr g D g2 X bx o) : Calls Try.prog 65 #[.pointer (some ⟨g, 0, none⟩)] wr fun e w' => ∃ g', e = .returned (.pointer (some ⟨g', 0, none⟩)) ∧ DoY w w' g' D g2 X bx o := by
  have h0 := h
  obtain ⟨F, G, a, _⟩ := h
  exact (copyFr_calls a).mono fun e w' hh => h0.freshD hh
theorem y_rtake (h : DoY w wr g D g2 X bx o) (n : Int) : Calls Try.prog 60 #[.pointer (some ⟨g2, 0, none⟩), .int .i64 n] wr fun e w' => ∃ X', (∃ r, X.TakeR n r ∧ e = .returned (.tuple #[.int .i64 r.1.1, .bool r.1.2]) ∧ X' = r.2) ∧ DoY w w' g D g2 X' bx o :=
  h.callsX (Q := fun e X' => ∃ r, X.TakeR n r ∧ e = .returned (.tuple #[.int .i64 r.1.1, .bool r.1.2]) ∧ X' = r.2) fun G b => (rtake_calls b n).mono fun e w' hh => by
    obtain ⟨r, h1, h2, h3⟩ := hh
    exact ⟨r.2, ⟨r, h1, h2, rfl⟩, h3⟩
theorem y_rclaim (h : DoY w wr g D g2 X bx o) (s : Span) : Calls Try.prog 62 #[.pointer (some ⟨g2, 0, none⟩), .agg #[.int .i64 s.start, .int .i64 s.pages]] wr fun e w' => ∃ X', (e = .returned (.bool (X.claim s).1) ∧ X' = (X.claim s).2) ∧ DoY w w' g D g2 X' bx o :=
  h.callsX (Q := fun e X' => e = .returned (.bool (X.claim s).1) ∧ X' = (X.claim s).2) fun G b => (rclaim_calls b s).mono fun e w' hh => ⟨_, ⟨hh.1, rfl⟩, hh.2⟩
theorem y_rgive (h : DoY w wr g D g2 X bx o) (s : Span) : Calls Try.prog 63 #[.pointer (some ⟨g2, 0, none⟩), .agg #[.int .i64 s.start, .int .i64 s.pages]] wr fun e w' => ∃ X', (e = .returned (.bool (X.give s).1) ∧ X' = (X.give s).2) ∧ DoY w w' g D g2 X' bx o :=
  h.callsX (Q := fun e X' => e = .returned (.bool (X.give s).1) ∧ X' = (X.give s).2) fun G b => (rgive_calls b s).mono fun e w' hh => ⟨_, ⟨hh.1, rfl⟩, hh.2⟩
theorem y_rhas (h : DoY w wr g D g2 X bx o) (s : Span) : Calls Try.prog 64 #[.pointer (some ⟨g2, 0, none⟩), .agg #[.int .i64 s.start, .int .i64 s.pages]] wr fun e w' => e = .returned (.bool (X.all s true)) ∧ DoY w w' g D g2 X bx o := by
  have h0 := h
  obtain ⟨F, G, a, b, _⟩ := h
  exact (rhas_calls b s).mono fun e w' hh => ⟨hh.1, h0.below hh.2⟩
theorem y_rcopy (h : DoY w wr g D g2 X bx o) : Calls Try.prog 66 #[.pointer (some ⟨g2, 0, none⟩)] wr fun e w' => ∃ g', e = .returned (.pointer (some ⟨g', 0, none⟩)) ∧ DoY w w' g D g' X bx o := by
  have h0 := h
  obtain ⟨F, G, a, b, _⟩ := h
  exact (copyRf_calls b).mono fun e w' hh => h0.freshX hh
theorem y_rspans (h : DoY w wr g D g2 X bx o) : Calls Try.prog 67 #[.pointer (some ⟨g2, 0, none⟩)] wr fun e w' => RSpansR wr w' X.L e := by
  obtain ⟨F, G, a, b, _⟩ := h
  exact rspans_calls b
end
end Go.Proofs.Ytglpckdmiohciaa
