/- What extent.Free's functions mean for the pages; the set as a law holds it; law06.awake, ref04.SameSpans. -/
import Derived.Test.YtglpckdmiohciaaExtC
namespace Go.Proofs.Ytglpckdmiohciaa
open Go.RowKit
set_option linter.unusedVariables false
set_option linter.unusedSimpArgs false

section
variable {D : Fr} {s : Span}
theorem Fr.has_iff (h : D.Ok) : D.has s = true ↔ D.there s = true ∧ ∀ j, s.start ≤ j → j < s.start + s.pages → inL D.l j := by
  unfold Fr.has
  rw [Bool.and_eq_true]
  refine and_congr_right fun ht => ?_
  simp only [Fr.there, decide_eq_true_eq] at ht
  rw [decide_eq_true_eq, ← within_iff s ht.1 h.norm]
  constructor
  · intro hp
    obtain ⟨i, r, e, hr, hw, _⟩ := place_some (p := within s) (l := D.l) (by omega)
    exact ⟨r, List.mem_of_getElem? hr, hw⟩
  · rintro ⟨r, hr, hw⟩
    rcases Int.lt_or_le (place (within s) D.l) 0 with q | q
    · rw [place_neg.1 q r hr] at hw; cases hw
    · exact q
theorem Fr.free_iff (h : D.Ok) : D.free s = true ↔ D.there s = true ∧ ∀ j, s.start ≤ j → j < s.start + s.pages → ¬ inL D.l j := by
  unfold Fr.free
  rw [Bool.and_eq_true]
  refine and_congr_right fun ht => ?_
  simp only [Fr.there, decide_eq_true_eq] at ht
  rw [decide_eq_true_eq, place_neg, meets_iff s ht.1 h.norm]
theorem Fr.give_yes (h : D.Ok) (hf : D.free s = true) : (D.give s).1 = true ∧ (D.give s).2.lo = D.lo ∧ (D.give s).2.n = D.n ∧ ∀ j, inL (D.give s).2.l j ↔ inL D.l j ∨ (s.start ≤ j ∧ j < s.start + s.pages) := by
  have e : D.give s = (true, { D with l := giveL D.l s }) := by unfold Fr.give; rw [if_pos hf]
  have hf2 := hf
  simp only [Fr.free, Bool.and_eq_true, decide_eq_true_eq, Fr.there] at hf2
  rw [e]
  exact ⟨rfl, rfl, rfl, (give_norm h.norm hf2.1.1 hf2.1.2.1 (by omega) (place_neg.1 hf2.2)).2⟩
theorem Fr.give_no (hf : ¬ D.free s = true) : D.give s = (false, D) := by unfold Fr.give; rw [if_neg hf]
theorem Fr.claim_yes (h : D.Ok) (hf : D.has s = true) : (D.claim s).1 = true ∧ (D.claim s).2.lo = D.lo ∧ (D.claim s).2.n = D.n ∧ ∀ j, inL (D.claim s).2.l j ↔ inL D.l j ∧ ¬ (s.start ≤ j ∧ j < s.start + s.pages) := by
  have hf2 := hf
  simp only [Fr.has, Bool.and_eq_true, decide_eq_true_eq, Fr.there] at hf2
  obtain ⟨i, r, e, hr, hw, _⟩ := place_some (p := within s) (l := D.l) (by omega)
  have e2 : D.claim s = (true, { D with l := cutL D.l i s }) := by unfold Fr.claim; rw [if_pos hf, e]; rfl
  rw [e2]
  exact ⟨rfl, rfl, rfl, fun j => cut_in hf2.1.1 hw j i h.norm hr⟩
theorem Fr.claim_no (hf : ¬ D.has s = true) : D.claim s = (false, D) := by unfold Fr.claim; rw [if_neg hf]
/-- What was taken: free before, not behind; the first that there is. -/
theorem Fr.take_yes (h : D.Ok) {n : Int} (hy : (D.take n).1.2 = true) : 1 ≤ n ∧ D.there ⟨(D.take n).1.1, n⟩ = true ∧ (∀ j, (D.take n).1.1 ≤ j → j < (D.take n).1.1 + n → inL D.l j) ∧ (D.take n).2.lo = D.lo ∧ (D.take n).2.n = D.n ∧
    (∀ j, inL (D.take n).2.l j ↔ inL D.l j ∧ ¬ ((D.take n).1.1 ≤ j ∧ j < (D.take n).1.1 + n)) ∧ ∀ a, a < (D.take n).1.1 → ¬ ∀ j, a ≤ j → j < a + n → inL D.l j := by
  have hn : ¬ n < 1 := fun e => by unfold Fr.take at hy; rw [if_pos e] at hy; cases hy
  have hp : ¬ place (room ⟨0, n⟩) D.l < 0 := fun e => by unfold Fr.take at hy; rw [if_neg hn, if_pos e] at hy; cases hy
  obtain ⟨i, r, e, hr, hw, hbefore⟩ := place_some hp
  have hg : D.l.getD i default = r := by rw [List.getD_eq_getElem?_getD, hr]; rfl
  have et : D.take n = ((r.start, true), { D with l := cutL D.l i ⟨r.start, n⟩ }) := by
    unfold Fr.take
    rw [if_neg hn, if_neg hp, e]
    simp only [Int.toNat_natCast, hg]
  have hrm := h.norm.mem r (List.mem_of_getElem? hr)
  simp only [room, decide_eq_true_eq] at hw
  have hwr : within ⟨r.start, n⟩ r = true := by simp only [within, decide_eq_true_eq]; omega
  rw [et]
  refine ⟨by omega, ?_, fun j j1 j2 => inL_mem.2 ⟨r, List.mem_of_getElem? hr, j1, by dsimp only at j2; omega⟩, rfl, rfl, fun j => cut_in (s := ⟨r.start, n⟩) (by show 1 ≤ n; omega) hwr j i h.norm hr, fun a ha hall => ?_⟩
  · simp only [Fr.there, decide_eq_true_eq]; omega
  · obtain ⟨x, hx, hxw⟩ := (within_iff ⟨a, n⟩ (by show 1 ≤ n; omega) h.norm).2 hall
    obtain ⟨k, hk⟩ := List.mem_iff_getElem?.1 hx
    simp only [within, decide_eq_true_eq] at hxw
    dsimp only at ha
    have hki : ¬ k < i := fun q => by
      have := hbefore k x q hk
      simp only [room, decide_eq_false_iff_not] at this
      omega
    have hle := norm_le h.norm hr hk (by omega)
    omega
where
  norm_le {n : Int} : ∀ {l : List Span} {lo : Int} {i k : Nat} {r x : Span}, Norm lo n l → l[i]? = some r → l[k]? = some x → i ≤ k → r.start ≤ x.start
    | [], _, i, k, r, x, _, hr, _, _ => by simp at hr
    | y :: l, lo, 0, 0, r, x, _, hr, hx, _ => by simp at hr hx; subst hr; subst hx; exact Int.le_refl _
    | y :: l, lo, 0, k + 1, r, x, ⟨h1, h2, h3, h4⟩, hr, hx, _ => by
      simp at hr hx
      subst hr
      have := h4.mem x (List.mem_of_getElem? hx)
      omega
    | y :: l, lo, i + 1, 0, r, x, _, _, _, hik => by omega
    | y :: l, lo, i + 1, k + 1, r, x, ⟨h1, h2, h3, h4⟩, hr, hx, hik => norm_le h4 (by simpa using hr) (by simpa using hx) (by omega)
theorem Fr.take_no (h : D.Ok) {n : Int} (hy : ¬ (D.take n).1.2 = true) : D.take n = ((0, false), D) ∧ (n < 1 ∨ ∀ r ∈ D.l, r.pages < n) := by
  by_cases hn : n < 1
  · exact ⟨by unfold Fr.take; rw [if_pos hn], .inl hn⟩
  · by_cases hp : place (room ⟨0, n⟩) D.l < 0
    · refine ⟨by unfold Fr.take; rw [if_neg hn, if_pos hp], .inr fun r hr => ?_⟩
      have := place_neg.1 hp r hr
      simp only [room, decide_eq_false_iff_not] at this
      omega
    · exact absurd (by unfold Fr.take; rw [if_neg hn, if_neg hp]) hy
end
theorem maxL_le (l : List Span) : ∀ (a : Int), a ≤ l.foldl (fun a x => max a x.pages) a ∧ ∀ r ∈ l, r.pages ≤ l.foldl (fun a x => max a x.pages) a := by
  induction l with
  | nil => exact fun a => ⟨Int.le_refl _, fun r hr => by cases hr⟩
  | cons x l ih =>
    intro a
    have := ih (max a x.pages)
    refine ⟨by have := this.1; simp only [List.foldl_cons]; omega, fun r hr => ?_⟩
    rcases List.mem_cons.1 hr with rfl | hr
    · have := this.1; simp only [List.foldl_cons]; omega
    · exact this.2 r hr
theorem maxL_lt {n : Int} : ∀ (l : List Span) (a : Int), a < n → (∀ r ∈ l, r.pages < n) → l.foldl (fun a x => max a x.pages) a < n
  | [], a, ha, _ => ha
  | x :: l, a, ha, h => maxL_lt l (max a x.pages) (by have := h x List.mem_cons_self; omega) (fun r hr => h r (List.mem_cons_of_mem _ hr))

/-! ### The set as a law holds it -/
/-- The set at g, in blocks from W1 on. -/
def FrB (W1 wr : World) (g : Nat) (D : Fr) : Prop := ∃ F, FrAt wr g F D ∧ (∀ i, F i → W1.heap.size ≤ i) ∧ Below W1.heap.size W1 wr
section
variable {W1 wr w3 : World} {g : Nat} {D D' : Fr} {F : Nat → Prop}
theorem FrB.of_did (h2 : ∀ i, F i → W1.heap.size ≤ i) (h3 : Below W1.heap.size W1 wr) (k : FrDid F wr w3 g D') : FrB W1 w3 g D' := by
  obtain ⟨F', k1, k2, k3⟩ := k
  exact ⟨F', k1, fun i hi => (k3 i hi).elim (h2 i) (fun a => Nat.le_trans h3.size a), h3.trans (k2.below h3.size h2)⟩
theorem FrB.below (h : FrB W1 wr g D) (hb : Below wr.heap.size wr w3) : FrB W1 w3 g D := by
  obtain ⟨F, h1, h2, h3⟩ := h
  exact ⟨F, h1.below hb, h2, bl_then h3 h3.size hb⟩
theorem FrB.bl (h : FrB W1 wr g D) : Below W1.heap.size W1 wr := by obtain ⟨F, h1, h2, h3⟩ := h; exact h3
theorem FrB.okD (h : FrB W1 wr g D) : D.Ok := by obtain ⟨F, h1, h2, h3⟩ := h; exact h1.okD
theorem frB_new (h : Below W1.heap.size W1 wr) (f n : Int) (hf : -9223372036854775808 ≤ f ∧ f ≤ 9223372036854775807) (hn : -9223372036854775808 ≤ n ∧ n ≤ 9223372036854775807) :
    Calls Try.prog 52 #[.int .i64 f, .int .i64 n] wr fun e w' => ∃ g, e = .returned (.pointer (some ⟨g, 0, none⟩)) ∧ FrB W1 w' g (Fr.new f n) :=
  (newFr_calls wr f n hf hn).mono fun e w' hh => by
    obtain ⟨g, F, e1, h1, h2, h3⟩ := hh
    exact ⟨g, e1, F, h1, fun i hi => Nat.le_trans h.size (h2 i hi), bl_then h h.size h3⟩
theorem frB_take (h : FrB W1 wr g D) (n : Int) : Calls Try.prog 54 #[.pointer (some ⟨g, 0, none⟩), .int .i64 n] wr fun e w' => e = .returned (.tuple #[.int .i64 (D.take n).1.1, .bool (D.take n).1.2]) ∧ FrB W1 w' g (D.take n).2 := by
  obtain ⟨F, h1, h2, h3⟩ := h
  exact (take_calls h1 n).mono fun e w' hh => ⟨hh.1, FrB.of_did h2 h3 hh.2⟩
theorem frB_claim (h : FrB W1 wr g D) (s : Span) : Calls Try.prog 61 #[.pointer (some ⟨g, 0, none⟩), .agg #[.int .i64 s.start, .int .i64 s.pages]] wr fun e w' => e = .returned (.bool (D.claim s).1) ∧ FrB W1 w' g (D.claim s).2 := by
  obtain ⟨F, h1, h2, h3⟩ := h
  exact (claim_calls h1 s).mono fun e w' hh => ⟨hh.1, FrB.of_did h2 h3 hh.2⟩
theorem frB_give (h : FrB W1 wr g D) (s : Span) : Calls Try.prog 57 #[.pointer (some ⟨g, 0, none⟩), .agg #[.int .i64 s.start, .int .i64 s.pages]] wr fun e w' => e = .returned (.bool (D.give s).1) ∧ FrB W1 w' g (D.give s).2 := by
  obtain ⟨F, h1, h2, h3⟩ := h
  exact (give_calls h1 s).mono fun e w' hh => ⟨hh.1, FrB.of_did h2 h3 hh.2⟩
theorem frB_has (h : FrB W1 wr g D) (s : Span) : Calls Try.prog 56 #[.pointer (some ⟨g, 0, none⟩), .agg #[.int .i64 s.start, .int .i64 s.pages]] wr fun e w' => e = .returned (.bool (D.has s)) ∧ Below wr.heap.size wr w' := by obtain ⟨F, h1, h2, h3⟩ := h; exact fhas_calls h1 s
theorem frB_count (h : FrB W1 wr g D) : Calls Try.prog 68 #[.pointer (some ⟨g, 0, none⟩)] wr fun e w' => e = .returned (.int .i64 (cntW D.l)) ∧ Below wr.heap.size wr w' := by obtain ⟨F, h1, h2, h3⟩ := h; exact count_of _ _ (tells_set h1)
theorem frB_largest (h : FrB W1 wr g D) : Calls Try.prog 55 #[.pointer (some ⟨g, 0, none⟩)] wr fun e w' => e = .returned (.int .i64 (maxL D.l)) ∧ Below wr.heap.size wr w' := by obtain ⟨F, h1, h2, h3⟩ := h; exact largest_of _ _ (tells_set h1)
theorem frB_rows (h : FrB W1 wr g D) : Calls Try.prog 53 #[.pointer (some ⟨g, 0, none⟩)] wr fun e w' => RowsR wr w' D.l e := by obtain ⟨F, h1, h2, h3⟩ := h; exact rows_of _ _ (tells_set h1) (by have := h1.okD.len; omega)
end
set_option maxRecDepth 100000 in
set_option maxHeartbeats 4000000 in
theorem awake06_calls (w : World) : Calls Try.prog 51 #[] w fun e w' => e = .returned (.bool true) ∧ Below w.heap.size w w' := by
  go_enter Try.func51, Try.ntmps51
  go_wp2_with fail
  refine (frB_new (Below.refl w.heap.size w) 1 9 (by decide) (by decide)).mono ?_
  rintro e w1 ⟨g, rfl, h1⟩
  have H1 := Lib.hid h1
  clear h1
  go_wp2_with fail
  refine (frB_take H1.out 3).mono ?_
  rintro e w2 ⟨rfl, h2⟩
  have e2 : (Fr.new 1 9).take 3 = ((1, true), ⟨1, 9, [⟨4, 5⟩]⟩) := by kernel_rfl
  rw [e2] at h2 ⊢
  have H2 := Lib.hid h2
  clear h2 H1 e2
  go_wp2_with fail
  refine (frB_take H2.out 2).mono ?_
  rintro e w3 ⟨rfl, h3⟩
  have e3 : (⟨1, 9, [⟨4, 5⟩]⟩ : Fr).take 2 = ((4, true), ⟨1, 9, [⟨6, 3⟩]⟩) := by kernel_rfl
  rw [e3] at h3 ⊢
  have H3 := Lib.hid h3
  clear h3 H2 e3
  go_wp2_with fail
  refine (frB_give H3.out ⟨1, 3⟩).mono ?_
  rintro e w4 ⟨rfl, h4⟩
  have e4 : (⟨1, 9, [⟨6, 3⟩]⟩ : Fr).give ⟨1, 3⟩ = (true, ⟨1, 9, [⟨1, 3⟩, ⟨6, 3⟩]⟩) := by kernel_rfl
  rw [e4] at h4 ⊢
  have H4 := Lib.hid h4
  clear h4 H3 e4
  go_wp2_with fail
  refine (frB_count H4.out).mono ?_
  rintro e w5 ⟨rfl, b5⟩
  have e5 : cntW [⟨1, 3⟩, ⟨6, 3⟩] = 6 := by kernel_rfl
  dsimp only
  rw [e5]
  have H5 := Lib.hid (H4.out.below b5)
  clear b5 H4 e5
  go_wp2_with fail
  refine (frB_largest H5.out).mono ?_
  rintro e w6 ⟨rfl, b6⟩
  have e6 : maxL [⟨1, 3⟩, ⟨6, 3⟩] = 3 := by kernel_rfl
  dsimp only
  rw [e6]
  have H6 := Lib.hid (H5.out.below b6).bl
  clear b6 H5 e6
  go_wp2
  go_ret
  exact ⟨rfl, H6.out⟩
theorem eqSpan (d : Nat) (w : World) (x y : Span) : (Op.equalIn (d + 2) 90 (.agg #[.int .i64 x.start, .int .i64 x.pages]) (.agg #[.int .i64 y.start, .int .i64 y.pages])).run Try.prog w = .ok (decide (x = y)) w := by
  have e : decide (x = y) = (x.start == y.start && (x.pages == y.pages && true)) := by
    cases x; cases y; simp [Bool.beq_eq_decide_eq]
  rw [e]
  refine eq_struct Try.underlying90 (by kernel_rfl) ?_
  refine eqf_more (by decide) (by go_simp; rfl) (by go_simp; rfl) (by go_simp) ?_
  refine eqf_more (by decide) (by go_simp; rfl) (by go_simp; rfl) (by go_simp) ?_
  exact eqf_none
attribute [local go_sem high] eqSpan
set_option maxHeartbeats 4000000 in
theorem sameSpans_calls (w : World) (A B : Option Addr) (c e : Nat) (l m : List Span) (hl : l.length ≤ 9223372036854775807) (hm : m.length ≤ 9223372036854775807) (h : Rd Span.enc 2 w A l) (k : Rd Span.enc 2 w B m) :
    Calls Try.prog 58 #[.slice A l.length c, .slice B m.length e] w fun e w' => e = .returned (.bool (decide (l = m))) ∧ Below w.heap.size w w' := by
  by_cases hlen : l.length = m.length
  · have hq : ((l.length : Int) != (m.length : Int)) = false := by simp [hlen]
    have HL := Lib.hid hlen
    clear hlen
    go_enter Try.func58, Try.ntmps58
    go_wp2
    go_loopg [13] l.length (fun mm i wr => ∃ k : Nat, i = .int .i64 k ∧ k + mm = l.length ∧ Hid (∀ i : Nat, i < k → l[i]? = m[i]?) ∧ Hid (Below w.heap.size w wr))
    case atStart => exact ⟨0, rfl, by omega, fun i h => by omega, Below.refl _ _⟩
    case round =>
      obtain ⟨n, rfl, hn, hg, hb⟩ := hrel
      by_cases hlt : n < l.length
      · have hlt' : n < m.length := by rw [← HL.out]; exact hlt
        have hx : l[n]? = some l[n] := List.getElem?_eq_getElem hlt
        have hy : m[n]? = some m[n] := List.getElem?_eq_getElem hlt'
        have hr := h.below hb.out (Nat.le_refl _)
        have kr := k.below hb.out (Nat.le_refl _)
        obtain ⟨b, off, rfl⟩ : ∃ b off, A = some ⟨b, off, none⟩ := by
          rcases hr with h0 | ⟨b, off, e, _⟩
          · simp [h0] at hlt
          · exact ⟨b, off, e⟩
        obtain ⟨b', off', rfl⟩ : ∃ b off, B = some ⟨b, off, none⟩ := by
          rcases kr with h0 | ⟨b, off, e, _⟩
          · simp [h0] at hlt'
          · exact ⟨b, off, e⟩
        obtain ⟨c0, c1⟩ := Rd.span hr hx
        obtain ⟨d0, d1⟩ := Rd.span kr hy
        have HX := Lib.hid hx
        have HY := Lib.hid hy
        have i0 : (0 : Int) ≤ (n : Int) := by omega
        have i1 : (n : Int) < (l.length : Int) := by omega
        have i2 : (n : Int) < (m.length : Int) := by omega
        clear h k hr kr hx hy
        generalize l[n] = x at *
        generalize m[n] = y at *
        by_cases he : x = y
        · have hd : decide (x = y) = true := by simp [he]
          have hg' : Hid (∀ i : Nat, i < n + 1 → l[i]? = m[i]?) := fun i hi => by
            by_cases e : i = n
            · subst e; rw [HX.out, HY.out, he]
            · exact hg.out i (by omega)
          clear he
          go_wp2
          go_quiet (fail)
          go_wp2
          go_roundg (gk - 1)
          case measure => omega
          case rel => exact ⟨n + 1, by go_num, by omega, hg'.out, bl_drewN hb.out _⟩
        · have hd : decide (x = y) = false := by simp [he]
          have hv : Hid (decide (l = m) = false) := by
            show _ = _
            rw [decide_eq_false_iff_not]
            intro e
            have h1 := HX.out
            rw [e, HY.out] at h1
            exact he (by cases h1; rfl)
          clear he
          go_wp2
          go_quiet (fail)
          go_wp2
          go_ret
          exact ⟨by rw [hv.out]; rfl, bl_drewN hb.out _⟩
      · have hv : Hid (decide (l = m) = true) := by
          show _ = _
          rw [decide_eq_true_iff]
          apply List.ext_getElem?
          intro i
          by_cases hi : i < n
          · exact hg.out i hi
          · have := HL.out
            rw [List.getElem?_eq_none (by omega), List.getElem?_eq_none (by omega)]
        go_wp2
        go_ret
        exact ⟨by rw [hv.out]; rfl, hb.out⟩
  · have hq : ((l.length : Int) != (m.length : Int)) = true := by rw [bne_iff_ne]; omega
    have hv : Hid (decide (l = m) = false) := by
      show _ = _
      rw [decide_eq_false_iff_not]
      intro e
      exact hlen (by simp [e])
    clear hlen
    go_enter Try.func58, Try.ntmps58
    go_wp2
    go_ret
    exact ⟨by rw [hv.out]; rfl, Below.refl _ _⟩
end Go.Proofs.Ytglpckdmiohciaa
