/- diff's cursor: done, at, take, least -/
import Derived.Test.YtofdmkglhjpbcaaProg
import Derived.Test.YtofdmkglhjpbcaaBase
import Derived.Test.YtofdmkglhjpbcaaPure
import Derived.Deep.QuietTactic
import Derived.BigQuiet
namespace Go.Proofs.Ytofdmkglhjpbcaa
open Go.RowKit
set_option linter.unusedVariables false
set_option linter.unusedSimpArgs false

/-- A cursor at block g: what is left is l. -/
def Cur (N : Nat) (w : World) (g : Nat) (l : List Entry) : Prop :=
  ∃ A c, w.heap[g]? = some (.cells #[.slice A l.length c] 76 (0, 0)) ∧ l.length ≤ c ∧ c ≤ 9223372036854775807 ∧ Rd Entry.enc 2 w A l ∧ N ≤ g ∧ (l ≠ [] → ∀ a, A = some a → a.block < N)
theorem Cur.grown {N g : Nat} {w w' : World} {l : List Entry} (h : Cur N w g l) {row : Option Nat} (hg : w.grownBy w' row) (hr : ∀ k, row = some k → N ≤ k ∧ k ≠ g) : Cur N w' g l := by
  obtain ⟨A, c, hb, hc, hm, hrd, hN, hne⟩ := h
  exact ⟨A, c, (hg.block g (blk_lt hb) (fun e => (hr g e.symm).2 rfl)).trans hb, hc, hm, hrd.grown' hg (fun hl a ha e => by have := (hr _ e.symm).1; have := hne hl a ha; omega), hN, hne⟩
theorem Cur.below {N g : Nat} {w w' : World} {l : List Entry} (h : Cur N w g l) (hb : Below w.heap.size w w') : Cur N w' g l := h.grown (grown_below hb (Nat.le_refl _) none) (fun k e => by cases e)
theorem Cur.lt {N g : Nat} {w : World} {l : List Entry} (h : Cur N w g l) : g < w.heap.size := by obtain ⟨A, c, hb, _⟩ := h; exact blk_lt hb

theorem cur_set {w : World} {N g : Nat} {v : Value} {A : Option Addr} {c : Nat} {l : List Entry} (hb : w.heap[g]? = some (.cells #[v] 76 (0, 0))) (hc : l.length ≤ c) (hm : c ≤ 9223372036854775807)
    (hr : Rd Entry.enc 2 w A l) (hN : N ≤ g) (hne : l ≠ [] → ∀ a, A = some a → a.block < N) : Cur N (w.setCell ⟨g, 0, none⟩ (.slice A l.length c)) g l :=
  ⟨A, c, blk_set' hb 0 _ rfl, hc, hm, hr.grown' (grown_set _ _ _ _) (fun hl a ha => sne (by have := hne hl a ha; omega)), hN, hne⟩

theorem curDone_calls (N : Nat) (w : World) (g : Nat) (l : List Entry) (h : Cur N w g l) :
    Calls Try.prog 44 #[.pointer (some ⟨g, 0, none⟩)] w fun e w' => e = .returned (.bool l.isEmpty) ∧ w = w' := by
  obtain ⟨A, c, hb, hc, hm, hr, hN, hne⟩ := h
  have c0 := blk_cell hb 0
  simp at c0
  have hq : ((l.length : Int) == 0) = l.isEmpty := by cases l <;> simp; omega
  go_enter Try.func44, Try.ntmps44
  go_wp2
  go_ret
  exact ⟨ret_bool rfl, rfl⟩

def curAt (l : List Entry) (k : Str) : Bool := match l with | [] => false | x :: _ => decide (x.key = k)

theorem curAt_calls (N : Nat) (w : World) (g : Nat) (l : List Entry) (k : Str) (h : Cur N w g l) :
    Calls Try.prog 80 #[.pointer (some ⟨g, 0, none⟩), .string k] w fun e w' => e = .returned (.bool (curAt l k)) ∧ w = w' := by
  have h' := h
  obtain ⟨A, c, hb, hc, hm, hr, hN, hne⟩ := h
  have c0 := blk_cell hb 0
  simp at c0
  cases l with
  | nil =>
    have hd := curDone_calls N w g [] h'
    have HD := Lib.hid hd
    clear hd
    go_enter Try.func80, Try.ntmps80
    go_wp2_with fail
    refine HD.out.mono ?_
    rintro e w1 ⟨rfl, rfl⟩
    go_wp2
    go_ret
    exact ⟨rfl, rfl⟩
  | cons x l =>
    have hd := curDone_calls N w g _ h'
    have HD := Lib.hid hd
    clear hd
    rcases hr with h0 | ⟨b, off, rfl, hbl, hcell⟩
    · cases h0
    have d0 : w.cell? ⟨b, off, none⟩ = some (.string x.key) := by have := hcell 0 x rfl 0 _ rfl; simpa using this
    have hq := toList_beq x.key k
    have hlen : (0 : Int) < ((l.length + 1 : Nat) : Int) := by omega
    simp only [List.length_cons] at c0
    clear hcell
    go_enter Try.func80, Try.ntmps80
    go_wp2_with fail
    refine HD.out.mono ?_
    rintro e w1 ⟨rfl, rfl⟩
    go_wp2
    go_ret
    exact ⟨rfl, rfl⟩

theorem curTake_no (N : Nat) (w : World) (g : Nat) (l : List Entry) (k : Str) (h : Cur N w g l) (hk : curAt l k = false) :
    Calls Try.prog 43 #[.pointer (some ⟨g, 0, none⟩), .string k] w fun e w' => e = .returned (.tuple #[.string ⟨#[]⟩, .bool false]) ∧ w = w' := by
  have HD := Lib.hid (curAt_calls N w g l k h)
  have HK := Lib.hid hk
  clear hk h
  go_enter Try.func43, Try.ntmps43
  go_wp2_with fail
  refine HD.out.mono ?_
  rintro e w1 ⟨rfl, rfl⟩
  rw [HK.out]
  go_wp2
  go_ret2
  exact ⟨rfl, rfl⟩

theorem curTake_yes (N : Nat) (w : World) (g : Nat) (x : Entry) (l : List Entry) (h : Cur N w g (x :: l)) :
    Calls Try.prog 43 #[.pointer (some ⟨g, 0, none⟩), .string x.key] w fun e w' => e = .returned (.tuple #[.string x.val, .bool true]) ∧ Cur N w' g l ∧ w.grownBy w' (some g) := by
  have HD := Lib.hid (curAt_calls N w g _ x.key h)
  obtain ⟨A, c, hb, hc, hm, hr, hN, hne⟩ := h
  have hne' := Lib.hid hne
  clear hne
  have c0 := blk_cell hb 0
  have f0 := blk_free hb 0
  simp at c0
  have hr' := Lib.hid hr
  rcases hr with h0 | ⟨b, off, rfl, hbl, hcell⟩
  · cases h0
  have d1 : w.cell? ⟨b, off + 1, none⟩ = some (.string x.val) := by have := hcell 0 x rfl 1 _ rfl; simpa using this
  have hlen : (0 : Int) < ((l.length + 1 : Nat) : Int) := by omega
  have hcell' := Lib.hid hcell
  simp only [List.length_cons] at hc
  have hc1 : 1 ≤ c := by omega
  clear hcell
  go_enter Try.func43, Try.ntmps43
  go_wp2_with fail
  refine HD.out.mono ?_
  rintro e w1 ⟨rfl, rfl⟩
  rw [show curAt (x :: l) x.key = true from by simp [curAt]]
  go_wp2
  · go_ret2
    obtain rfl : l = [] := List.eq_nil_of_length_eq_zero (by omega)
    exact ⟨rfl, cur_set hb (Nat.le_refl _) (by omega) (.inl rfl) hN (fun h => absurd rfl h), grown_set _ _ _ _⟩
  · go_ret2
    exact ⟨rfl, cur_set hb (by omega) (by omega) hr'.out.tail hN (fun _ a ha => by cases ha; exact hne'.out (by simp) ⟨b, off, none⟩ rfl), grown_set _ _ _ _⟩

theorem curTake_calls (N : Nat) (w : World) (g : Nat) (l : List Entry) (k : Str) (h : Cur N w g l) :
    Calls Try.prog 43 #[.pointer (some ⟨g, 0, none⟩), .string k] w fun e w' => e = .returned (.tuple #[.string (takeK l k).1, .bool (takeK l k).2.1]) ∧ Cur N w' g (takeK l k).2.2 ∧ w.grownBy w' (some g) := by
  cases l with
  | nil => exact (curTake_no N w g [] k h rfl).mono fun e w' ⟨he, hw⟩ => ⟨he, hw ▸ h, hw ▸ grown_refl _ _⟩
  | cons x l =>
    by_cases hk : x.key = k
    · subst hk
      simp only [takeK, if_true]
      exact curTake_yes N w g x l h
    · simp only [takeK, if_neg hk]
      exact (curTake_no N w g (x :: l) k h (by simp [curAt, hk])).mono fun e w' ⟨he, hw⟩ => ⟨he, hw ▸ h, hw ▸ grown_refl _ _⟩

theorem least_calls (N : Nat) (w : World) (g g' : Nat) (l m : List Entry) (h : Cur N w g l) (k : Cur N w g' m) (hlm : ¬ (l = [] ∧ m = [])) :
    Calls Try.prog 45 #[.pointer (some ⟨g, 0, none⟩), .pointer (some ⟨g', 0, none⟩)] w fun e w' => e = .returned (.string (leastKey l m)) ∧ Below w.heap.size w w' := by
  have HD := Lib.hid (fun (wx : World) (h : Cur N wx g l) => curDone_calls N wx g l h)
  have HK := Lib.hid (fun (wx : World) (h : Cur N wx g' m) => curDone_calls N wx g' m h)
  have h' := Lib.hid h
  have k' := Lib.hid k
  obtain ⟨A, c, hb, hc, hm, hr, hN, hne⟩ := h
  obtain ⟨A', c', hb', hc', hm', hr', hN', hne'⟩ := k
  have c0 := blk_cell hb 0
  have c1 := blk_cell hb' 0
  simp at c0 c1
  clear hne hne'
  cases l with
  | nil =>
    cases m with
    | nil => exact absurd ⟨rfl, rfl⟩ hlm
    | cons y m =>
      rcases hr' with h0 | ⟨b, off, rfl, hbl, hcell⟩
      · cases h0
      have d0 : w.cell? ⟨b, off, none⟩ = some (.string y.key) := by have := hcell 0 y rfl 0 _ rfl; simpa using this
      have hlen : (0 : Int) < ((m.length + 1 : Nat) : Int) := by omega
      simp only [List.length_cons] at c1
      clear hcell hlm
      go_enter Try.func45, Try.ntmps45
      go_wp2_with fail
      refine (HD.out _ h'.out).mono ?_
      rintro e w1 ⟨rfl, rfl⟩
      go_wp2
      go_ret
      exact ⟨rfl, Below.refl _ _⟩
  | cons x l =>
    rcases hr with h0 | ⟨b, off, rfl, hbl, hcell⟩
    · cases h0
    have d0 : w.cell? ⟨b, off, none⟩ = some (.string x.key) := by have := hcell 0 x rfl 0 _ rfl; simpa using this
    have hlen : (0 : Int) < ((l.length + 1 : Nat) : Int) := by omega
    simp only [List.length_cons] at c0
    clear hcell hlm
    cases m with
    | nil =>
      go_enter Try.func45, Try.ntmps45
      go_wp2_with fail
      refine (HD.out _ h'.out).mono ?_
      rintro e w1 ⟨rfl, rfl⟩
      go_wp2_with fail
      refine (HK.out _ k'.out).mono ?_
      rintro e w1 ⟨rfl, rfl⟩
      go_wp2
      go_ret
      exact ⟨rfl, Below.refl _ _⟩
    | cons y m =>
      rcases hr' with h0 | ⟨b', off', rfl, hbl', hcell'⟩
      · cases h0
      have d1 : w.cell? ⟨b', off', none⟩ = some (.string y.key) := by have := hcell' 0 y rfl 0 _ rfl; simpa using this
      have hlen' : (0 : Int) < ((m.length + 1 : Nat) : Int) := by omega
      simp only [List.length_cons] at c1
      clear hcell'
      cases hq : sle x.key y.key with
      | true =>
        have hv : Hid (leastKey (x :: l) (y :: m) = x.key) := by show _ = _; simp [leastKey, hq]
        go_enter Try.func45, Try.ntmps45
        go_wp2_with fail
        refine (HD.out _ h'.out).mono ?_
        rintro e w1 ⟨rfl, rfl⟩
        go_wp2_with fail
        refine (HK.out _ k'.out).mono ?_
        rintro e w1 ⟨rfl, rfl⟩
        go_wp2_with fail
        go_quiet (fail)
        go_wp2
        go_ret
        exact ⟨by rw [hv.out]; rfl, bl_drewN (Below.refl _ _) _⟩
      | false =>
        have hv : Hid (leastKey (x :: l) (y :: m) = y.key) := by show _ = _; simp [leastKey, hq]
        go_enter Try.func45, Try.ntmps45
        go_wp2_with fail
        refine (HD.out _ h'.out).mono ?_
        rintro e w1 ⟨rfl, rfl⟩
        go_wp2_with fail
        refine (HK.out _ k'.out).mono ?_
        rintro e w1 ⟨rfl, rfl⟩
        go_wp2_with fail
        go_quiet (fail)
        go_wp2
        go_ret
        exact ⟨by rw [hv.out]; rfl, bl_drewN (Below.refl _ _) _⟩
end Go.Proofs.Ytofdmkglhjpbcaa
