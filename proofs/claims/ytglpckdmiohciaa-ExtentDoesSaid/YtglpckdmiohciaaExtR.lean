/- The reference's set of free pages (ref04.Free): how it lies; all, set, Has, Claim, Give. -/
import Derived.Test.YtglpckdmiohciaaOpenExt
namespace Go.Proofs.Ytglpckdmiohciaa
open Go.RowKit
set_option linter.unusedVariables false
set_option linter.unusedSimpArgs false

def bEnc (b : Bool) : List Value := [.bool b]
theorem bOk : Enc bEnc 1 := ⟨fun _ => rfl, fun x u hu => by simp [bEnc] at hu; subst hu; rfl, by omega⟩
structure Rf where
  lo : Int
  L : List Bool
structure Rf.Ok (X : Rf) : Prop where
  lo0 : 0 ≤ X.lo
  lo1 : X.lo ≤ 9223372036854775807
  len : X.L.length ≤ 16384
def RfAt (w : World) (g : Nat) (G : Nat → Prop) (X : Rf) : Prop :=
  ∃ v, w.heap[g]? = some (.cells #[.int .i64 X.lo, v] 159 (0, 0)) ∧ Own bEnc 1 4 0 w v X.L ∧ (∀ k, v.ownBlock = some k → k ≠ g ∧ G k) ∧ G g ∧ (∀ i, G i → i < w.heap.size) ∧ X.Ok
def RfDid (G : Nat → Prop) (w w' : World) (g : Nat) (X : Rf) : Prop := ∃ G', RfAt w' g G' X ∧ Chg G w w' ∧ ∀ i, G' i → G i ∨ w.heap.size ≤ i
section
variable {w w' w'' : World} {g : Nat} {F G : Nat → Prop} {X X' : Rf}
theorem RfAt.lt (h : RfAt w g G X) : ∀ i, G i → i < w.heap.size := by obtain ⟨v, a, b, c, d, e, f⟩ := h; exact e
theorem RfAt.fg (h : RfAt w g G X) : G g := by obtain ⟨v, a, b, c, d, e, f⟩ := h; exact d
theorem RfAt.glt (h : RfAt w g G X) : g < w.heap.size := h.lt g h.fg
theorem RfAt.okX (h : RfAt w g G X) : X.Ok := by obtain ⟨v, a, b, c, d, e, f⟩ := h; exact f
theorem RfAt.chg (h : RfAt w g G X) (hc : Chg F w w') (hG : ∀ i, G i → ¬ F i) : RfAt w' g G X := by
  obtain ⟨v, a, b, c, d, e, f⟩ := h
  exact ⟨v, hc.blk a (hG _ d), b.chg hc (fun k hk => hG _ (c k hk).2), c, d, fun i hi => Nat.lt_of_lt_of_le (e i hi) hc.size, f⟩
theorem RfAt.below (h : RfAt w g G X) (hb : Below w.heap.size w w') : RfAt w' g G X := h.chg (Below.chg hb fun _ => False) (fun _ _ h => h)
theorem RfAt.alloc (h : RfAt w g G X) (o : Obj) : RfAt (w.alloc o) g G X := h.below ((Below.refl _ w).alloc (Nat.le_refl _) o)
theorem RfAt.cells (h : RfAt w g G X) : ∃ (A : Option Addr) (c : Nat), w.cell? ⟨g, 0, none⟩ = some (.int .i64 X.lo) ∧ w.cell? ⟨g, 1, none⟩ = some (.slice A X.L.length c) ∧ (∀ i, w.frozen? ⟨g, i, none⟩ = false) ∧
    Own bEnc 1 4 0 w (.slice A X.L.length c) X.L ∧ Rd bEnc 1 w A X.L ∧ X.L.length ≤ c ∧ (∀ k, (Value.slice A X.L.length c).ownBlock = some k → k ≠ g ∧ G k) ∧ w.heap[g]? = some (.cells #[.int .i64 X.lo, .slice A X.L.length c] 159 (0, 0)) := by
  obtain ⟨v, a, b, c, d, e, f⟩ := h
  obtain ⟨A, cc, rfl, h1, h2, h3, _⟩ := b.rd bOk
  refine ⟨A, cc, ?_, ?_, fun i => blk_free a i, b, h3, h1, c, a⟩ <;> rw [blk_cell a] <;> rfl
theorem RfDid.refl (h : RfAt w g G X) : RfDid G w w g X := ⟨G, h, Chg.refl _ _, fun i hi => .inl hi⟩
theorem RfDid.of_below (h : RfAt w g G X) (hb : Below w.heap.size w w') : RfDid G w w' g X := ⟨G, h.below hb, Below.chg hb G, fun i hi => .inl hi⟩
theorem RfDid.after {F1 : Nat → Prop} (k : RfDid F1 w' w'' g X') (c1 : Chg G w w') (s1 : ∀ i, F1 i → G i ∨ w.heap.size ≤ i) : RfDid G w w'' g X' := by
  obtain ⟨F2, h2, c2, s2⟩ := k
  refine ⟨F2, h2, c1.trans c2 (fun i hi hf => ?_), fun i hi => ?_⟩
  · rcases s1 i hf with e | e
    · exact e
    · omega
  · rcases s2 i hi with e | e
    · exact s1 i e
    · exact .inr (Nat.le_trans c1.size e)
theorem RfAt.put (h : RfAt w g G X) (w' : World) (v : Value) (hb : w'.heap[g]? = some (.cells #[.int .i64 X'.lo, v] 159 (0, 0))) (ho : Own bEnc 1 4 0 w' v X'.L) (hv : ∀ k, v.ownBlock = some k → k ≠ g ∧ (G k ∨ w.heap.size ≤ k)) (hc : Chg G w w') (hk : X'.Ok) : RfDid G w w' g X' := by
  refine ⟨fun i => G i ∨ (w.heap.size ≤ i ∧ i < w'.heap.size), ⟨v, hb, ho, fun k hk => ⟨(hv k hk).1, ?_⟩, .inl h.fg, ?_, hk⟩, hc, fun i hi => hi.imp_right And.left⟩
  · rcases (hv k hk).2 with e | e
    · exact .inl e
    · exact .inr ⟨e, (ho.lt k hk).2⟩
  · rintro i (hi | hi)
    · exact Nat.lt_of_lt_of_le (h.lt i hi) hc.size
    · exact hi.2
end
theorem Own.setB {base b n c : Nat} {e : TypeId} {w : World} {xs : List Bool} (h : Own bEnc 1 e base w (.slice (some ⟨b, 0, none⟩) n c) xs) (i : Nat) (hi : i < xs.length) (v : Bool) :
    Own bEnc 1 e base (w.setCell ⟨b, i, none⟩ (.bool v)) (.slice (some ⟨b, 0, none⟩) n c) (xs.set i v) := by
  refine ⟨by rw [flat_len bOk], ?_⟩
  rw [List.length_set]
  rcases h.2 with ⟨e0, _⟩ | ⟨g', cap, cur, e0, hb, hh, h1, h2, h3, h4⟩
  · cases e0
  · cases e0
    refine .inr ⟨b, c, _, rfl, hb, blk_set hh _ _, h1, h2, by simpa using h3, ?_⟩
    rw [Array.toList_setIfInBounds, List.take_set, h4]
    have hm : ∀ l : List Bool, l.flatMap bEnc = l.map Value.bool := fun l => by induction l with | nil => rfl | cons x l ih => simp [bEnc, ih]
    rw [hm, hm, List.map_set]

/-! ### What is done with it -/
def Rf.Fit (X : Rf) (s : Span) : Prop := 1 ≤ s.pages ∧ X.lo ≤ s.start ∧ s.start < X.L.length ∧ s.pages ≤ X.L.length - s.start
def Rf.All (X : Rf) (s : Span) (fr : Bool) : Prop := X.Fit s ∧ ∀ j : Nat, j < s.pages.toNat → X.L[s.start.toNat + j]? = some fr
open Classical in
noncomputable def Rf.all (X : Rf) (s : Span) (fr : Bool) : Bool := decide (X.All s fr)
open Classical in
theorem Rf.all_no {X : Rf} {s : Span} {fr : Bool} (h : ¬ X.All s fr) : X.all s fr = false := decide_eq_false h
open Classical in
theorem Rf.all_iff {X : Rf} {s : Span} {fr : Bool} : X.all s fr = true ↔ X.All s fr := decide_eq_true_iff
def setN (L : List Bool) (a n : Nat) (v : Bool) : List Bool := (List.range n).foldl (fun L j => L.set (a + j) v) L
theorem setN_succ (L : List Bool) (a n : Nat) (v : Bool) : setN L a (n + 1) v = (setN L a n v).set (a + n) v := by unfold setN; rw [List.range_succ, List.foldl_append]; rfl
theorem setN_len (L : List Bool) (a : Nat) (v : Bool) : ∀ n, (setN L a n v).length = L.length
  | 0 => rfl
  | n + 1 => by rw [setN_succ, List.length_set, setN_len L a v n]
theorem setN_get (L : List Bool) (a : Nat) (v : Bool) (i : Nat) : ∀ n, (setN L a n v)[i]? = if a ≤ i ∧ i < a + n then L[i]?.map (fun _ => v) else L[i]?
  | 0 => by rw [if_neg (by omega)]; rfl
  | n + 1 => by
    rw [setN_succ, List.getElem?_set, setN_get L a v i n, setN_len]
    by_cases h : a + n = i
    · subst h
      rw [if_pos rfl, if_pos (show a ≤ a + n ∧ a + n < a + (n + 1) from ⟨by omega, by omega⟩)]
      by_cases hl : a + n < L.length
      · rw [if_pos hl, List.getElem?_eq_getElem hl]; rfl
      · rw [if_neg hl, List.getElem?_eq_none (by omega)]; rfl
    · rw [if_neg h]
      by_cases h2 : a ≤ i ∧ i < a + n
      · rw [if_pos h2, if_pos ⟨h2.1, by omega⟩]
      · rw [if_neg h2, if_neg (by omega)]
def Rf.set (X : Rf) (s : Span) (v : Bool) : Rf := { X with L := setN X.L s.start.toNat s.pages.toNat v }
section
variable {w : World} {g : Nat} {G : Nat → Prop} {X : Rf}
theorem Rd.bool {W : World} {b off k : Nat} {l : List Bool} {x : Bool} (h : Rd bEnc 1 W (some ⟨b, off, none⟩) l) (hx : l[k]? = some x) : W.cell? ⟨b, off + k, none⟩ = some (.bool x) := by
  have := h.range hx 0 _ rfl
  simpa using this
set_option maxRecDepth 100000 in
set_option maxHeartbeats 8000000 in
theorem all_calls (h : RfAt w g G X) (s : Span) (fr : Bool) : Calls Try.prog 105 #[.pointer (some ⟨g, 0, none⟩), .agg #[.int .i64 s.start, .int .i64 s.pages], .bool fr] w fun e w' => e = .returned (.bool (X.all s fr)) ∧ Below w.heap.size w w' := by
  have hok := h.okX
  have hgl := h.glt
  obtain ⟨A, c, c0, c1, fz, ho, hr, hc, hv, hb⟩ := h.cells
  obtain ⟨l0, l1, l2⟩ := hok
  have HR := Lib.hid hr
  clear h fz ho hr hv hb
  have hno : Hid (¬ X.Fit s → X.all s fr = false) := fun hn => Rf.all_no (fun q => hn q.1)
  obtain ⟨a, b⟩ := s
  have k0 : ∀ o, (w.alloc o).cell? ⟨g, 0, none⟩ = some (.int .i64 X.lo) := fun o => ((bl_alloc (Below.refl _ w) o).cell (by exact hgl)).trans c0
  have k1 : ∀ o, (w.alloc o).cell? ⟨g, 1, none⟩ = some (.slice A X.L.length c) := fun o => ((bl_alloc (Below.refl _ w) o).cell (by exact hgl)).trans c1
  have hfin : ∀ q : Nat, Hid (Below w.heap.size w ((w.alloc (.cells #[.int .i64 a, .int .i64 b] 90)).drewN q)) := fun q => bl_drewN (bl_alloc (Below.refl _ w) _) q
  go_enter Try.func105, Try.ntmps105
  rcases (Decidable.em (b < 1)) with h1 | h1
  case' inl =>
    have hn : Hid (X.all ⟨a, b⟩ fr = false) := hno.out (fun q => by have := q.1; dsimp only at this; omega)
    go_wp2
    go_quiet (fail)
    go_wp2
    go_ret
    exact ⟨by rw [hn.out]; rfl, (hfin _).out⟩
  have d1 : decide (b < 1) = false := by simpa using h1
  rcases (Decidable.em (a < X.lo)) with h2 | h2
  case' inl =>
    have hn : Hid (X.all ⟨a, b⟩ fr = false) := hno.out (fun q => by have := q.2.1; dsimp only at this; omega)
    go_wp2
    go_quiet (fail)
    go_wp2
    go_ret
    exact ⟨by rw [hn.out]; rfl, (hfin _).out⟩
  have d2 : decide (a < X.lo) = false := by simpa using h2
  rcases (Decidable.em ((X.L.length : Int) ≤ a)) with h3 | h3
  case' inl =>
    have hn : Hid (X.all ⟨a, b⟩ fr = false) := hno.out (fun q => by have := q.2.2.1; dsimp only at this; omega)
    go_wp2
    go_quiet (fail)
    go_wp2
    go_ret
    exact ⟨by rw [hn.out]; rfl, (hfin _).out⟩
  have d3 : decide ((X.L.length : Int) ≤ a) = false := by simpa using h3
  have hw : IntKind.i64.wrap ((X.L.length : Int) - a) = (X.L.length : Int) - a := wrapI (by omega)
  rcases (Decidable.em ((X.L.length : Int) - a < b)) with h4 | h4
  case' inl =>
    have hn : Hid (X.all ⟨a, b⟩ fr = false) := hno.out (fun q => by have := q.2.2.2; dsimp only at this; omega)
    go_wp2
    go_quiet (fail)
    go_wp2
    go_ret
    exact ⟨by rw [hn.out]; rfl, (hfin _).out⟩
  have d4 : decide ((X.L.length : Int) - a < b) = false := by simpa using h4
  have hyes : Hid (X.Fit ⟨a, b⟩) := ⟨by dsimp only; omega, by dsimp only; omega, by dsimp only; omega, by dsimp only; omega⟩
  have a0 : 0 ≤ a := by omega
  go_wp2
  go_quiet (fail)
  obtain ⟨W1, hW1⟩ : ∃ W, W = w.alloc (.cells #[.int .i64 a, .int .i64 b] 90) := ⟨_, rfl⟩
  have hb1 : Hid (Below w.heap.size w W1) := by show Below _ _ _; rw [hW1]; exact bl_alloc (Below.refl _ w) _
  have hx1 : Hid (W1.heap[w.heap.size]? = some (.cells (⟨a, b⟩ : Span).cells 90 (0, 0))) := hW1 ▸ blk_new w _
  have z1 : Hid (W1.heap.size = w.heap.size + 1) := by show _ = _; rw [hW1, World.size_alloc]
  have hall : Hid (∀ W, Below W1.heap.size W1 W → W.cell? ⟨g, 1, none⟩ = some (.slice A X.L.length c) ∧ W.cell? ⟨w.heap.size, 0, none⟩ = some (.int .i64 a) ∧ W.cell? ⟨w.heap.size, 1, none⟩ = some (.int .i64 b) ∧ Rd bEnc 1 W A X.L ∧ Below w.heap.size w W) := fun W hW => by
    have h1 := span_at (blk_below hW hx1.out (blk_lt hx1.out))
    have hbw := bl_then hb1.out hb1.out.size hW
    exact ⟨(hbw.cell (by exact hgl)).trans c1, h1.1, h1.2, HR.out.below hbw (Nat.le_refl _), hbw⟩
  rw [← hW1]
  obtain ⟨W2, hW2⟩ : ∃ W, W = W1.drewN nq := ⟨_, rfl⟩
  have hb2 : Hid (Below W1.heap.size W1 W2) := hW2 ▸ bl_drewN (Below.refl _ W1) nq
  rw [← hW2]
  obtain ⟨-, y0, y1, -, -⟩ := hall.out W2 hb2.out
  clear hW1 hW2 k0 k1 c0 c1 hfin hb1 hx1 z1 HR
  go_wp2
  go_loopg [7] b.toNat (fun m i wr => ∃ (k : Nat) (W : World), i = .int .i64 (a + k) ∧ W = wr ∧ k + m = b.toNat ∧ Hid (∀ j : Nat, j < k → X.L[a.toNat + j]? = some fr) ∧ Hid (Below W1.heap.size W1 W))
  case atStart => exact ⟨0, _, by simp, rfl, by omega, fun j h => by omega, hb2.out⟩
  case round =>
    obtain ⟨k, wo, rfl, rfl, hk, hl, hb⟩ := hrel
    obtain ⟨e0, e1, e2, e3, e4⟩ := hall.out wo hb.out
    have hw1 : wrap64 (a + b) = a + b := wrap64I (by omega)
    have hw2 : IntKind.i64.wrap (a + b) = a + b := wrapI (by omega)
    have HB4 := Lib.hid e4
    rcases Nat.lt_or_ge k b.toNat with hlt | hge
    · have hidx : a.toNat + k < X.L.length := by omega
      have hx : X.L[a.toNat + k]? = some X.L[a.toNat + k] := List.getElem?_eq_getElem hidx
      obtain ⟨bA, off, rfl⟩ : ∃ b off, A = some ⟨b, off, none⟩ := by
        rcases e3 with h0 | ⟨b, off, e, _⟩
        · rw [h0] at hidx; simp at hidx
        · exact ⟨b, off, e⟩
      have c3 := Rd.bool e3 hx
      have HX := Lib.hid hx
      have i0 : 0 ≤ a + (k : Int) := by omega
      have i1 : a + (k : Int) < (X.L.length : Int) := by omega
      have i2 : (a + (k : Int)).toNat = a.toNat + k := by omega
      have i3 : a + (k : Int) < a + b := by omega
      have hw3 : wrap64 (a + (k : Int) + 1) = a + ((k + 1 : Nat) : Int) := by rw [wrap64I (by omega)]; omega
      generalize X.L[a.toNat + k] = x at *
      clear hx e3 e4
      by_cases he : x = fr
      · have hd : (x != fr) = false := by simp [he]
        have hl' : Hid (∀ j : Nat, j < k + 1 → X.L[a.toNat + j]? = some fr) := fun j hj => by
          rcases Nat.lt_or_ge j k with h | h
          · exact hl.out j h
          · obtain rfl : j = k := by omega
            rw [HX.out, he]
        subst he
        rcases x with _ | _
        all_goals
          go_wp2
          go_roundg (gk - 1)
          case measure => omega
          case rel => exact ⟨k + 1, _, by simp; try omega, rfl, by omega, hl'.out, hb.out⟩
      · have hd : (x != fr) = true := by simpa using he
        have hn : Hid (X.all ⟨a, b⟩ fr = false) := Rf.all_no (fun q => by
          have h1 := q.2 k hlt
          dsimp only at h1
          rw [HX.out] at h1
          exact he (by cases h1; rfl))
        clear hd
        rcases x with _ | _ <;> rcases fr with _ | _
        all_goals first
          | exact absurd rfl he
          | (clear he
             go_wp2
             go_ret
             exact ⟨by rw [hn.out]; rfl, HB4.out⟩)
    · have hy : Hid (X.all ⟨a, b⟩ fr = true) := Rf.all_iff.2 ⟨hyes.out, fun j hj => hl.out j (by dsimp only at hj; omega)⟩
      have i3 : ¬ a + (k : Int) < a + b := by omega
      clear e3 e4
      go_wp2
      go_ret
      exact ⟨by rw [hy.out]; rfl, HB4.out⟩
end
end Go.Proofs.Ytglpckdmiohciaa
