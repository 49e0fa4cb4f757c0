/- extent.Free: Spans, a row at a time. -/
import Derived.Test.YtglpckdmiohciaaExt9
import Derived.RangeFuncBox
import Derived.RangeFuncNested
import Derived.RangeFuncLeaves
import Derived.Shelf.Abstract
import Derived.OwnWalkIn
import Derived.TacticsInMore
import Derived.LoopNIn
import Derived.LoopIn
import Derived.RegionIn
namespace Go.Proofs.Ytglpckdmiohciaa
open Go.RowKit Go.Shelf
set_option linter.unusedVariables false
set_option linter.unusedSimpArgs false
attribute [local go_sem] Oper.semAt_some

/-- No block of cells has changed but those that X tells of the world ahead; none joins X but new ones. -/
structure KeptX (X : World → Nat → Prop) (w w' : World) : Prop where
  size : w.heap.size ≤ w'.heap.size
  same : ∀ (i : Nat) (cs : Array Value) (t : TypeId) (fr : Nat × Nat), ¬ X w i → w.heap[i]? = some (.cells cs t fr) → w'.heap[i]? = some (.cells cs t fr)
  join : ∀ i, X w' i → X w i ∨ w.heap.size ≤ i
/-- What X tells hangs on blocks that lay when there were n₀. -/
def Steady (n₀ : Nat) (X : World → Nat → Prop) : Prop := ∀ W W' : World, n₀ ≤ W.heap.size → Below n₀ W W' → ∀ i, X W' i → X W i
theorem Below.le {n m : Nat} {A B : World} (h : Below n A B) (hm : m ≤ n) : Below m A B := h.mono hm
section
variable {X : World → Nat → Prop} {w w' w'' : World} {n₀ : Nat}
theorem KeptX.refl (X : World → Nat → Prop) (w : World) : KeptX X w w := ⟨Nat.le_refl _, fun _ _ _ _ _ h => h, fun _ h => .inl h⟩
theorem KeptX.trans (h : KeptX X w w') (k : KeptX X w' w'') : KeptX X w w'' := ⟨Nat.le_trans h.size k.size, fun i cs t fr hx e => k.same i cs t fr (fun q => by
    rcases h.join i q with q | q
    · exact hx q
    · have := blk_lt e; omega) (h.same i cs t fr hx e), fun i q => by
  rcases k.join i q with q | q
  · exact h.join i q
  · exact .inr (Nat.le_trans h.size q)⟩
theorem KeptX.below (hs : Steady n₀ X) (hn : n₀ ≤ w.heap.size) (h : Below w.heap.size w w') : KeptX X w w' := ⟨h.size, fun i cs t fr _ e => by rw [h.block i (blk_lt e)]; exact e, fun i q => .inl (hs w w' hn (h.mono hn) i q)⟩
theorem KeptX.putObj (hs : Steady n₀ X) (W : World) (l : Nat) (o o' : Obj) (hl : n₀ ≤ l) (hn : n₀ ≤ W.heap.size) (h : W.heap[l]? = some o) (hc : o.isCells = false) : KeptX X W (W.putObj l o') := by
  have hlt : l < W.heap.size := (Array.getElem?_eq_some_iff.1 h).1
  refine ⟨by simp [World.putObj], fun i cs t fr _ e => ?_, fun i q => .inl (hs W _ hn ((Below.refl n₀ W).grown (grownBy_putObj' W l o') (by omega) (fun k e => by cases e; omega)) i q)⟩
  have hne : i ≠ l := fun q => by subst q; rw [e] at h; cases h; cases hc
  rw [World.putObj_heap_other hne]; exact e
theorem Rd.keptX {α : Type} {enc : α → List Value} {sz : Nat} {A : Option Addr} {xs : List α} (h : Rd enc sz w A xs) (hk : KeptX X w w') (hA : ∀ a, A = some a → ¬ X w a.block) : Rd enc sz w' A xs := by
  rcases h with h | ⟨b, off, rfl, hlt, hc⟩
  · exact .inl h
  · refine .inr ⟨b, off, rfl, Nat.lt_of_lt_of_le hlt hk.size, fun k x hx j v hv => ?_⟩
    have h1 := hc k x hx j v hv
    obtain ⟨cs, t, fr, e⟩ := cell_blk h1 rfl
    rw [World.cell?_of_block (w := w) (show w'.heap[b]? = w.heap[b]? from by rw [hk.same _ _ _ _ (hA _ rfl) e]; exact e.symm)]
    exact h1
end
def spanA (s : Span) : Array Value := #[.agg #[.int .i64 s.start, .int .i64 s.pages]]
theorem abides_below {β : Type} {B : Nat} {J : β → World → Prop} (h : AbidesFrom B J) {s : β} {W W' : World} (hJ : J s W) (hb : Below W.heap.size W W') : J s W' :=
  h s W W' none hJ (grown_below hb (Nat.le_refl _) none) (fun r e => by cases e)
set_option maxRecDepth 100000 in
set_option maxHeartbeats 4000000 in
theorem spans1_in (n : Nat) (hn : 1 ≤ n) (X : World → Nat → Prop) {g : Nat} {F : Nat → Prop} {D : Fr} (l Bs : Nat) (J Jx : List Span → World → Prop) (W : World) (hJ : AbidesFrom W.heap.size J) (n₀ : Nat) (hn₀ : n₀ ≤ W.heap.size) (hS : Steady n₀ X) (hX : ∀ k, X W k → k < W.heap.size)
    (hY : ∀ pre x W1, J pre W1 → pre.length < D.l.length → YieldAt Fence.wide (n - 1) Try.prog l (spanA x) W1 fun e W' =>
      (e = .returned (.bool true) ∧ J (pre ++ [x]) W' ∧ KeptX X W1 W') ∨ (e = .returned (.bool false) ∧ Jx (pre ++ [x]) W'))
    (hB : W.cell? ⟨Bs, 0, none⟩ = some (.pointer (some ⟨g, 0, none⟩))) (h : FrAt W g F D) (h0 : J [] W) :
    CallsIn Fence.wide n Try.prog 107 #[.func (.yield l) #[] #[], .pointer (some ⟨Bs, 0, none⟩)] W fun e W' => (∃ v, e = .returned v) ∧
      ((∃ ys, ys = D.l ∧ J ys W') ∨ (∃ pre, pre = D.l.take pre.length ∧ Jx pre W')) := by
  refine callsIn_of_wp Try.func107 rfl trivial ?_ rfl
  simp only [Try.ntmps107, List.size_toArray, List.length_cons, List.length_nil, Nat.reduceAdd, Nat.reduceSub, Array.replicate_succ, Array.replicate_zero, List.push_toArray, List.append_toArray, List.nil_append, List.cons_append]
  obtain ⟨A, c, -, -, c2, -, ho, hr, -⟩ := h.cells
  have hll := h.okD.len
  have hcl := Lib.hid (callsIn_wide (n := n - 1).2 (cloneSpan_calls W A c D.l hr (by omega)))
  have hfn : Fence.wide.fn 103 := trivial
  have HJ := Lib.hid hJ
  have HX := Lib.hid hX
  have HS := Lib.hid hS
  have HY := Lib.hid hY
  have H0 := Lib.hid h0
  clear h ho hr hJ hX hY h0 hS
  gi_wp2_with (gi_at_call 103; refine (hcl.out).mono ?_; rintro e w2 ⟨A2, e2, rfl, o2, b2⟩)
  have J2 : Hid (J [] w2) := abides_below HJ.out H0.out b2
  have hr2 := (o2.rd' Span.ok)
  have hA2 : Hid (∀ a, A2 = some a → ¬ X w2 a.block) := fun a ha hx => by have := hr2.2.2.2.2 a ha; have := HX.out _ (HS.out W w2 hn₀ (b2.mono hn₀) _ hx); omega
  have hbig := hr2.2.2.1
  have hlc := hr2.2.1
  have HR := Lib.hid hr2.2.2.2.1
  have hsz : Hid (W.heap.size ≤ w2.heap.size) := b2.size
  clear hr2 o2 b2 c2
  gi_wp2
  gi_loopw [13] (fun i wr => ∃ k : Nat, k ≤ D.l.length ∧ i = .int .i64 k ∧ Hid (J (D.l.take k) wr) ∧ Hid (KeptX X w2 wr)) (fun i _ => D.l.length - (intOf i).toNat)
  case atStart => exact ⟨0, by omega, rfl, by simpa using J2, KeptX.refl _ _⟩
  case round =>
    obtain ⟨k, hk, rfl, hJs, hkx⟩ := hrel
    rcases Nat.lt_or_ge k D.l.length with hlt | hge
    · have hx : D.l[k]? = some D.l[k] := List.getElem?_eq_getElem hlt
      have hrw := HR.out.keptX hkx.out hA2.out
      obtain ⟨b, off, rfl⟩ : ∃ b off, A2 = some ⟨b, off, none⟩ := by
        rcases hrw with e | ⟨b, off, e, _⟩
        · simp [e] at hlt
        · exact ⟨b, off, e⟩
      obtain ⟨c0, c1⟩ := Rd.span hrw hx
      have htk : Hid (D.l.take (k + 1) = D.l.take k ++ [D.l[k]]) := by show _ = _; rw [List.take_add_one, hx]; rfl
      generalize D.l[k] = x at *
      have hy0 := HY.out (D.l.take k) x (wr.alloc (.cells #[.int .i64 x.start, .int .i64 x.pages] 90)) (abides_below HJ.out hJs.out ((Below.refl _ wr).alloc (Nat.le_refl _) _)) (by rw [List.length_take]; omega)
      obtain ⟨fn, tmps, assign, body, hy, hR⟩ := hy0
      have hR := Lib.hid hR
      have i0 : (0 : Int) ≤ (k : Int) := by omega
      have i1 : (k : Int) < (D.l.length : Int) := by omega
      simp only [spanA] at hy
      have hkb : Hid (KeptX X w2 (wr.alloc (.cells #[.int .i64 x.start, .int .i64 x.pages] 90))) := hkx.out.trans (KeptX.below HS.out (by have := hkx.out.size; have := hsz.out; omega) ((Below.refl _ wr).alloc (Nat.le_refl _) _))
      clear hx hrw
      gi_wp2
      refine hR.out.mono ?_
      rintro e W3 (⟨rfl, hJ3, hk3⟩ | ⟨rfl, hJx3⟩)
      · have HJ3 := Lib.hid hJ3
        have HK3 := Lib.hid (hkb.out.trans hk3)
        clear hJ3 hk3
        gi_wp2
        go_roundw
        case rel => exact ⟨k + 1, by omega, by go_num, by rw [htk.out]; exact HJ3, HK3⟩
        case measure => simp [intOf]; omega
      · have HJ3 := Lib.hid hJx3
        clear hJx3
        gi_wp2
        refine bodyPost_ret (results_none rfl _ _ _) rfl ?_
        refine ⟨⟨_, rfl⟩, .inr ⟨_, ?_, HJ3.out⟩⟩
        rw [← htk.out, List.length_take, Nat.min_eq_left (by omega)]
    · have hke : Hid (D.l.take k = D.l) := List.take_of_length_le hge
      rw [hke.out] at hJs
      gi_wp2
      go_end0
      exact ⟨⟨_, rfl⟩, .inl ⟨_, rfl, hJs.out⟩⟩
set_option maxRecDepth 100000 in
set_option maxHeartbeats 1000000 in
/-- The rows' function: the pointer is boxed, the function value captures the box. -/
theorem spans_calls (A : Option Addr) (w : World) :
    Calls Try.prog 69 #[.pointer A] w fun e w' => e = .returned (.func (.func 107) #[] #[.pointer (some ⟨w.heap.size, 0, none⟩)]) ∧ w' = w.alloc (.cells #[.pointer A] 83) := by
  go_enter Try.func69, Try.ntmps69
  go_wp2
  go_ret
  exact ⟨rfl, rfl⟩
theorem spans_stop (n : Nat) (hn : 1 ≤ n) (X : World → Nat → Prop) {g : Nat} {F : Nat → Prop} {D : Fr} (Bs : Nat) (w : World) (hS : Steady w.heap.size X) (hX : ∀ W, Below w.heap.size w W → ∀ k, X W k → k < W.heap.size) (hB : w.cell? ⟨Bs, 0, none⟩ = some (.pointer (some ⟨g, 0, none⟩))) (hBs : Bs < w.heap.size) (h : FrAt w g F D) :
    SeqStopsK Fence.wide n Try.prog 107 #[.pointer (some ⟨Bs, 0, none⟩)] spanA (KeptX X) (fun ys => ys = D.l) (fun pre => pre = D.l.take pre.length) D.l.length w := fun l J Jx W hW hJ _ hY h0 =>
  spans1_in n hn X l Bs J Jx W hJ w.heap.size hW.size hS (hX W hW) hY ((hW.cell (p := ⟨Bs, 0, none⟩) hBs).trans hB) (h.below hW) h0
/-- Of a set that nobody made no row is told. -/
theorem spans1_none (n : Nat) (hn : 1 ≤ n) (X : World → Nat → Prop) (l Bs : Nat) (J Jx : List Span → World → Prop) (W : World) (hB : W.cell? ⟨Bs, 0, none⟩ = some (.pointer none)) (h0 : J [] W) :
    CallsIn Fence.wide n Try.prog 107 #[.func (.yield l) #[] #[], .pointer (some ⟨Bs, 0, none⟩)] W fun e W' => (∃ v, e = .returned v) ∧
      ((∃ ys, ys = [] ∧ J ys W') ∨ (∃ pre, pre = ([] : List Span).take pre.length ∧ Jx pre W')) := by
  refine callsIn_of_wp Try.func107 rfl trivial ?_ rfl
  simp only [Try.ntmps107, List.size_toArray, List.length_cons, List.length_nil, Nat.reduceAdd, Nat.reduceSub, Array.replicate_succ, Array.replicate_zero, List.push_toArray, List.append_toArray, List.nil_append, List.cons_append]
  have H0 := Lib.hid h0
  clear h0
  gi_wp2
  refine bodyPost_ret (results_none rfl _ _ _) rfl ?_
  exact ⟨⟨_, rfl⟩, .inl ⟨_, rfl, H0.out⟩⟩
theorem spans_stop_none (n : Nat) (hn : 1 ≤ n) (X : World → Nat → Prop) (Bs : Nat) (w : World) (hB : w.cell? ⟨Bs, 0, none⟩ = some (.pointer none)) (hBs : Bs < w.heap.size) :
    SeqStopsK Fence.wide n Try.prog 107 #[.pointer (some ⟨Bs, 0, none⟩)] spanA (KeptX X) (fun ys => ys = []) (fun pre => pre = ([] : List Span).take pre.length) 0 w := fun l J Jx W hW hJ _ hY h0 =>
  spans1_none n hn X l Bs J Jx W ((hW.cell (p := ⟨Bs, 0, none⟩) hBs).trans hB) h0
end Go.Proofs.Ytglpckdmiohciaa
