/- extent.Free: Spans, a row at a time. extent.Free: Count, Largest; the law's rows. extent.Free: New, Copy; what a pointer that is none answers. What extent.Free's functions mean for the pages; the set as a law holds it; law06.awake, ref04.SameSpans. What the arguments of law06 read as. -/
import Derived.Test.YtikgplhcadomcaaKE
import Derived.RangeFuncBox
import Derived.RangeFuncNested
import Derived.RangeFuncLeaves
import Derived.Shelf.Abstract
import Derived.OwnWalkIn
import Derived.TacticsInMore
import Derived.LoopNIn
import Derived.LoopIn
import Derived.RegionIn
import Derived.Test.YtikgplhcadomcaaKA
namespace Go.Proofs.Ytikgplhcadomcaa
open Go.RowKit Go.Shelf
set_option linter.unusedVariables false
set_option linter.unusedSimpArgs false
attribute [local go_sem] Oper.semAt_some

/-- No block of cells has changed but those that X tells of the world ahead; none joins X but new ones. -/
structure KeptX (X : World → Nat → Prop) (w w' : World) : Prop where
  size : w.heap.size ≤ w'.heap.size
  same : ∀ (i : Nat) (cs : Array Value) (t : TypeId) (fr : Nat × Nat), ¬ X w i → w.heap[i]? = some (.cells cs t fr) → w'.heap[i]? = some (.cells cs t fr)
  join : ∀ i, X w' i → X w i ∨ w.heap.size ≤ i
/-- What X tells hangs on blocks that lay when there were n₀. -/
def Steady (n₀ : Nat) (X : World → Nat → Prop) : Prop := ∀ W W' : World, n₀ ≤ W.heap.size → Below n₀ W W' → ∀ i, X W' i → X W i
theorem Below.le {n m : Nat} {A B : World} (h : Below n A B) (hm : m ≤ n) : Below m A B := h.mono hm
section
variable {X : World → Nat → Prop} {w w' w'' : World} {n₀ : Nat}
theorem KeptX.refl (X : World → Nat → Prop) (w : World) : KeptX X w w := ⟨Nat.le_refl _, fun _ _ _ _ _ h => h, fun _ h => .inl h⟩
theorem KeptX.trans (h : KeptX X w w') (k : KeptX X w' w'') : KeptX X w w'' := ⟨Nat.le_trans h.size k.size, fun i cs t fr hx e => k.same i cs t fr (fun q => by
    rcases h.join i q with q | q
    · exact hx q
    · have := blk_lt e; omega) (h.same i cs t fr hx e), fun i q => by
  rcases k.join i q with q | q
  · exact h.join i q
  · exact .inr (Nat.le_trans h.size q)⟩
theorem KeptX.below (hs : Steady n₀ X) (hn : n₀ ≤ w.heap.size) (h : Below w.heap.size w w') : KeptX X w w' := ⟨h.size, fun i cs t fr _ e => by rw [h.block i (blk_lt e)]; exact e, fun i q => .inl (hs w w' hn (h.mono hn) i q)⟩
theorem KeptX.putObj (hs : Steady n₀ X) (W : World) (l : Nat) (o o' : Obj) (hl : n₀ ≤ l) (hn : n₀ ≤ W.heap.size) (h : W.heap[l]? = some o) (hc : o.isCells = false) : KeptX X W (W.putObj l o') := by
  have hlt : l < W.heap.size := (Array.getElem?_eq_some_iff.1 h).1
  refine ⟨by simp [World.putObj], fun i cs t fr _ e => ?_, fun i q => .inl (hs W _ hn ((Below.refl n₀ W).grown (grownBy_putObj' W l o') (by omega) (fun k e => by cases e; omega)) i q)⟩
  have hne : i ≠ l := fun q => by subst q; rw [e] at h; cases h; cases hc
  rw [World.putObj_heap_other hne]; exact e
theorem Rd.keptX {α : Type} {enc : α → List Value} {sz : Nat} {A : Option Addr} {xs : List α} (h : Rd enc sz w A xs) (hk : KeptX X w w') (hA : ∀ a, A = some a → ¬ X w a.block) : Rd enc sz w' A xs := by
  rcases h with h | ⟨b, off, rfl, hlt, hc⟩
  · exact .inl h
  · refine .inr ⟨b, off, rfl, Nat.lt_of_lt_of_le hlt hk.size, fun k x hx j v hv => ?_⟩
    have h1 := hc k x hx j v hv
    obtain ⟨cs, t, fr, e⟩ := cell_blk h1 rfl
    rw [World.cell?_of_block (w := w) (show w'.heap[b]? = w.heap[b]? from by rw [hk.same _ _ _ _ (hA _ rfl) e]; exact e.symm)]
    exact h1
end
def spanA (s : Span) : Array Value := #[.agg #[.int .i64 s.start, .int .i64 s.pages]]
theorem abides_below {β : Type} {B : Nat} {J : β → World → Prop} (h : AbidesFrom B J) {s : β} {W W' : World} (hJ : J s W) (hb : Below W.heap.size W W') : J s W' :=
  h s W W' none hJ (grown_below hb (Nat.le_refl _) none) (fun r e => by cases e)
set_option maxRecDepth 100000 in
set_option maxHeartbeats 4000000 in
theorem spans1_in (n : Nat) (hn : 1 ≤ n) (X : World → Nat → Prop) {g : Nat} {F : Nat → Prop} {D : Fr} (l Bs : Nat) (J Jx : List Span → World → Prop) (W : World) (hJ : AbidesFrom W.heap.size J) (n₀ : Nat) (hn₀ : n₀ ≤ W.heap.size) (hS : Steady n₀ X) (hX : ∀ k, X W k → k < W.heap.size)
    (hY : ∀ pre x W1, J pre W1 → pre.length < D.l.length → YieldAt Fence.wide (n - 1) Try.prog l (spanA x) W1 fun e W' =>
      (e = .returned (.bool true) ∧ J (pre ++ [x]) W' ∧ KeptX X W1 W') ∨ (e = .returned (.bool false) ∧ Jx (pre ++ [x]) W'))
    (hB : W.cell? ⟨Bs, 0, none⟩ = some (.pointer (some ⟨g, 0, none⟩))) (h : FrAt W g F D) (h0 : J [] W) :
    CallsIn Fence.wide n Try.prog 71 #[.func (.yield l) #[] #[], .pointer (some ⟨Bs, 0, none⟩)] W fun e W' => (∃ v, e = .returned v) ∧
      ((∃ ys, ys = D.l ∧ J ys W') ∨ (∃ pre, pre = D.l.take pre.length ∧ Jx pre W')) := by
  refine callsIn_of_wp Try.func71 rfl trivial ?_ rfl
  simp only [Try.ntmps71, List.size_toArray, List.length_cons, List.length_nil, Nat.reduceAdd, Nat.reduceSub, Array.replicate_succ, Array.replicate_zero, List.push_toArray, List.append_toArray, List.nil_append, List.cons_append]
  obtain ⟨A, c, -, -, c2, -, ho, hr, -⟩ := h.cells
  have hll := h.okD.len
  have hcl := Lib.hid (callsIn_wide (n := n - 1).2 (cloneSpan_calls W A c D.l hr (by omega)))
  have hfn : Fence.wide.fn 69 := trivial
  have HJ := Lib.hid hJ
  have HX := Lib.hid hX
  have HS := Lib.hid hS
  have HY := Lib.hid hY
  have H0 := Lib.hid h0
  clear h ho hr hJ hX hY h0 hS
  gi_wp2_with (gi_at_call 69; refine (hcl.out).mono ?_; rintro e w2 ⟨A2, e2, rfl, o2, b2⟩)
  have J2 : Hid (J [] w2) := abides_below HJ.out H0.out b2
  have hr2 := (o2.rd' Span.ok)
  have hA2 : Hid (∀ a, A2 = some a → ¬ X w2 a.block) := fun a ha hx => by have := hr2.2.2.2.2 a ha; have := HX.out _ (HS.out W w2 hn₀ (b2.mono hn₀) _ hx); omega
  have hbig := hr2.2.2.1
  have hlc := hr2.2.1
  have HR := Lib.hid hr2.2.2.2.1
  have hsz : Hid (W.heap.size ≤ w2.heap.size) := b2.size
  clear hr2 o2 b2 c2
  gi_wp2
  gi_loopw [13] (fun i wr => ∃ k : Nat, k ≤ D.l.length ∧ i = .int .i64 k ∧ Hid (J (D.l.take k) wr) ∧ Hid (KeptX X w2 wr)) (fun i _ => D.l.length - (intOf i).toNat)
  case atStart => exact ⟨0, by omega, rfl, by simpa using J2, KeptX.refl _ _⟩
  case round =>
    obtain ⟨k, hk, rfl, hJs, hkx⟩ := hrel
    rcases Nat.lt_or_ge k D.l.length with hlt | hge
    · have hx : D.l[k]? = some D.l[k] := List.getElem?_eq_getElem hlt
      have hrw := HR.out.keptX hkx.out hA2.out
      obtain ⟨b, off, rfl⟩ : ∃ b off, A2 = some ⟨b, off, none⟩ := by
        rcases hrw with e | ⟨b, off, e, _⟩
        · simp [e] at hlt
        · exact ⟨b, off, e⟩
      obtain ⟨c0, c1⟩ := Rd.span hrw hx
      have htk : Hid (D.l.take (k + 1) = D.l.take k ++ [D.l[k]]) := by show _ = _; rw [List.take_add_one, hx]; rfl
      generalize D.l[k] = x at *
      have hy0 := HY.out (D.l.take k) x (wr.alloc (.cells #[.int .i64 x.start, .int .i64 x.pages] 33)) (abides_below HJ.out hJs.out ((Below.refl _ wr).alloc (Nat.le_refl _) _)) (by rw [List.length_take]; omega)
      obtain ⟨fn, tmps, assign, body, hy, hR⟩ := hy0
      have hR := Lib.hid hR
      have i0 : (0 : Int) ≤ (k : Int) := by omega
      have i1 : (k : Int) < (D.l.length : Int) := by omega
      simp only [spanA] at hy
      have hkb : Hid (KeptX X w2 (wr.alloc (.cells #[.int .i64 x.start, .int .i64 x.pages] 33))) := hkx.out.trans (KeptX.below HS.out (by have := hkx.out.size; have := hsz.out; omega) ((Below.refl _ wr).alloc (Nat.le_refl _) _))
      clear hx hrw
      gi_wp2
      refine hR.out.mono ?_
      rintro e W3 (⟨rfl, hJ3, hk3⟩ | ⟨rfl, hJx3⟩)
      · have HJ3 := Lib.hid hJ3
        have HK3 := Lib.hid (hkb.out.trans hk3)
        clear hJ3 hk3
        gi_wp2
        go_roundw
        case rel => exact ⟨k + 1, by omega, by go_num, by rw [htk.out]; exact HJ3, HK3⟩
        case measure => simp [intOf]; omega
      · have HJ3 := Lib.hid hJx3
        clear hJx3
        gi_wp2
        refine bodyPost_ret (results_none rfl _ _ _) rfl ?_
        refine ⟨⟨_, rfl⟩, .inr ⟨_, ?_, HJ3.out⟩⟩
        rw [← htk.out, List.length_take, Nat.min_eq_left (by omega)]
    · have hke : Hid (D.l.take k = D.l) := List.take_of_length_le hge
      rw [hke.out] at hJs
      gi_wp2
      go_end0
      exact ⟨⟨_, rfl⟩, .inl ⟨_, rfl, hJs.out⟩⟩
set_option maxRecDepth 100000 in
set_option maxHeartbeats 1000000 in
/-- The rows' function: the pointer is boxed, the function value captures the box. -/
theorem spans_calls (A : Option Addr) (w : World) :
    Calls Try.prog 38 #[.pointer A] w fun e w' => e = .returned (.func (.func 71) #[] #[.pointer (some ⟨w.heap.size, 0, none⟩)]) ∧ w' = w.alloc (.cells #[.pointer A] 38) := by
  go_enter Try.func38, Try.ntmps38
  go_wp2
  go_ret
  exact ⟨rfl, rfl⟩
theorem spans_stop (n : Nat) (hn : 1 ≤ n) (X : World → Nat → Prop) {g : Nat} {F : Nat → Prop} {D : Fr} (Bs : Nat) (w : World) (hS : Steady w.heap.size X) (hX : ∀ W, Below w.heap.size w W → ∀ k, X W k → k < W.heap.size) (hB : w.cell? ⟨Bs, 0, none⟩ = some (.pointer (some ⟨g, 0, none⟩))) (hBs : Bs < w.heap.size) (h : FrAt w g F D) :
    SeqStopsK Fence.wide n Try.prog 71 #[.pointer (some ⟨Bs, 0, none⟩)] spanA (KeptX X) (fun ys => ys = D.l) (fun pre => pre = D.l.take pre.length) D.l.length w := fun l J Jx W hW hJ _ hY h0 =>
  spans1_in n hn X l Bs J Jx W hJ w.heap.size hW.size hS (hX W hW) hY ((hW.cell (p := ⟨Bs, 0, none⟩) hBs).trans hB) (h.below hW) h0
/-- Of a set that nobody made no row is told. -/
theorem spans1_none (n : Nat) (hn : 1 ≤ n) (X : World → Nat → Prop) (l Bs : Nat) (J Jx : List Span → World → Prop) (W : World) (hB : W.cell? ⟨Bs, 0, none⟩ = some (.pointer none)) (h0 : J [] W) :
    CallsIn Fence.wide n Try.prog 71 #[.func (.yield l) #[] #[], .pointer (some ⟨Bs, 0, none⟩)] W fun e W' => (∃ v, e = .returned v) ∧
      ((∃ ys, ys = [] ∧ J ys W') ∨ (∃ pre, pre = ([] : List Span).take pre.length ∧ Jx pre W')) := by
  refine callsIn_of_wp Try.func71 rfl trivial ?_ rfl
  simp only [Try.ntmps71, List.size_toArray, List.length_cons, List.length_nil, Nat.reduceAdd, Nat.reduceSub, Array.replicate_succ, Array.replicate_zero, List.push_toArray, List.append_toArray, List.nil_append, List.cons_append]
  have H0 := Lib.hid h0
  clear h0
  gi_wp2
  refine bodyPost_ret (results_none rfl _ _ _) rfl ?_
  exact ⟨⟨_, rfl⟩, .inl ⟨_, rfl, H0.out⟩⟩
theorem spans_stop_none (n : Nat) (hn : 1 ≤ n) (X : World → Nat → Prop) (Bs : Nat) (w : World) (hB : w.cell? ⟨Bs, 0, none⟩ = some (.pointer none)) (hBs : Bs < w.heap.size) :
    SeqStopsK Fence.wide n Try.prog 71 #[.pointer (some ⟨Bs, 0, none⟩)] spanA (KeptX X) (fun ys => ys = []) (fun pre => pre = ([] : List Span).take pre.length) 0 w := fun l J Jx W hW hJ _ hY h0 =>
  spans1_none n hn X l Bs J Jx W ((hW.cell (p := ⟨Bs, 0, none⟩) hBs).trans hB) h0
end Go.Proofs.Ytikgplhcadomcaa

namespace Go.Proofs.Ytikgplhcadomcaa
open Go.RowKit Go.Shelf
set_option linter.unusedVariables false
set_option linter.unusedSimpArgs false
attribute [local go_sem] Oper.semAt_some

/-- A pointer whose rows are told as l: a set, or none. -/
def Tells (w : World) (A : Option Addr) (l : List Span) : Prop := ∀ (W : World) (Bs : Nat) (X : World → Nat → Prop), Below w.heap.size w W → W.cell? ⟨Bs, 0, none⟩ = some (.pointer A) → Bs < W.heap.size → Steady W.heap.size X → (∀ W', Below W.heap.size W W' → ∀ k, X W' k → k < W'.heap.size) →
  SeqStopsK Fence.wide 2 Try.prog 71 #[.pointer (some ⟨Bs, 0, none⟩)] spanA (KeptX X) (fun ys => ys = l) (fun pre => pre = l.take pre.length) l.length W
theorem tells_set {w : World} {g : Nat} {F : Nat → Prop} {D : Fr} (h : FrAt w g F D) : Tells w (some ⟨g, 0, none⟩) D.l := fun W Bs X hW hB hl hS hX => spans_stop 2 (by omega) X Bs W hS hX hB hl (h.below hW)
theorem tells_none (w : World) : Tells w none [] := fun W Bs X hW hB hl _ hX => spans_stop_none 2 (by omega) X Bs W hB hl
def cntW (l : List Span) : Int := l.foldl (fun a x => wrap64 (a + x.pages)) 0
def maxL (l : List Span) : Int := l.foldl (fun a x => max a x.pages) 0
theorem blk_ownS {β : Type} (B b : Nat) (c : β → Array Value) (t : TypeId) : OwnFrom B (fun (s : β) W => W.heap[b]? = some (.cells (c s) t (0, 0))) := fun s X Y row hs hg hrow =>
  (hg.block b (blk_lt hs) (fun e => by
    obtain ⟨_, o, ho, hc⟩ := hrow b e.symm
    rw [hs] at ho
    cases ho
    cases hc)).trans hs
theorem KeptX.one {b : Nat} {W : World} {v : Value} {g i : Nat} (e : g = b) : KeptX (fun _ k => k = b) W (W.setCell ⟨g, i, none⟩ v) :=
  ⟨by simp [World.setCell], fun k cs t fr hx h => by rw [Below.heap_setCell _ _ _ _ (fun q => hx (by rw [q]; exact e))]; exact h, fun _ h => .inl h⟩
/-- A variable that the loop captures. -/
def CapI (w w' : World) (t : TypeId) (v : List Span → Value) (pre : List Span) (W : World) : Prop := W.heap[w.heap.size]? = some (.cells #[v pre] t (0, 0)) ∧ Below w.heap.size w' W
theorem capI_own {w w' : World} (t : TypeId) (v : List Span → Value) (h : w.heap.size ≤ w'.heap.size) : OwnFrom w'.heap.size (CapI w w' t v) := OwnFrom.and (blk_ownS _ _ (fun s => #[v s]) t) (ownFrom_below h h)
/-- A row that the loop captures. -/
def CapR (w w' : World) (pre : List Span) (W : World) : Prop := ∃ v, W.heap[w.heap.size]? = some (.cells #[v] 46 (0, 0)) ∧ Own Span.enc 2 33 (w.heap.size + 1) W v pre ∧ v.ownBlock ≠ some w.heap.size ∧ Below w.heap.size w' W
theorem capR_own {w w' : World} (h : w.heap.size ≤ w'.heap.size) : OwnFrom w'.heap.size (CapR w w') := fun s X Y row hs hg hr => by
  obtain ⟨v, a, b, c, d⟩ := hs
  refine ⟨v, blk_ownS w'.heap.size w.heap.size (fun (_ : Unit) => #[v]) _ () X Y row a hg hr, b.kept hg ?_, c, ownFrom_below (β := Unit) h h () X Y row d hg hr⟩
  rcases hq : v.ownBlock with _ | k
  · exact .inl rfl
  · refine .inr (fun e => ?_)
    obtain ⟨_, o, ho, hc⟩ := hr k e.symm
    rcases b.2 with ⟨e0, _⟩ | ⟨g', cap, cur, e0, _, hh, _⟩
    · rw [e0] at hq; cases hq
    · rw [e0] at hq
      cases hq
      rw [hh] at ho
      cases ho
      cases hc
/-- append(v, y), inside a fence. -/
theorem opIn_own {α : Type} {enc : α → List Value} {sz : Nat} {F : Fence} {n : Nat} {P : Program} (he : Enc enc sz) {ops : Array Oper} {rest : List Oper} {o : Oper} {a : Act} {W : World} {Q : Exit → Act → World → Prop} (hgd : o.guard = none) (s x : Operand) (t e : TypeId) (z : Value) (bytes : Nat)
    (hop : o.op = .call { callee := .builtin .append, args := #[s, x], argTypes := #[t, t] }) (ht : P.underlying t = some (.slice e))
    (hinfo : (P.info? e).map (fun i => (i.zero, i.size, i.bytes)) = some (some z, sz, bytes)) (hz : z.cells.size = sz)
    (base : Nat) (v : Value) (xs : List α) (y : α) (g0 : Nat) (cs : Array Value) (fr : Nat × Nat) (hg0 : W.heap[g0]? = some (.cells cs e fr)) (hcs : cs.toList = enc y) (hs : a.eval s = v) (hx : a.eval x = .slice (some ⟨g0, 0, none⟩) 1 1)
    (HO : Own enc sz e base W v xs) (hbase : base ≤ W.heap.size) (hl : (xs.length + 1) * bytes ≤ 140737488355328) (hl' : xs.length + 1 ≤ 140737488355328)
    (h : ∀ g cap w', Own enc sz e base w' (.slice (some ⟨g, 0, none⟩) (xs.length + 1) cap) (xs ++ [y]) → W.grownBy w' v.ownBlock → (v.ownBlock = some g ∨ W.heap.size ≤ g) → g < w'.heap.size → wpListIn F n P ops Q rest (a.put o.dst (.slice (some ⟨g, 0, none⟩) (xs.length + 1) cap)) w') :
    wpListIn F n P ops Q (o :: rest) a W := by
  obtain ⟨i0, hi, hz0, hz1, hz2⟩ := info_parts hinfo
  obtain ⟨g, cap, w', hr, h2, h3, h4, h5⟩ := run_append_lies (P := P) W t o.type base e i0 z sz bytes ht hi hz0 hz1 hz2 hz he.pos v xs.length (xs.flatMap enc) HO ⟨g0, 0, none⟩ 1 1 (enc y) (by rw [he.len]; simp)
    (by rw [← hcs]; exact World.news_of_block hg0) (he.one y) (by omega) (by simp only [maxLen]; omega) hl hbase W.heap.size rfl
  refine wpListIn_plain hgd fun K hK' => ?_
  unfold Oper.wpIn
  refine ⟨?_, ?_⟩
  · simp [Oper.about, hop, resolve, Target.leads, Sem.run_pure]
  · rw [Oper.semAt_plain F _ _ (by rw [hop]; intro c hc'; cases hc')]
    simp [execOp, hop, resolve, invoke, builtin, hs, hx, hr, Result.andThen]
    exact hK' _ _ (h g cap w' (by simpa [Own] using h2) h3 (h4.imp_right (fun e => by omega)) h5)
/-- What rows may change: its variable, and the row that this holds. -/
def XR (w : World) (W : World) (k : Nat) : Prop := k = w.heap.size ∨ ∃ v, W.cell? ⟨w.heap.size, 0, none⟩ = some v ∧ v.ownBlock = some k
theorem xr_steady {w : World} {n₀ : Nat} (h : w.heap.size < n₀) : Steady n₀ (XR w) := fun W W' _ hb i hi => by
  rcases hi with hi | ⟨v, h1, h2⟩
  · exact .inl hi
  · exact .inr ⟨v, (hb.cell (p := ⟨w.heap.size, 0, none⟩) h).symm.trans h1, h2⟩
theorem capR_keep {w W w7 : World} {v v8 : Value} {o : Obj} (hp : W.heap[w.heap.size]? = some (.cells #[v] 46 (0, 0))) (hv : v.ownBlock ≠ some w.heap.size) (hg : (W.alloc o).grownBy w7 v.ownBlock) (h8 : ∀ k, v8.ownBlock = some k → v.ownBlock = some k ∨ W.heap.size ≤ k) :
    KeptX (XR w) W (w7.setCell ⟨w.heap.size, 0, none⟩ v8) := by
  have hc : W.cell? ⟨w.heap.size, 0, none⟩ = some v := by rw [blk_cell hp]; rfl
  have hlt := blk_lt hp
  have hsz := hg.size
  rw [World.size_alloc] at hsz
  have h7 : w7.heap[w.heap.size]? = some (.cells #[v] 46 (0, 0)) := by rw [hg.block _ (by rw [World.size_alloc]; omega) (fun e => hv e.symm)]; exact blk_alloc hp o
  refine ⟨by simp [World.setCell]; omega, fun i cs t fr hx e => ?_, fun i hi => ?_⟩
  · have hi := blk_lt e
    rw [Below.heap_setCell _ _ _ _ (fun q => hx (.inl q)), hg.block _ (by rw [World.size_alloc]; omega) (fun q => hx (.inr ⟨v, hc, q.symm⟩))]
    exact blk_alloc e o
  · rcases hi with hi | ⟨u, h1, h2⟩
    · exact .inl (.inl hi)
    · rw [blk_cell (blk_set h7 0 v8)] at h1
      simp at h1
      subst h1
      rcases h8 i h2 with q | q
      · exact .inl (.inr ⟨v, hc, q⟩)
      · exact .inr q
theorem capR_cell {w W w7 : World} {v : Value} {o : Obj} (hp : W.heap[w.heap.size]? = some (.cells #[v] 46 (0, 0))) (hv : v.ownBlock ≠ some w.heap.size) (hg : (W.alloc o).grownBy w7 v.ownBlock) : w7.cell? ⟨w.heap.size, 0, none⟩ = some v ∧ w7.frozen? ⟨w.heap.size, 0, none⟩ = false := by
  have hlt := blk_lt hp
  have h7 : w7.heap[w.heap.size]? = some (.cells #[v] 46 (0, 0)) := by rw [hg.block _ (by rw [World.size_alloc]; omega) (fun e => hv e.symm)]; exact blk_alloc hp o
  exact ⟨by rw [blk_cell h7]; rfl, blk_free h7 0⟩
theorem capR_fin {w w' W w7 : World} {v v8 : Value} {pre : List Span} {x : Span} {cs : Array Value} {t : TypeId} (hp : W.heap[w.heap.size]? = some (.cells #[v] 46 (0, 0))) (hv : v.ownBlock ≠ some w.heap.size) (hO : Own Span.enc 2 33 (w.heap.size + 1) W v pre) (hB : Below w.heap.size w' W) (hg : (W.alloc (.cells cs t)).grownBy w7 v.ownBlock)
    (ho : Own Span.enc 2 33 (w.heap.size + 1) w7 v8 (pre ++ [x])) (h8 : ∀ k, v8.ownBlock = some k → v.ownBlock = some k ∨ (W.alloc (.cells cs t)).heap.size ≤ k) :
    KeepsOthers W (w7.setCell ⟨w.heap.size, 0, none⟩ v8) ∧ KeptX (XR w) W (w7.setCell ⟨w.heap.size, 0, none⟩ v8) ∧ CapR w w' (pre ++ [x]) (w7.setCell ⟨w.heap.size, 0, none⟩ v8) := by
  have hlt := blk_lt hp
  have h7 : w7.heap[w.heap.size]? = some (.cells #[v] 46 (0, 0)) := by rw [hg.block _ (by rw [World.size_alloc]; omega) (fun e => hv e.symm)]; exact blk_alloc hp _
  have hne : v8.ownBlock ≠ some w.heap.size := fun e => by have := (ho.lt _ e).1; omega
  refine ⟨?_, capR_keep hp hv hg (fun k e => (h8 k e).imp_right (fun q => by rw [World.size_alloc] at q; omega)), v8, blk_set' h7 0 v8 rfl, ho.far (p := ⟨w.heap.size, 0, none⟩) hne v8, hne, ?_⟩
  · refine ((KeepsOthers.alloc W _).trans ⟨hg.size, fun k o hk ho' => ?_⟩).trans (KeepsOthers.of_grownBy (grown_set w7 w.heap.size 0 v8) (fun j o ej ho' => by cases ej; rw [h7] at ho'; cases ho'; rfl))
    by_cases hq : some k = v.ownBlock
    · rcases hO.2 with ⟨e0, _⟩ | ⟨g', cap, cur, e0, _, hh, _⟩
      · rw [e0] at hq; cases hq
      · rw [e0] at hq
        cases hq
        rw [blk_alloc hh] at hk
        cases hk
        cases ho'
    · rw [hg.block k (Array.getElem?_eq_some_iff.1 hk).1 hq]; exact hk
  · exact ((hB.alloc (by omega) (.cells cs t)).grown hg (by rw [World.size_alloc]; omega) (fun k e => by have := (hO.lt k e).1; omega)).setCell (Nat.le_refl _) v8
def RowsR (w w' : World) (l : List Span) (e : Ending) : Prop := ∃ v, e = .returned v ∧ Own Span.enc 2 33 w.heap.size w' v l ∧ Below w.heap.size w w'
theorem run_max_n (m n : Int) (w : World) : (Builtin.max_ #[3, 3] 3 #[.int .i64 n, .int .i64 m]).run Try.prog w = .ok (.int .i64 (max n m)) w := by
  rw [run_max_int2]
  congr 2
  split <;> omega
section
variable {w : World}
set_option maxRecDepth 100000 in
set_option maxHeartbeats 4000000 in
theorem count_of (A : Option Addr) (l : List Span) (hT : Tells w A l) : Calls Try.prog 15 #[.pointer A] w fun e w' => e = .returned (.int .i64 (cntW l)) ∧ Below w.heap.size w w' := by
  refine callsIn_wide (n := 3).1 ?_
  have HT := Lib.hid hT
  clear hT
  have hfn : Fence.wide.fn 38 := trivial
  have hsp := Lib.hid (fun W => callsIn_wide (n := 2).2 (spans_calls A W))
  refine callsIn_of_wp_marks Try.func15 rfl trivial ?_ rfl
  simp only [Try.ntmps15, List.size_toArray, List.length_cons, List.length_nil, Nat.reduceAdd, Nat.reduceSub, Array.replicate_succ, Array.replicate_zero, List.push_toArray, List.append_toArray, List.nil_append, List.cons_append]
  gi_wp2_with (gi_at_call 38; refine (hsp.out _).mono ?_; rintro e w' ⟨rfl, hw'⟩)
  rw [← hw']
  have hb0 : Below w.heap.size w w' := by rw [hw']; exact bl_alloc (bl_alloc (Below.refl _ w) _) _
  have hs0 : w'.heap.size = w.heap.size + 2 := by rw [hw']; simp
  have b0 : w'.heap[w.heap.size]? = some (.cells #[.int .i64 0] 3 (0, 0)) := by rw [hw']; exact blk_alloc (blk_new w _) _
  have b1 : w'.cell? ⟨w.heap.size + 1, 0, none⟩ = some (.pointer A) := by
    have h2 : w'.heap[w.heap.size + 1]? = some (.cells #[.pointer A] 38 (0, 0)) := by
      rw [hw']
      have := blk_new (w.alloc (.cells #[.int .i64 0] 3)) (.cells #[.pointer A] 38)
      rw [World.size_alloc] at this
      exact this
    rw [blk_cell h2]
    rfl
  clear hw'
  refine wpIn_rangeFunc_ownH rfl (by omega) (gf := 71) (lb := #[.pointer (some ⟨w.heap.size + 1, 0, none⟩)]) rfl trivial (enters_of Try.func71 (by kernel_rfl) rfl)
    (HT.out w' (w.heap.size + 1) (fun _ k => k = w.heap.size) hb0 b1 (by omega) (fun _ _ _ _ _ h => h) (fun W hW k hk => by have := hW.size; omega)) (fun a b => KeptX.trans a b) (fun W q o o' h1 h2 h3 _ => KeptX.putObj (n₀ := 0) (fun _ _ _ _ _ h => h) W q o o' (Nat.zero_le _) (Nat.zero_le _) h2 h3) (Below.refl _ _) (fun _ => rfl)
    (CapI w w' 3 (fun pre => .int .i64 (cntW pre))) (fun _ _ _ => False) (capI_own _ _ hb0.size) (fun _ _ _ _ _ hs => hs.elim) ⟨b0, Below.refl _ _⟩
    (fun x a' W => ∃ Bx, w'.heap.size ≤ Bx ∧ W.heap[Bx]? = some (.cells x.cells 33 (0, 0)) ∧ a' = { tmps := #[.pointer A, undef, .int .i64 0, .pointer (some ⟨w.heap.size, 0, none⟩), .pointer (some ⟨Bx, 0, none⟩), .pointer A, .func (.func 71) #[] #[.pointer (some ⟨w.heap.size + 1, 0, none⟩)], .agg #[.int .i64 x.start, .int .i64 x.pages], undef, undef, undef, undef, undef], defers := [] })
    (fun x a' s X Y row hs hg hr => by
      obtain ⟨Bx, e1, e2, e3⟩ := hs
      exact ⟨Bx, e1, blk_ownS w'.heap.size Bx (fun (_ : Unit) => x.cells) _ () X Y row e2 hg hr, e3⟩)
    ?assign ?body ?done ?stop
  case assign =>
    rintro l pre x W K ⟨hp, hB⟩ hK
    unfold spanA
    gi_wp2
    have hsz := hB.size
    exact hK _ _ ((KeepsOthers.alloc _ _).from _) (KeptX.below (n₀ := 0) (fun _ _ _ _ _ h => h) (Nat.zero_le _) (bl_alloc (Below.refl _ W) _)) ⟨blk_alloc hp _, hB.alloc (by omega) _⟩ ⟨W.heap.size, hsz, blk_new W (.cells x.cells 33), rfl⟩
  case body =>
    rintro l pre x a' W hl ⟨r, hr⟩ ⟨hp, hB⟩ ⟨Bx, hBx, bX, rfl⟩ hlt
    obtain ⟨x0, x1⟩ := span_at bX
    have y0 := blk_cell hp 0
    simp at y0
    have f0 := blk_free hp 0
    have HP := Lib.hid hp
    have HB := Lib.hid hB
    have hne : ¬ (Bx = w.heap.size) := by omega
    have hc : Hid (cntW (pre ++ [x]) = wrap64 (cntW pre + x.pages)) := by show _ = _; unfold cntW; rw [List.foldl_append]; rfl
    clear hp hB x0
    generalize cntW pre = cp at *
    gi_wp2
    refine ⟨(KeepsOthers.of_grownBy (grown_set W w.heap.size 0 _) (fun j o ej ho => by cases ej; rw [HP.out] at ho; cases ho; rfl)).from _, KeptX.one rfl, ?_, HB.out.setCell (Nat.le_refl _) _⟩
    show _ = some (Obj.cells #[.int .i64 (cntW (pre ++ [x]))] _ _)
    rw [hc.out]
    exact blk_set' HP.out 0 _ rfl
  case done =>
    rintro Df ys W hD hys ⟨hp, hB⟩ hKd
    have y0 := blk_cell hp 0
    simp at y0
    have HB := Lib.hid hB
    clear hB hp
    subst hys
    gi_wp2
    refine ⟨by simp, .inl ⟨_, _, rfl, run_takeDeferred hKd, ?_⟩⟩
    refine ⟨.int .i64 (cntW ys), by simp [results, Try.results15, go_sem], rfl, (hb0.trans HB.out).grown (grownBy_putObj' W Df (.deferred none)) (hb0.trans HB.out).size (fun k ek => by cases ek; omega)⟩
  case stop =>
    rintro Df code pre W hD hpre h
    exact h.elim
end
end Go.Proofs.Ytikgplhcadomcaa

namespace Go.Proofs.Ytikgplhcadomcaa
open Go.RowKit
set_option linter.unusedVariables false
set_option linter.unusedSimpArgs false

def Fr.new (f n : Int) : Fr := ⟨max f 0, min n 16384, if max f 0 < min n 16384 then [⟨max f 0, min n 16384 - max f 0⟩] else []⟩
theorem Fr.new_ok {f n : Int} (hf : -9223372036854775808 ≤ f ∧ f ≤ 9223372036854775807) (hn : -9223372036854775808 ≤ n ∧ n ≤ 9223372036854775807) : (Fr.new f n).Ok := by
  refine ⟨by simp only [Fr.new]; omega, by simp only [Fr.new]; omega, by simp only [Fr.new]; omega, by simp only [Fr.new]; omega, ?_⟩
  simp only [Fr.new]
  split
  · exact ⟨by dsimp only; omega, by dsimp only; omega, by dsimp only; omega, trivial⟩
  · trivial
theorem run_maxE (n : Int) (w : World) : (Builtin.max_ #[3, 3] 3 #[.int .i64 n, .int .i64 0]).run Try.prog w = .ok (.int .i64 (max n 0)) w := run_max_n 0 n w
theorem run_minE (n : Int) (w : World) : (Builtin.min_ #[3, 3] 3 #[.int .i64 n, .int .i64 16384]).run Try.prog w = .ok (.int .i64 (min n 16384)) w := by
  rw [run_min_int2]
  congr 2
  split <;> omega
/-- A set in blocks that the call made is handed back. -/
def FreshR (w w' : World) (D : Fr) (e : Ending) : Prop := ∃ g F, e = .returned (.pointer (some ⟨g, 0, none⟩)) ∧ FrAt w' g F D ∧ (∀ i, F i → w.heap.size ≤ i) ∧ Below w.heap.size w w'
theorem newFr_fin {w W2 : World} {lo hi : Int} {s : Span} (hb : Below w.heap.size w W2) (hz : W2.heap.size = w.heap.size + 1) (h : ((W2.alloc (.cells s.cells 33)).drew).heap[w.heap.size]? = some (.cells #[.int .i64 lo, .int .i64 hi, .slice none 0 0] 108 (0, 0))) (hk : Fr.Ok ⟨lo, hi, [s]⟩) :
    FreshR w (((W2.alloc (.cells s.cells 33)).drew).setCell ⟨w.heap.size, 2, none⟩ (.slice (some ⟨W2.heap.size, 0, none⟩) 1 1)) ⟨lo, hi, [s]⟩ (.returned (.pointer (some ⟨w.heap.size, 0, none⟩))) := by
  have hr := blk_drew (blk_new W2 (.cells s.cells 33))
  refine ⟨w.heap.size, fun i => i = w.heap.size ∨ i = W2.heap.size, rfl, ⟨_, blk_set' h 2 _ rfl, ?_, (fun k e => by cases e; exact ⟨by show W2.heap.size ≠ w.heap.size; omega, .inr rfl⟩), .inl rfl, (fun i hi => ?_), hk⟩, (fun i hi => by omega), ?_⟩
  · refine Own.far (p := ⟨w.heap.size, 2, none⟩) ⟨by rw [flat_len Span.ok], .inr ⟨W2.heap.size, 1, s.cells, rfl, Nat.zero_le _, hr, by simp, by unfold maxLen; omega, rfl, rfl⟩⟩ (fun e => absurd (Option.some.inj e : W2.heap.size = w.heap.size) (by omega)) _
  · have := blk_lt hr
    simp [World.setCell] at this ⊢
    omega
  · exact ((hb.alloc hb.size _).drew).setCell (Nat.le_refl _) _
set_option maxRecDepth 100000 in
set_option maxHeartbeats 4000000 in
theorem newFr_calls (w : World) (f n : Int) (hf : -9223372036854775808 ≤ f ∧ f ≤ 9223372036854775807) (hn : -9223372036854775808 ≤ n ∧ n ≤ 9223372036854775807) :
    Calls Try.prog 30 #[.int .i64 f, .int .i64 n] w fun e w' => FreshR w w' (Fr.new f n) e := by
  have hok := Lib.hid (Fr.new_ok hf hn)
  have ma := run_maxE f
  have mi := run_minE n
  have hnew : Hid (Fr.new f n = ⟨max f 0, min n 16384, if max f 0 < min n 16384 then [⟨max f 0, min n 16384 - max f 0⟩] else []⟩) := rfl
  have b1 : 0 ≤ max f 0 := by omega
  have b2 : min n 16384 ≤ 16384 := by omega
  generalize max f 0 = lo at *
  generalize min n 16384 = hi at *
  have hN := hok.out
  rw [hnew.out] at hN
  have hN := Lib.hid hN
  clear hf hn
  obtain ⟨W1, hW1⟩ : ∃ W, W = w.alloc (.cells #[.int .i64 lo, .int .i64 hi, .slice none 0 0] 108) := ⟨_, rfl⟩
  have hx1 : W1.heap[w.heap.size]? = some (.cells #[.int .i64 lo, .int .i64 hi, .slice none 0 0] 108 (0, 0)) := hW1 ▸ blk_new w _
  have hB1 : Hid (Below w.heap.size w W1) := by show Below _ _ _; rw [hW1]; exact bl_alloc (Below.refl _ w) _
  have hz1 : Hid (W1.heap.size = w.heap.size + 1) := by show _ = _; rw [hW1, World.size_alloc]
  have x0 : W1.cell? ⟨w.heap.size, 0, none⟩ = some (.int .i64 lo) := by rw [blk_cell hx1]; rfl
  have x1 : W1.cell? ⟨w.heap.size, 1, none⟩ = some (.int .i64 hi) := by rw [blk_cell hx1]; rfl
  have HX1 := Lib.hid hx1
  clear hx1
  go_enter Try.func30, Try.ntmps30
  go_wp2_with fail
  rw [← hW1]
  clear hW1 ma mi
  have hS0 : Hid (W1.drew = W1.drew) := rfl
  refine wp_region_noPanic ?_
  refine wp_region_held_drew (S := fun W => Hid (W = W1.drew)) (by kernel_rfl) (hS0) (fun hHeld => ?_)
  refine wpAnyH_take (i := 0) (oi := ⟨some 12, _, _, _, _, _⟩) (v := ?_) rfl (by kernel_rfl) (by kernel_rfl) (by kernel_rfl) (fun _ _ _ h => h) (Or.inl ⟨by rfl, ?_⟩) (by assumption) ?_
  rotate_left
  · (intro w hSw; (try dsimp only at hSw); have hSe := hSw.out; subst hSe; (go_simp <;> with_reducible rfl))
  try simp only [Act.put, List.setIfInBounds_toArray, List.set_cons_zero, List.set_cons_succ]
  refine wpAnyH_take (i := 1) (oi := ⟨some 13, _, _, _, _, _⟩) (v := ?_) rfl (by kernel_rfl) (by kernel_rfl) (by kernel_rfl) (fun _ _ _ h => h) (Or.inl ⟨by rfl, ?_⟩) (by assumption) ?_
  rotate_left
  · (intro w hSw; (try dsimp only at hSw); have hSe := hSw.out; subst hSe; (go_simp <;> with_reducible rfl))
  try simp only [Act.put, List.setIfInBounds_toArray, List.set_cons_zero, List.set_cons_succ]
  refine wpAnyH_take (i := 2) (oi := ⟨some 14, _, _, _, _, _⟩) (v := ?_) rfl (by kernel_rfl) (by kernel_rfl) (by kernel_rfl) (fun _ _ _ h => h) (Or.inl ⟨by rfl, ?_⟩) (by assumption) ?_
  rotate_left
  · (intro w hSw; (try dsimp only at hSw); have hSe := hSw.out; subst hSe; (go_simp <;> with_reducible rfl))
  try simp only [Act.put, List.setIfInBounds_toArray, List.set_cons_zero, List.set_cons_succ]
  refine wpAnyH_take (i := 3) (oi := ⟨some 15, _, _, _, _, _⟩) (v := ?_) rfl (by kernel_rfl) (by kernel_rfl) (by kernel_rfl) (fun _ _ _ h => h) (Or.inl ⟨by rfl, ?_⟩) (by assumption) ?_
  rotate_left
  · (intro w hSw; (try dsimp only at hSw); have hSe := hSw.out; subst hSe; (go_simp <;> with_reducible rfl))
  try simp only [Act.put, List.setIfInBounds_toArray, List.set_cons_zero, List.set_cons_succ]
  refine wpAnyH_take (i := 4) (oi := ⟨some 16, _, _, _, _, _⟩) (v := ?_) rfl (by kernel_rfl) (by kernel_rfl) (by kernel_rfl) (fun _ _ _ h => h) (Or.inl ⟨by rfl, ?_⟩) (by assumption) ?_
  rotate_left
  · (intro w hSw; (try dsimp only at hSw); have hSe := hSw.out; subst hSe; (go_simp <;> with_reducible rfl))
  try simp only [Act.put, List.setIfInBounds_toArray, List.set_cons_zero, List.set_cons_succ]
  refine wpAnyH_take (i := 5) (oi := ⟨some 17, _, _, _, _, _⟩) (v := ?_) rfl (by kernel_rfl) (by kernel_rfl) (by kernel_rfl) (fun _ _ _ h => h) (Or.inl ⟨by rfl, ?_⟩) (by assumption) ?_
  rotate_left
  · (intro w hSw; (try dsimp only at hSw); have hSe := hSw.out; subst hSe; (go_simp <;> with_reducible rfl))
  try simp only [Act.put, List.setIfInBounds_toArray, List.set_cons_zero, List.set_cons_succ]
  refine wpAnyH_take (i := 6) (oi := ⟨some 18, _, _, _, _, _⟩) (v := ?_) rfl (by kernel_rfl) (by kernel_rfl) (by kernel_rfl) (fun _ _ _ h => h) (Or.inl ⟨by rfl, ?_⟩) (by assumption) ?_
  rotate_left
  · (intro w hSw; (try dsimp only at hSw); have hSe := hSw.out; subst hSe; (go_simp <;> with_reducible rfl))
  try simp only [Act.put, List.setIfInBounds_toArray, List.set_cons_zero, List.set_cons_succ]
  refine wpAnyH_take (i := 7) (oi := ⟨some 19, _, _, _, _, _⟩) (v := ?_) rfl (by kernel_rfl) (by kernel_rfl) (by kernel_rfl) (fun _ _ _ h => h) (Or.inl ⟨by rfl, ?_⟩) (by assumption) ?_
  rotate_left
  · (intro w hSw; (try dsimp only at hSw); have hSe := hSw.out; subst hSe; (go_simp <;> with_reducible rfl))
  try simp only [Act.put, List.setIfInBounds_toArray, List.set_cons_zero, List.set_cons_succ]
  refine wpAnyH_take (i := 8) (oi := ⟨some 20, _, _, _, _, _⟩) (v := ?_) rfl (by kernel_rfl) (by kernel_rfl) (by kernel_rfl) (fun _ _ _ h => h) (Or.inl ⟨by rfl, ?_⟩) (by assumption) ?_
  rotate_left
  · (intro w hSw; (try dsimp only at hSw); have hSe := hSw.out; subst hSe; (go_simp <;> with_reducible rfl))
  try simp only [Act.put, List.setIfInBounds_toArray, List.set_cons_zero, List.set_cons_succ]
  refine wpAnyH_done (by kernel_rfl) ?_ _
  refine NoPanic.normal ?_
  rcases (Decidable.em (lo < hi)) with hlt | hlt
  · have hwr : IntKind.i64.wrap (hi - lo) = hi - lo := wrapI (by omega)
    obtain ⟨W2, hW2⟩ : ∃ W, W = W1.drew := ⟨_, rfl⟩
    have HX2 : Hid (W2.heap[w.heap.size]? = some (.cells #[.int .i64 lo, .int .i64 hi, .slice none 0 0] 108 (0, 0))) := hW2 ▸ blk_drew HX1.out
    have HB2 : Hid (Below w.heap.size w W2) := hW2 ▸ hB1.out.drew
    have HZ2 : Hid (W2.heap.size = w.heap.size + 1) := by subst hW2; exact hz1.out
    rw [← hW2]
    clear hW2 HX1 hB1 hz1 x0 x1
    have hC : Hid (∀ W, Below W2.heap.size W2 W → W.cell? ⟨w.heap.size, 0, none⟩ = some (.int .i64 lo) ∧ W.cell? ⟨w.heap.size, 1, none⟩ = some (.int .i64 hi) ∧ W.heap[w.heap.size]? = some (.cells #[.int .i64 lo, .int .i64 hi, .slice none 0 0] 108 (0, 0))) := fun W hW => by
      have h := blk_below hW HX2.out (blk_lt HX2.out)
      exact ⟨by rw [blk_cell h]; rfl, by rw [blk_cell h]; rfl, h⟩
    have hb0 : Hid (Below W2.heap.size W2 W2.drew) := (Below.refl _ W2).drew
    have hN2 := hN.out
    rw [if_pos hlt] at hN2
    have hN2 := Lib.hid hN2
    go_wp2_with fail
    refine wp_region_noPanic ?_
    refine wp_regionZ 18 (fun W => Hid (Below W2.heap.size W2 W)) (by kernel_rfl) ?_
    refine AnyZ.takeU [18] (i := 0) (oi := ⟨some 21, _, _, _, _, _⟩) (v := ?_) rfl (by kernel_rfl) (by kernel_rfl) (by kernel_rfl) (by kernel_rfl) (by kernel_rfl) (by kernel_rfl) (fun _ _ _ h => h) (Or.inl ⟨by rfl, ?_⟩) (by assumption) ?_
    rotate_left
    · (intro w hSw; (try dsimp only at hSw); obtain ⟨y0, y1, y2⟩ := hC.out _ hSw.out; (go_simp <;> with_reducible rfl))
    try simp only [Act.put, List.setIfInBounds_toArray, List.set_cons_zero, List.set_cons_succ]
    refine AnyZ.takeU [18] (i := 1) (oi := ⟨some 22, _, _, _, _, _⟩) (v := ?_) rfl (by kernel_rfl) (by kernel_rfl) (by kernel_rfl) (by kernel_rfl) (by kernel_rfl) (by kernel_rfl) (fun _ _ _ h => h) (Or.inl ⟨by rfl, ?_⟩) (by assumption) ?_
    rotate_left
    · (intro w hSw; (try dsimp only at hSw); obtain ⟨y0, y1, y2⟩ := hC.out _ hSw.out; (go_simp <;> with_reducible rfl))
    try simp only [Act.put, List.setIfInBounds_toArray, List.set_cons_zero, List.set_cons_succ]
    refine AnyZ.takeU [18] (i := 2) (oi := ⟨some 23, _, _, _, _, _⟩) (v := ?_) rfl (by kernel_rfl) (by kernel_rfl) (by kernel_rfl) (by kernel_rfl) (by kernel_rfl) (by kernel_rfl) (fun _ _ _ h => h) (Or.inl ⟨by rfl, ?_⟩) (by assumption) ?_
    rotate_left
    · (intro w hSw; (try dsimp only at hSw); obtain ⟨y0, y1, y2⟩ := hC.out _ hSw.out; (go_simp <;> with_reducible rfl))
    try simp only [Act.put, List.setIfInBounds_toArray, List.set_cons_zero, List.set_cons_succ]
    refine AnyZ.takeU [18] (i := 3) (oi := ⟨some 24, _, _, _, _, _⟩) (v := ?_) rfl (by kernel_rfl) (by kernel_rfl) (by kernel_rfl) (by kernel_rfl) (by kernel_rfl) (by kernel_rfl) (fun _ _ _ h => h) (Or.inl ⟨by rfl, ?_⟩) (by assumption) ?_
    rotate_left
    · (intro w hSw; (try dsimp only at hSw); obtain ⟨y0, y1, y2⟩ := hC.out _ hSw.out; (go_simp <;> with_reducible rfl))
    try simp only [Act.put, List.setIfInBounds_toArray, List.set_cons_zero, List.set_cons_succ]
    refine AnyZ.takeU [18] (i := 4) (oi := ⟨some 25, _, _, _, _, _⟩) (v := ?_) rfl (by kernel_rfl) (by kernel_rfl) (by kernel_rfl) (by kernel_rfl) (by kernel_rfl) (by kernel_rfl) (fun _ _ _ h => h) (Or.inl ⟨by rfl, ?_⟩) (by assumption) ?_
    rotate_left
    · (intro w hSw; (try dsimp only at hSw); obtain ⟨y0, y1, y2⟩ := hC.out _ hSw.out; (go_simp <;> with_reducible rfl))
    try simp only [Act.put, List.setIfInBounds_toArray, List.set_cons_zero, List.set_cons_succ]
    refine AnyZ.takeU [18] (i := 5) (oi := ⟨some 26, _, _, _, _, _⟩) (v := ?_) rfl (by kernel_rfl) (by kernel_rfl) (by kernel_rfl) (by kernel_rfl) (by kernel_rfl) (by kernel_rfl) (fun _ _ _ h => h) (Or.inl ⟨by rfl, ?_⟩) (by assumption) ?_
    rotate_left
    · (intro w hSw; (try dsimp only at hSw); obtain ⟨y0, y1, y2⟩ := hC.out _ hSw.out; (go_simp <;> with_reducible rfl))
    try simp only [Act.put, List.setIfInBounds_toArray, List.set_cons_zero, List.set_cons_succ]
    refine AnyZ.takeU [18] (i := 6) (oi := ⟨some 27, _, _, _, _, _⟩) (v := ?_) rfl (by kernel_rfl) (by kernel_rfl) (by kernel_rfl) (by kernel_rfl) (by kernel_rfl) (by kernel_rfl) (fun _ _ _ h => h) (Or.inl ⟨by rfl, ?_⟩) (by assumption) ?_
    rotate_left
    · (intro w hSw; (try dsimp only at hSw); obtain ⟨y0, y1, y2⟩ := hC.out _ hSw.out; (go_simp <;> with_reducible rfl))
    try simp only [Act.put, List.setIfInBounds_toArray, List.set_cons_zero, List.set_cons_succ]
    refine AnyZ.takeU [18] (i := 7) (oi := ⟨some 28, _, _, _, _, _⟩) (v := ?_) rfl (by kernel_rfl) (by kernel_rfl) (by kernel_rfl) (by kernel_rfl) (by kernel_rfl) (by kernel_rfl) (fun _ _ _ h => h) (Or.inl ⟨by rfl, ?_⟩) (by assumption) ?_
    rotate_left
    · (intro w hSw; (try dsimp only at hSw); obtain ⟨y0, y1, y2⟩ := hC.out _ hSw.out; (go_simp <;> with_reducible rfl))
    try simp only [Act.put, List.setIfInBounds_toArray, List.set_cons_zero, List.set_cons_succ]
    refine AnyZ.takeU [18] (i := 8) (oi := ⟨some 29, _, _, _, _, _⟩) (v := ?_) rfl (by kernel_rfl) (by kernel_rfl) (by kernel_rfl) (by kernel_rfl) (by kernel_rfl) (by kernel_rfl) (fun _ _ _ h => h) (Or.inl ⟨by rfl, ?_⟩) (by assumption) ?_
    rotate_left
    · (intro w hSw; (try dsimp only at hSw); obtain ⟨y0, y1, y2⟩ := hC.out _ hSw.out; (go_simp <;> with_reducible rfl))
    try simp only [Act.put, List.setIfInBounds_toArray, List.set_cons_zero, List.set_cons_succ]
    refine AnyZ.takeU [18] (i := 9) (oi := ⟨some 30, _, _, _, _, _⟩) (v := ?_) rfl (by kernel_rfl) (by kernel_rfl) (by kernel_rfl) (by kernel_rfl) (by kernel_rfl) (by kernel_rfl) (fun _ _ _ h => h) (Or.inl ⟨by rfl, ?_⟩) (by assumption) ?_
    rotate_left
    · (intro w hSw; (try dsimp only at hSw); obtain ⟨y0, y1, y2⟩ := hC.out _ hSw.out; (go_simp <;> with_reducible rfl))
    try simp only [Act.put, List.setIfInBounds_toArray, List.set_cons_zero, List.set_cons_succ]
    refine AnyZ.takeU [18] (i := 10) (oi := ⟨some 31, _, _, _, _, _⟩) (v := ?_) rfl (by kernel_rfl) (by kernel_rfl) (by kernel_rfl) (by kernel_rfl) (by kernel_rfl) (by kernel_rfl) (fun _ _ _ h => h) (Or.inl ⟨by rfl, ?_⟩) (by assumption) ?_
    rotate_left
    · (intro w hSw; (try dsimp only at hSw); obtain ⟨y0, y1, y2⟩ := hC.out _ hSw.out; (go_simp <;> with_reducible rfl))
    try simp only [Act.put, List.setIfInBounds_toArray, List.set_cons_zero, List.set_cons_succ]
    refine AnyZ.takeU [18] (i := 11) (oi := ⟨some 32, _, _, _, _, _⟩) (v := ?_) rfl (by kernel_rfl) (by kernel_rfl) (by kernel_rfl) (by kernel_rfl) (by kernel_rfl) (by kernel_rfl) (fun _ _ _ h => h) (Or.inl ⟨by rfl, ?_⟩) (by assumption) ?_
    rotate_left
    · (intro w hSw; (try dsimp only at hSw); obtain ⟨y0, y1, y2⟩ := hC.out _ hSw.out; (go_simp <;> with_reducible rfl))
    try simp only [Act.put, List.setIfInBounds_toArray, List.set_cons_zero, List.set_cons_succ]
    refine AnyZ.takeU [18] (i := 12) (oi := ⟨some 33, _, _, _, _, _⟩) (v := ?_) rfl (by kernel_rfl) (by kernel_rfl) (by kernel_rfl) (by kernel_rfl) (by kernel_rfl) (by kernel_rfl) (fun _ _ _ h => h) (Or.inl ⟨by rfl, ?_⟩) (by assumption) ?_
    rotate_left
    · (intro w hSw; (try dsimp only at hSw); obtain ⟨y0, y1, y2⟩ := hC.out _ hSw.out; (go_simp <;> with_reducible rfl))
    try simp only [Act.put, List.setIfInBounds_toArray, List.set_cons_zero, List.set_cons_succ]
    refine AnyZ.takeU [18] (i := 13) (oi := ⟨some 34, _, _, _, _, _⟩) (v := ?_) rfl (by kernel_rfl) (by kernel_rfl) (by kernel_rfl) (by kernel_rfl) (by kernel_rfl) (by kernel_rfl) (fun _ _ _ h => h) (Or.inl ⟨by rfl, ?_⟩) (by assumption) ?_
    rotate_left
    · (intro w hSw; (try dsimp only at hSw); obtain ⟨y0, y1, y2⟩ := hC.out _ hSw.out; (go_simp <;> with_reducible rfl))
    try simp only [Act.put, List.setIfInBounds_toArray, List.set_cons_zero, List.set_cons_succ]
    refine AnyZ.takeU [18] (i := 14) (oi := ⟨some 35, _, _, _, _, _⟩) (v := ?_) rfl (by kernel_rfl) (by kernel_rfl) (by kernel_rfl) (by kernel_rfl) (by kernel_rfl) (by kernel_rfl) (fun _ _ _ h => h) (Or.inl ⟨by rfl, ?_⟩) (by assumption) ?_
    rotate_left
    · (intro w hSw; (try dsimp only at hSw); obtain ⟨y0, y1, y2⟩ := hC.out _ hSw.out; (go_simp <;> with_reducible rfl))
    try simp only [Act.put, List.setIfInBounds_toArray, List.set_cons_zero, List.set_cons_succ]
    refine AnyZ.one (i := 15) (by kernel_rfl) rfl (fun K hK => ?_)
    go_simp
    have B3 : Hid (Below W2.heap.size W2 ((W2.alloc (.cells #[.int .i64 lo, .int .i64 (hi - lo)] 33)).drew)) := ((Below.refl _ W2).alloc (Nat.le_refl _) _).drew
    obtain ⟨z0, z1, z2⟩ := hC.out _ B3.out
    have z3 : ((W2.alloc (.cells #[.int .i64 lo, .int .i64 (hi - lo)] 33)).drew).cell? ⟨w.heap.size, 2, none⟩ = some (.slice none 0 0) := by rw [blk_cell z2]; rfl
    have z4 := blk_free z2 2
    have hF := Lib.hid (newFr_fin (s := ⟨lo, hi - lo⟩) HB2.out HZ2.out z2 (hN2.out))
    refine hK.out _ _ (.inr (by assumption)) ?_
    clear hK K
    try simp only [Act.put, List.setIfInBounds_toArray, List.set_cons_zero, List.set_cons_succ]
    refine AnyZ.takeU [18, 17] (i := 16) (oi := ⟨some 37, _, _, _, _, _⟩) (v := ?_) rfl (by kernel_rfl) (by kernel_rfl) (by kernel_rfl) (by kernel_rfl) (by kernel_rfl) (by kernel_rfl) (fun _ _ _ h => h) (Or.inl ⟨by rfl, ?_⟩) (by assumption) ?_
    rotate_left
    · (intro w hSw; (try dsimp only at hSw); obtain ⟨y0, y1, y2⟩ := hC.out _ hSw.out; (go_simp <;> with_reducible rfl))
    try simp only [Act.put, List.setIfInBounds_toArray, List.set_cons_zero, List.set_cons_succ]
    refine AnyZ.takeU [18] (i := 17) (oi := ⟨some 38, _, _, _, _, _⟩) (v := ?_) rfl (by kernel_rfl) (by kernel_rfl) (by kernel_rfl) (by kernel_rfl) (by kernel_rfl) (by kernel_rfl) (fun _ _ _ h => h) (Or.inl ⟨by rfl, ?_⟩) (by assumption) ?_
    rotate_left
    · (intro w hSw; (try dsimp only at hSw); obtain ⟨y0, y1, y2⟩ := hC.out _ hSw.out; (go_simp <;> with_reducible rfl))
    try simp only [Act.put, List.setIfInBounds_toArray, List.set_cons_zero, List.set_cons_succ]
    refine AnyZ.one (i := 18) (by kernel_rfl) rfl (fun K hK => ?_)
    go_simp
    refine hK.out _ _ (.inl rfl) ?_
    clear hK K
    try simp only [Act.put, List.setIfInBounds_toArray, List.set_cons_zero, List.set_cons_succ]
    refine AnyZ.done (by kernel_rfl) ?_ _
    refine NoPanic.normal ?_
    go_wp2
    go_ret
    rw [hnew.out, if_pos hlt]
    exact hF.out
  · go_wp2
    go_ret
    rw [hnew.out]
    rw [if_neg (by omega)] at hN ⊢
    exact ⟨_, fun i => i = w.heap.size, rfl, ⟨_, blk_drew HX1.out, Own.nil, (fun k e => by cases e), rfl, (fun i hi => by subst hi; exact blk_lt (blk_drew HX1.out)), hN.out⟩, fun i hi => by omega, hB1.out.drew⟩
theorem copyFr_fin {w w2 : World} {D : Fr} {A2 : Option Addr} {e2 : Nat} (hk : D.Ok) (hb : Below w.heap.size w w2) (ho : Own Span.enc 2 33 w.heap.size w2 (.slice A2 D.l.length e2) D.l) :
    FreshR w (w2.alloc (.cells #[.int .i64 D.lo, .int .i64 D.n, .slice A2 D.l.length e2] 108)) D (.returned (.pointer (some ⟨w2.heap.size, 0, none⟩))) := by
  refine ⟨w2.heap.size, fun i => w.heap.size ≤ i ∧ i < w2.heap.size + 1, rfl, ⟨_, blk_new w2 _, (ho.alloc _).mono (Nat.zero_le _), (fun k e => ?_), ⟨hb.size, by omega⟩, (fun i hi => by rw [World.size_alloc]; exact hi.2), hk⟩, (fun i hi => hi.1), hb.alloc hb.size _⟩
  have := ho.lt k e
  exact ⟨by omega, this.1, by omega⟩
section
variable {w : World} {g : Nat} {F : Nat → Prop} {D : Fr}
set_option maxRecDepth 100000 in
set_option maxHeartbeats 4000000 in
theorem copyFr_calls (h : FrAt w g F D) : Calls Try.prog 37 #[.pointer (some ⟨g, 0, none⟩)] w fun e w' => FreshR w w' D e := by
  obtain ⟨A, c, c0, c1, c2, fz, ho, hr, hc, hv, hb⟩ := h.cells
  have hgl := h.glt
  have hok := Lib.hid h.okD
  have hr := Lib.hid hr
  have hll := h.okD.len
  have hlen : Hid (D.l.length ≤ 1000000000) := by show _ ≤ _; omega
  have hC : Hid (∀ W, Below w.heap.size w W → W.cell? ⟨g, 0, none⟩ = some (.int .i64 D.lo) ∧ W.cell? ⟨g, 1, none⟩ = some (.int .i64 D.n) ∧ W.cell? ⟨g, 2, none⟩ = some (.slice A D.l.length c)) := fun W hW => ⟨(hW.cell (by exact hgl)).trans c0, (hW.cell (by exact hgl)).trans c1, (hW.cell (by exact hgl)).trans c2⟩
  have hb0 : Hid (Below w.heap.size w w.drew) := (Below.refl _ w).drew
  clear h c0 c1 c2 fz ho hv hb
  go_enter Try.func37, Try.ntmps37
  go_wp2_with fail
  refine wp_region_noPanic ?_
  refine wp_region_held_drew (S := fun W => Hid (Below w.heap.size w W)) (by kernel_rfl) (hb0) (fun hHeld => ?_)
  refine wpAnyH_take (i := 0) (oi := ⟨some 5, _, _, _, _, _⟩) (v := ?_) rfl (by kernel_rfl) (by kernel_rfl) (by kernel_rfl) (fun _ _ _ h => h) (Or.inl ⟨by rfl, ?_⟩) (by assumption) ?_
  rotate_left
  · (intro w hSw; (try dsimp only at hSw); obtain ⟨y0, y1, y2⟩ := hC.out _ hSw.out; (go_simp <;> with_reducible rfl))
  try simp only [Act.put, List.setIfInBounds_toArray, List.set_cons_zero, List.set_cons_succ]
  refine wpAnyH_take (i := 1) (oi := ⟨some 6, _, _, _, _, _⟩) (v := ?_) rfl (by kernel_rfl) (by kernel_rfl) (by kernel_rfl) (fun _ _ _ h => h) (Or.inl ⟨by rfl, ?_⟩) (by assumption) ?_
  rotate_left
  · (intro w hSw; (try dsimp only at hSw); obtain ⟨y0, y1, y2⟩ := hC.out _ hSw.out; (go_simp <;> with_reducible rfl))
  try simp only [Act.put, List.setIfInBounds_toArray, List.set_cons_zero, List.set_cons_succ]
  refine wpAnyH_take (i := 2) (oi := ⟨some 7, _, _, _, _, _⟩) (v := ?_) rfl (by kernel_rfl) (by kernel_rfl) (by kernel_rfl) (fun _ _ _ h => h) (Or.inl ⟨by rfl, ?_⟩) (by assumption) ?_
  rotate_left
  · (intro w hSw; (try dsimp only at hSw); obtain ⟨y0, y1, y2⟩ := hC.out _ hSw.out; (go_simp <;> with_reducible rfl))
  try simp only [Act.put, List.setIfInBounds_toArray, List.set_cons_zero, List.set_cons_succ]
  refine wpAnyH_take (i := 3) (oi := ⟨some 8, _, _, _, _, _⟩) (v := ?_) rfl (by kernel_rfl) (by kernel_rfl) (by kernel_rfl) (fun _ _ _ h => h) (Or.inl ⟨by rfl, ?_⟩) (by assumption) ?_
  rotate_left
  · (intro w hSw; (try dsimp only at hSw); obtain ⟨y0, y1, y2⟩ := hC.out _ hSw.out; (go_simp <;> with_reducible rfl))
  try simp only [Act.put, List.setIfInBounds_toArray, List.set_cons_zero, List.set_cons_succ]
  refine wpAnyH_take (i := 4) (oi := ⟨some 9, _, _, _, _, _⟩) (v := ?_) rfl (by kernel_rfl) (by kernel_rfl) (by kernel_rfl) (fun _ _ _ h => h) (Or.inl ⟨by rfl, ?_⟩) (by assumption) ?_
  rotate_left
  · (intro w hSw; (try dsimp only at hSw); obtain ⟨y0, y1, y2⟩ := hC.out _ hSw.out; (go_simp <;> with_reducible rfl))
  try simp only [Act.put, List.setIfInBounds_toArray, List.set_cons_zero, List.set_cons_succ]
  refine wpAnyH_take (i := 5) (oi := ⟨some 10, _, _, _, _, _⟩) (v := ?_) rfl (by kernel_rfl) (by kernel_rfl) (by kernel_rfl) (fun _ _ _ h => h) (Or.inl ⟨by rfl, ?_⟩) (by assumption) ?_
  rotate_left
  · (intro w hSw; (try dsimp only at hSw); obtain ⟨y0, y1, y2⟩ := hC.out _ hSw.out; (go_simp <;> with_reducible rfl))
  try simp only [Act.put, List.setIfInBounds_toArray, List.set_cons_zero, List.set_cons_succ]
  refine wpAnyH_take (i := 6) (oi := ⟨some 11, _, _, _, _, _⟩) (v := ?_) rfl (by kernel_rfl) (by kernel_rfl) (by kernel_rfl) (fun _ _ _ h => h) (Or.inl ⟨by rfl, ?_⟩) (by assumption) ?_
  rotate_left
  · (intro w hSw; (try dsimp only at hSw); obtain ⟨y0, y1, y2⟩ := hC.out _ hSw.out; (go_simp <;> with_reducible rfl))
  try simp only [Act.put, List.setIfInBounds_toArray, List.set_cons_zero, List.set_cons_succ]
  refine wpAnyH_take (i := 7) (oi := ⟨some 12, _, _, _, _, _⟩) (v := ?_) rfl (by kernel_rfl) (by kernel_rfl) (by kernel_rfl) (fun _ _ _ h => h) (Or.inl ⟨by rfl, ?_⟩) (by assumption) ?_
  rotate_left
  · (intro w hSw; (try dsimp only at hSw); obtain ⟨y0, y1, y2⟩ := hC.out _ hSw.out; (go_simp <;> with_reducible rfl))
  try simp only [Act.put, List.setIfInBounds_toArray, List.set_cons_zero, List.set_cons_succ]
  refine wpAnyH_take (i := 8) (oi := ⟨some 13, _, _, _, _, _⟩) (v := ?_) rfl (by kernel_rfl) (by kernel_rfl) (by kernel_rfl) (fun _ _ _ h => h) (Or.inl ⟨by rfl, ?_⟩) (by assumption) ?_
  rotate_left
  · (intro w hSw; (try dsimp only at hSw); obtain ⟨y0, y1, y2⟩ := hC.out _ hSw.out; (go_simp <;> with_reducible rfl))
  try simp only [Act.put, List.setIfInBounds_toArray, List.set_cons_zero, List.set_cons_succ]
  refine wpAnyH_take (i := 9) (oi := ⟨some 14, _, _, _, _, _⟩) (v := ?_) rfl (by kernel_rfl) (by kernel_rfl) (by kernel_rfl) (fun _ _ _ h => h) (Or.inl ⟨by rfl, ?_⟩) (by assumption) ?_
  rotate_left
  · (intro w hSw; (try dsimp only at hSw); obtain ⟨y0, y1, y2⟩ := hC.out _ hSw.out; (go_simp <;> with_reducible rfl))
  try simp only [Act.put, List.setIfInBounds_toArray, List.set_cons_zero, List.set_cons_succ]
  refine wpAnyH_take (i := 10) (oi := ⟨some 15, _, _, _, _, _⟩) (v := ?_) rfl (by kernel_rfl) (by kernel_rfl) (by kernel_rfl) (fun _ _ _ h => h) (Or.inl ⟨by rfl, ?_⟩) (by assumption) ?_
  rotate_left
  · (intro w hSw; (try dsimp only at hSw); obtain ⟨y0, y1, y2⟩ := hC.out _ hSw.out; (go_simp <;> with_reducible rfl))
  try simp only [Act.put, List.setIfInBounds_toArray, List.set_cons_zero, List.set_cons_succ]
  refine wpAnyH_take (i := 11) (oi := ⟨some 16, _, _, _, _, _⟩) (v := ?_) rfl (by kernel_rfl) (by kernel_rfl) (by kernel_rfl) (fun _ _ _ h => h) (Or.inl ⟨by rfl, ?_⟩) (by assumption) ?_
  rotate_left
  · (intro w hSw; (try dsimp only at hSw); obtain ⟨y0, y1, y2⟩ := hC.out _ hSw.out; (go_simp <;> with_reducible rfl))
  try simp only [Act.put, List.setIfInBounds_toArray, List.set_cons_zero, List.set_cons_succ]
  refine wpAnyH_ready (rs := [12]) (by kernel_rfl) (by simp) ?_
  refine AllReadyH.cons rfl (fun K hK => ?_) AllReadyH.nil
  go_simp
  go_at_call 69
  refine (cloneSpan_calls _ A c D.l (hr.out.below hb0.out (Nat.le_refl _)) hlen.out).mono ?_
  rintro e w2 ⟨A2, e2, rfl, o2, b2⟩
  have B2 : Hid (Below w.heap.size w w2) := bl_then hb0.out hb0.out.size b2
  have O2 : Hid (Own Span.enc 2 33 w.heap.size w2 _ D.l) := o2.mono (show w.heap.size ≤ w.drew.heap.size from Nat.le_refl _)
  clear o2 b2
  refine hK.out _ _ (by assumption) (fun _ => ?_)
  clear hK K
  try simp only [Act.put, List.setIfInBounds_toArray, List.set_cons_zero, List.set_cons_succ]
  refine wpAnyH_take (i := 13) (oi := ⟨some 18, _, _, _, _, _⟩) (v := ?_) rfl (by kernel_rfl) (by kernel_rfl) (by kernel_rfl) (fun _ _ _ h => h) (Or.inl ⟨by rfl, ?_⟩) (by assumption) ?_
  rotate_left
  · (intro w hSw; (try dsimp only at hSw); obtain ⟨y0, y1, y2⟩ := hC.out _ hSw.out; (go_simp <;> with_reducible rfl))
  try simp only [Act.put, List.setIfInBounds_toArray, List.set_cons_zero, List.set_cons_succ]
  refine wpAnyH_ready (rs := [14]) (by kernel_rfl) (by simp) ?_
  refine AllReadyH.cons rfl (fun K hK => ?_) AllReadyH.nil
  go_simp
  have B3 : Hid (Below w.heap.size w (w2.alloc (.cells #[.int .i64 D.lo, .int .i64 D.n, .slice A2 D.l.length e2] 108))) := B2.out.alloc B2.out.size _
  refine hK.out _ _ (by assumption) (fun _ => ?_)
  clear hK K
  try simp only [Act.put, List.setIfInBounds_toArray, List.set_cons_zero, List.set_cons_succ]
  refine wpAnyH_take (i := 15) (oi := ⟨some 2, _, _, _, _, _⟩) (v := ?_) rfl (by kernel_rfl) (by kernel_rfl) (by kernel_rfl) (fun _ _ _ h => h) (Or.inl ⟨by rfl, ?_⟩) (by assumption) ?_
  rotate_left
  · (intro w hSw; (try dsimp only at hSw); obtain ⟨y0, y1, y2⟩ := hC.out _ hSw.out; (go_simp <;> with_reducible rfl))
  try simp only [Act.put, List.setIfInBounds_toArray, List.set_cons_zero, List.set_cons_succ]
  refine wpAnyH_done (by kernel_rfl) ?_ _
  refine NoPanic.normal ?_
  go_wp2
  go_ret
  exact copyFr_fin hok.out B2.out O2.out
end
/-! ### A pointer that is none -/
section
variable (w : World)
set_option maxRecDepth 100000 in
theorem copyFr_none : Calls Try.prog 37 #[.pointer none] w fun e w' => e = .returned (.pointer none) ∧ w = w' := by
  go_enter Try.func37, Try.ntmps37
  go_wp2
  go_ret
  exact ⟨rfl, rfl⟩
set_option maxRecDepth 100000 in
set_option maxHeartbeats 4000000 in
theorem there_none (s : Span) : Calls Try.prog 65 #[.pointer none, .agg #[.int .i64 s.start, .int .i64 s.pages]] w fun e w' => e = .returned (.bool false) ∧ Below w.heap.size w w' := by
  have hfin : ∀ q : Nat, Hid (Below w.heap.size w ((w.alloc (.cells #[.int .i64 s.start, .int .i64 s.pages] 33)).drewN q)) := fun q => bl_drewN (bl_alloc (Below.refl _ w) _) q
  go_enter Try.func65, Try.ntmps65
  go_wp2
  go_quiet (fail)
  go_wp2
  go_ret
  exact ⟨rfl, (hfin _).out⟩
set_option maxRecDepth 100000 in
theorem fhas_none (s : Span) : Calls Try.prog 58 #[.pointer none, .agg #[.int .i64 s.start, .int .i64 s.pages]] w fun e w' => e = .returned (.bool false) ∧ Below w.heap.size w w' := by
  go_enter Try.func58, Try.ntmps58
  go_wp2_with fail
  refine (there_none _ s).mono ?_
  rintro e w1 ⟨rfl, b1⟩
  have B1 := Lib.hid (bl_then (bl_alloc (Below.refl _ w) _) (bl_alloc (Below.refl _ w) _).size b1)
  clear b1
  go_wp2
  go_ret
  exact ⟨rfl, B1.out⟩
set_option maxRecDepth 100000 in
theorem take_none (n : Int) : Calls Try.prog 63 #[.pointer none, .int .i64 n] w fun e w' => e = .returned (.tuple #[.int .i64 0, .bool false]) ∧ w = w' := by
  go_enter Try.func63, Try.ntmps63
  go_wp2
  go_ret2
  exact ⟨rfl, rfl⟩
set_option maxRecDepth 100000 in
theorem claim_none (s : Span) : Calls Try.prog 32 #[.pointer none, .agg #[.int .i64 s.start, .int .i64 s.pages]] w fun e w' => e = .returned (.bool false) ∧ Below w.heap.size w w' := by
  go_enter Try.func32, Try.ntmps32
  go_wp2_with fail
  refine (fhas_none _ s).mono ?_
  rintro e w1 ⟨rfl, b1⟩
  have B1 := Lib.hid (bl_then (bl_alloc (Below.refl _ w) _) (bl_alloc (Below.refl _ w) _).size b1)
  clear b1
  go_wp2
  go_ret
  exact ⟨rfl, B1.out⟩
set_option maxRecDepth 100000 in
theorem give_none (s : Span) : Calls Try.prog 36 #[.pointer none, .agg #[.int .i64 s.start, .int .i64 s.pages]] w fun e w' => e = .returned (.bool false) ∧ Below w.heap.size w w' := by
  go_enter Try.func36, Try.ntmps36
  go_wp2_with fail
  refine (there_none _ s).mono ?_
  rintro e w1 ⟨rfl, b1⟩
  have B1 := Lib.hid (bl_then (bl_alloc (Below.refl _ w) _) (bl_alloc (Below.refl _ w) _).size b1)
  clear b1
  go_wp2
  go_ret
  exact ⟨rfl, B1.out⟩
end
end Go.Proofs.Ytikgplhcadomcaa

namespace Go.Proofs.Ytikgplhcadomcaa
open Go.RowKit
set_option linter.unusedVariables false
set_option linter.unusedSimpArgs false

section
variable {D : Fr} {s : Span}
theorem Fr.has_iff (h : D.Ok) : D.has s = true ↔ D.there s = true ∧ ∀ j, s.start ≤ j → j < s.start + s.pages → inL D.l j := by
  unfold Fr.has
  rw [Bool.and_eq_true]
  refine and_congr_right fun ht => ?_
  simp only [Fr.there, decide_eq_true_eq] at ht
  rw [decide_eq_true_eq, ← within_iff s ht.1 h.norm]
  constructor
  · intro hp
    obtain ⟨i, r, e, hr, hw, _⟩ := place_some (p := within s) (l := D.l) (by omega)
    exact ⟨r, List.mem_of_getElem? hr, hw⟩
  · rintro ⟨r, hr, hw⟩
    rcases Int.lt_or_le (place (within s) D.l) 0 with q | q
    · rw [place_neg.1 q r hr] at hw; cases hw
    · exact q
theorem Fr.free_iff (h : D.Ok) : D.free s = true ↔ D.there s = true ∧ ∀ j, s.start ≤ j → j < s.start + s.pages → ¬ inL D.l j := by
  unfold Fr.free
  rw [Bool.and_eq_true]
  refine and_congr_right fun ht => ?_
  simp only [Fr.there, decide_eq_true_eq] at ht
  rw [decide_eq_true_eq, place_neg, meets_iff s ht.1 h.norm]
theorem Fr.give_yes (h : D.Ok) (hf : D.free s = true) : (D.give s).1 = true ∧ (D.give s).2.lo = D.lo ∧ (D.give s).2.n = D.n ∧ ∀ j, inL (D.give s).2.l j ↔ inL D.l j ∨ (s.start ≤ j ∧ j < s.start + s.pages) := by
  have e : D.give s = (true, { D with l := giveL D.l s }) := by unfold Fr.give; rw [if_pos hf]
  have hf2 := hf
  simp only [Fr.free, Bool.and_eq_true, decide_eq_true_eq, Fr.there] at hf2
  rw [e]
  exact ⟨rfl, rfl, rfl, (give_norm h.norm hf2.1.1 hf2.1.2.1 (by omega) (place_neg.1 hf2.2)).2⟩
theorem Fr.give_no (hf : ¬ D.free s = true) : D.give s = (false, D) := by unfold Fr.give; rw [if_neg hf]
theorem Fr.claim_yes (h : D.Ok) (hf : D.has s = true) : (D.claim s).1 = true ∧ (D.claim s).2.lo = D.lo ∧ (D.claim s).2.n = D.n ∧ ∀ j, inL (D.claim s).2.l j ↔ inL D.l j ∧ ¬ (s.start ≤ j ∧ j < s.start + s.pages) := by
  have hf2 := hf
  simp only [Fr.has, Bool.and_eq_true, decide_eq_true_eq, Fr.there] at hf2
  obtain ⟨i, r, e, hr, hw, _⟩ := place_some (p := within s) (l := D.l) (by omega)
  have e2 : D.claim s = (true, { D with l := cutL D.l i s }) := by unfold Fr.claim; rw [if_pos hf, e]; rfl
  rw [e2]
  exact ⟨rfl, rfl, rfl, fun j => cut_in hf2.1.1 hw j i h.norm hr⟩
theorem Fr.claim_no (hf : ¬ D.has s = true) : D.claim s = (false, D) := by unfold Fr.claim; rw [if_neg hf]
/-- What was taken: free before, not behind; the first that there is. -/
theorem Fr.take_yes (h : D.Ok) {n : Int} (hy : (D.take n).1.2 = true) : 1 ≤ n ∧ D.there ⟨(D.take n).1.1, n⟩ = true ∧ (∀ j, (D.take n).1.1 ≤ j → j < (D.take n).1.1 + n → inL D.l j) ∧ (D.take n).2.lo = D.lo ∧ (D.take n).2.n = D.n ∧
    (∀ j, inL (D.take n).2.l j ↔ inL D.l j ∧ ¬ ((D.take n).1.1 ≤ j ∧ j < (D.take n).1.1 + n)) ∧ ∀ a, a < (D.take n).1.1 → ¬ ∀ j, a ≤ j → j < a + n → inL D.l j := by
  have hn : ¬ n < 1 := fun e => by unfold Fr.take at hy; rw [if_pos e] at hy; cases hy
  have hp : ¬ place (room ⟨0, n⟩) D.l < 0 := fun e => by unfold Fr.take at hy; rw [if_neg hn, if_pos e] at hy; cases hy
  obtain ⟨i, r, e, hr, hw, hbefore⟩ := place_some hp
  have hg : D.l.getD i default = r := by rw [List.getD_eq_getElem?_getD, hr]; rfl
  have et : D.take n = ((r.start, true), { D with l := cutL D.l i ⟨r.start, n⟩ }) := by
    unfold Fr.take
    rw [if_neg hn, if_neg hp, e]
    simp only [Int.toNat_natCast, hg]
  have hrm := h.norm.mem r (List.mem_of_getElem? hr)
  simp only [room, decide_eq_true_eq] at hw
  have hwr : within ⟨r.start, n⟩ r = true := by simp only [within, decide_eq_true_eq]; omega
  rw [et]
  refine ⟨by omega, ?_, fun j j1 j2 => inL_mem.2 ⟨r, List.mem_of_getElem? hr, j1, by dsimp only at j2; omega⟩, rfl, rfl, fun j => cut_in (s := ⟨r.start, n⟩) (by show 1 ≤ n; omega) hwr j i h.norm hr, fun a ha hall => ?_⟩
  · simp only [Fr.there, decide_eq_true_eq]; omega
  · obtain ⟨x, hx, hxw⟩ := (within_iff ⟨a, n⟩ (by show 1 ≤ n; omega) h.norm).2 hall
    obtain ⟨k, hk⟩ := List.mem_iff_getElem?.1 hx
    simp only [within, decide_eq_true_eq] at hxw
    dsimp only at ha
    have hki : ¬ k < i := fun q => by
      have := hbefore k x q hk
      simp only [room, decide_eq_false_iff_not] at this
      omega
    have hle := norm_le h.norm hr hk (by omega)
    omega
where
  norm_le {n : Int} : ∀ {l : List Span} {lo : Int} {i k : Nat} {r x : Span}, Norm lo n l → l[i]? = some r → l[k]? = some x → i ≤ k → r.start ≤ x.start
    | [], _, i, k, r, x, _, hr, _, _ => by simp at hr
    | y :: l, lo, 0, 0, r, x, _, hr, hx, _ => by simp at hr hx; subst hr; subst hx; exact Int.le_refl _
    | y :: l, lo, 0, k + 1, r, x, ⟨h1, h2, h3, h4⟩, hr, hx, _ => by
      simp at hr hx
      subst hr
      have := h4.mem x (List.mem_of_getElem? hx)
      omega
    | y :: l, lo, i + 1, 0, r, x, _, _, _, hik => by omega
    | y :: l, lo, i + 1, k + 1, r, x, ⟨h1, h2, h3, h4⟩, hr, hx, hik => norm_le h4 (by simpa using hr) (by simpa using hx) (by omega)
theorem Fr.take_no (h : D.Ok) {n : Int} (hy : ¬ (D.take n).1.2 = true) : D.take n = ((0, false), D) ∧ (n < 1 ∨ ∀ r ∈ D.l, r.pages < n) := by
  by_cases hn : n < 1
  · exact ⟨by unfold Fr.take; rw [if_pos hn], .inl hn⟩
  · by_cases hp : place (room ⟨0, n⟩) D.l < 0
    · refine ⟨by unfold Fr.take; rw [if_neg hn, if_pos hp], .inr fun r hr => ?_⟩
      have := place_neg.1 hp r hr
      simp only [room, decide_eq_false_iff_not] at this
      omega
    · exact absurd (by unfold Fr.take; rw [if_neg hn, if_neg hp]) hy
end
theorem maxL_le (l : List Span) : ∀ (a : Int), a ≤ l.foldl (fun a x => max a x.pages) a ∧ ∀ r ∈ l, r.pages ≤ l.foldl (fun a x => max a x.pages) a := by
  induction l with
  | nil => exact fun a => ⟨Int.le_refl _, fun r hr => by cases hr⟩
  | cons x l ih =>
    intro a
    have := ih (max a x.pages)
    refine ⟨by have := this.1; simp only [List.foldl_cons]; omega, fun r hr => ?_⟩
    rcases List.mem_cons.1 hr with rfl | hr
    · have := this.1; simp only [List.foldl_cons]; omega
    · exact this.2 r hr
theorem maxL_lt {n : Int} : ∀ (l : List Span) (a : Int), a < n → (∀ r ∈ l, r.pages < n) → l.foldl (fun a x => max a x.pages) a < n
  | [], a, ha, _ => ha
  | x :: l, a, ha, h => maxL_lt l (max a x.pages) (by have := h x List.mem_cons_self; omega) (fun r hr => h r (List.mem_cons_of_mem _ hr))

/-! ### The set as a law holds it -/
/-- The set at g, in blocks from W1 on. -/
def FrB (W1 wr : World) (g : Nat) (D : Fr) : Prop := ∃ F, FrAt wr g F D ∧ (∀ i, F i → W1.heap.size ≤ i) ∧ Below W1.heap.size W1 wr
section
variable {W1 wr w3 : World} {g : Nat} {D D' : Fr} {F : Nat → Prop}
theorem FrB.of_did (h2 : ∀ i, F i → W1.heap.size ≤ i) (h3 : Below W1.heap.size W1 wr) (k : FrDid F wr w3 g D') : FrB W1 w3 g D' := by
  obtain ⟨F', k1, k2, k3⟩ := k
  exact ⟨F', k1, fun i hi => (k3 i hi).elim (h2 i) (fun a => Nat.le_trans h3.size a), h3.trans (k2.below h3.size h2)⟩
theorem FrB.below (h : FrB W1 wr g D) (hb : Below wr.heap.size wr w3) : FrB W1 w3 g D := by
  obtain ⟨F, h1, h2, h3⟩ := h
  exact ⟨F, h1.below hb, h2, bl_then h3 h3.size hb⟩
theorem FrB.bl (h : FrB W1 wr g D) : Below W1.heap.size W1 wr := by obtain ⟨F, h1, h2, h3⟩ := h; exact h3
theorem FrB.okD (h : FrB W1 wr g D) : D.Ok := by obtain ⟨F, h1, h2, h3⟩ := h; exact h1.okD
theorem frB_new (h : Below W1.heap.size W1 wr) (f n : Int) (hf : -9223372036854775808 ≤ f ∧ f ≤ 9223372036854775807) (hn : -9223372036854775808 ≤ n ∧ n ≤ 9223372036854775807) :
    Calls Try.prog 30 #[.int .i64 f, .int .i64 n] wr fun e w' => ∃ g, e = .returned (.pointer (some ⟨g, 0, none⟩)) ∧ FrB W1 w' g (Fr.new f n) :=
  (newFr_calls wr f n hf hn).mono fun e w' hh => by
    obtain ⟨g, F, e1, h1, h2, h3⟩ := hh
    exact ⟨g, e1, F, h1, fun i hi => Nat.le_trans h.size (h2 i hi), bl_then h h.size h3⟩
theorem frB_take (h : FrB W1 wr g D) (n : Int) : Calls Try.prog 63 #[.pointer (some ⟨g, 0, none⟩), .int .i64 n] wr fun e w' => e = .returned (.tuple #[.int .i64 (D.take n).1.1, .bool (D.take n).1.2]) ∧ FrB W1 w' g (D.take n).2 := by
  obtain ⟨F, h1, h2, h3⟩ := h
  exact (take_calls h1 n).mono fun e w' hh => ⟨hh.1, FrB.of_did h2 h3 hh.2⟩
theorem frB_claim (h : FrB W1 wr g D) (s : Span) : Calls Try.prog 32 #[.pointer (some ⟨g, 0, none⟩), .agg #[.int .i64 s.start, .int .i64 s.pages]] wr fun e w' => e = .returned (.bool (D.claim s).1) ∧ FrB W1 w' g (D.claim s).2 := by
  obtain ⟨F, h1, h2, h3⟩ := h
  exact (claim_calls h1 s).mono fun e w' hh => ⟨hh.1, FrB.of_did h2 h3 hh.2⟩
theorem frB_give (h : FrB W1 wr g D) (s : Span) : Calls Try.prog 36 #[.pointer (some ⟨g, 0, none⟩), .agg #[.int .i64 s.start, .int .i64 s.pages]] wr fun e w' => e = .returned (.bool (D.give s).1) ∧ FrB W1 w' g (D.give s).2 := by
  obtain ⟨F, h1, h2, h3⟩ := h
  exact (give_calls h1 s).mono fun e w' hh => ⟨hh.1, FrB.of_did h2 h3 hh.2⟩
theorem frB_has (h : FrB W1 wr g D) (s : Span) : Calls Try.prog 58 #[.pointer (some ⟨g, 0, none⟩), .agg #[.int .i64 s.start, .int .i64 s.pages]] wr fun e w' => e = .returned (.bool (D.has s)) ∧ Below wr.heap.size wr w' := by obtain ⟨F, h1, h2, h3⟩ := h; exact fhas_calls h1 s
theorem frB_count (h : FrB W1 wr g D) : Calls Try.prog 15 #[.pointer (some ⟨g, 0, none⟩)] wr fun e w' => e = .returned (.int .i64 (cntW D.l)) ∧ Below wr.heap.size wr w' := by obtain ⟨F, h1, h2, h3⟩ := h; exact count_of _ _ (tells_set h1)
end
theorem eqSpan (d : Nat) (w : World) (x y : Span) : (Op.equalIn (d + 2) 33 (.agg #[.int .i64 x.start, .int .i64 x.pages]) (.agg #[.int .i64 y.start, .int .i64 y.pages])).run Try.prog w = .ok (decide (x = y)) w := by
  have e : decide (x = y) = (x.start == y.start && (x.pages == y.pages && true)) := by
    cases x; cases y; simp [Bool.beq_eq_decide_eq]
  rw [e]
  refine eq_struct Try.underlying33 (by kernel_rfl) ?_
  refine eqf_more (by decide) (by go_simp; rfl) (by go_simp; rfl) (by go_simp) ?_
  refine eqf_more (by decide) (by go_simp; rfl) (by go_simp; rfl) (by go_simp) ?_
  exact eqf_none
attribute [local go_sem high] eqSpan
end Go.Proofs.Ytikgplhcadomcaa

namespace Go.Proofs.Ytikgplhcadomcaa
open Go.RowKit Go.ChangeShapes Go.WideShapes Go.Deep
set_option linter.unusedVariables false
set_option linter.unusedSimpArgs false

def intEnc (x : Int) : List Value := [.int .i64 x]
theorem intOk : Enc intEnc 1 := ⟨fun _ => rfl, fun x u hu => by simp [intEnc] at hu; subst hu; rfl, by omega⟩
/-- A row of numbers. -/
def Ints (W : World) (v : Value) (l : List Int) : Prop := ∃ A c, v = .slice A l.length c ∧ l.length ≤ c ∧ c ≤ 9223372036854775807 ∧ Rd intEnc 1 W A l
def SpanV (v : Value) (s : Span) : Prop := v = .agg #[.int .i64 s.start, .int .i64 s.pages]
/-- What is done with a set. -/
structure EDeed where
  kind : Int
  s : Span
def EDeed.enc (x : EDeed) : List Value := [.int .i64 x.kind, .int .i64 x.s.start, .int .i64 x.s.pages]
theorem EDeed.ok : Enc EDeed.enc 3 := ⟨fun _ => rfl, fun x u hu => by
  simp only [EDeed.enc, List.mem_cons, List.not_mem_nil, or_false] at hu
  rcases hu with rfl | rfl | rfl <;> rfl, by omega⟩
def EDeeds (W : World) (v : Value) (l : List EDeed) : Prop := ∃ A c, v = .slice A l.length c ∧ l.length ≤ c ∧ c ≤ 9223372036854775807 ∧ Rd EDeed.enc 3 W A l
section
variable {H : Type} {he : TypeId × Value → H} {W : World} {base : Nat} {spare : Nat → Bool} {held : Bool}
theorem dec_in (fuel : Nat) (cs : List Value) (y : DataW H × List MemPlace) (hl : cs.length = 1) (h : DataW.trod he Try.prog W base spare held fuel 3 cs = some y) : ∃ x : Int, cs = intEnc x ∧ True := by
  match cs, hl with
  | [c], _ =>
    obtain ⟨n, rfl, _⟩ := dec_int h
    exact ⟨n, rfl, trivial⟩
set_option maxRecDepth 100000 in
theorem dec_span {fuel : Nat} {a b : Value} {y : DataW H × List MemPlace} (h : DataW.trod he Try.prog W base spare held fuel 33 [a, b] = some y) : ∃ s : Span, a = .int .i64 s.start ∧ b = .int .i64 s.pages := by
  obtain ⟨n0, y0, h0⟩ := open_field Try.underlying33 h 0 _ rfl
  obtain ⟨n1, y1, h1⟩ := open_field Try.underlying33 h 1 _ rfl
  obtain ⟨s0, rfl, _⟩ := dec_int h0
  obtain ⟨s1, rfl, _⟩ := dec_int h1
  exact ⟨⟨s0, s1⟩, rfl, rfl⟩
set_option maxRecDepth 100000 in
theorem open_span {r : Reach} {b0 : Nat} {v : Value} {d : DataW H} {ps : List MemPlace} (hv : Value.okWide Try.prog W r b0 33 v) (h : DataW.Trod he Try.prog W base spare held 33 v d ps) : ∃ s, SpanV v s := by
  obtain ⟨cs, rfl, hcs⟩ := okWide_struct Try.underlying33 hv
  obtain ⟨fuel, hf⟩ := h
  have e2 : Try.prog.cellsOf 33 = 2 := by kernel_rfl
  obtain ⟨a, b, hl⟩ := list2 (l := cs.toList) (by rw [Array.length_toList, hcs, e2])
  have hf' : DataW.trod he Try.prog W base spare held fuel 33 [a, b] = some (d, ps) := by rw [← hl]; simpa [Value.cells] using hf
  obtain ⟨s, rfl, rfl⟩ := dec_span hf'
  have : cs = #[.int .i64 s.start, .int .i64 s.pages] := Array.ext' hl
  subst this
  exact ⟨s, rfl⟩
end
end Go.Proofs.Ytikgplhcadomcaa
