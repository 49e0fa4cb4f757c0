/- extent.Free: Count, Largest; the law's rows. -/
import Derived.Test.YtglpckdmiohciaaExtA
namespace Go.Proofs.Ytglpckdmiohciaa
open Go.RowKit Go.Shelf
set_option linter.unusedVariables false
set_option linter.unusedSimpArgs false
attribute [local go_sem] Oper.semAt_some

/-- A pointer whose rows are told as l: a set, or none. -/
def Tells (w : World) (A : Option Addr) (l : List Span) : Prop := ∀ (W : World) (Bs : Nat) (X : World → Nat → Prop), Below w.heap.size w W → W.cell? ⟨Bs, 0, none⟩ = some (.pointer A) → Bs < W.heap.size → Steady W.heap.size X → (∀ W', Below W.heap.size W W' → ∀ k, X W' k → k < W'.heap.size) →
  SeqStopsK Fence.wide 2 Try.prog 107 #[.pointer (some ⟨Bs, 0, none⟩)] spanA (KeptX X) (fun ys => ys = l) (fun pre => pre = l.take pre.length) l.length W
theorem tells_set {w : World} {g : Nat} {F : Nat → Prop} {D : Fr} (h : FrAt w g F D) : Tells w (some ⟨g, 0, none⟩) D.l := fun W Bs X hW hB hl hS hX => spans_stop 2 (by omega) X Bs W hS hX hB hl (h.below hW)
theorem tells_none (w : World) : Tells w none [] := fun W Bs X hW hB hl _ hX => spans_stop_none 2 (by omega) X Bs W hB hl
def cntW (l : List Span) : Int := l.foldl (fun a x => wrap64 (a + x.pages)) 0
def maxL (l : List Span) : Int := l.foldl (fun a x => max a x.pages) 0
theorem blk_ownS {β : Type} (B b : Nat) (c : β → Array Value) (t : TypeId) : OwnFrom B (fun (s : β) W => W.heap[b]? = some (.cells (c s) t (0, 0))) := fun s X Y row hs hg hrow =>
  (hg.block b (blk_lt hs) (fun e => by
    obtain ⟨_, o, ho, hc⟩ := hrow b e.symm
    rw [hs] at ho
    cases ho
    cases hc)).trans hs
theorem KeptX.one {b : Nat} {W : World} {v : Value} {g i : Nat} (e : g = b) : KeptX (fun _ k => k = b) W (W.setCell ⟨g, i, none⟩ v) :=
  ⟨by simp [World.setCell], fun k cs t fr hx h => by rw [Below.heap_setCell _ _ _ _ (fun q => hx (by rw [q]; exact e))]; exact h, fun _ h => .inl h⟩
/-- A variable that the loop captures. -/
def CapI (w w' : World) (t : TypeId) (v : List Span → Value) (pre : List Span) (W : World) : Prop := W.heap[w.heap.size]? = some (.cells #[v pre] t (0, 0)) ∧ Below w.heap.size w' W
theorem capI_own {w w' : World} (t : TypeId) (v : List Span → Value) (h : w.heap.size ≤ w'.heap.size) : OwnFrom w'.heap.size (CapI w w' t v) := OwnFrom.and (blk_ownS _ _ (fun s => #[v s]) t) (ownFrom_below h h)
/-- A row that the loop captures. -/
def CapR (w w' : World) (pre : List Span) (W : World) : Prop := ∃ v, W.heap[w.heap.size]? = some (.cells #[v] 85 (0, 0)) ∧ Own Span.enc 2 90 (w.heap.size + 1) W v pre ∧ v.ownBlock ≠ some w.heap.size ∧ Below w.heap.size w' W
theorem capR_own {w w' : World} (h : w.heap.size ≤ w'.heap.size) : OwnFrom w'.heap.size (CapR w w') := fun s X Y row hs hg hr => by
  obtain ⟨v, a, b, c, d⟩ := hs
  refine ⟨v, blk_ownS w'.heap.size w.heap.size (fun (_ : Unit) => #[v]) _ () X Y row a hg hr, b.kept hg ?_, c, ownFrom_below (β := Unit) h h () X Y row d hg hr⟩
  rcases hq : v.ownBlock with _ | k
  · exact .inl rfl
  · refine .inr (fun e => ?_)
    obtain ⟨_, o, ho, hc⟩ := hr k e.symm
    rcases b.2 with ⟨e0, _⟩ | ⟨g', cap, cur, e0, _, hh, _⟩
    · rw [e0] at hq; cases hq
    · rw [e0] at hq
      cases hq
      rw [hh] at ho
      cases ho
      cases hc
/-- append(v, y), inside a fence. -/
theorem opIn_own {α : Type} {enc : α → List Value} {sz : Nat} {F : Fence} {n : Nat} {P : Program} (he : Enc enc sz) {ops : Array Oper} {rest : List Oper} {o : Oper} {a : Act} {W : World} {Q : Exit → Act → World → Prop} (hgd : o.guard = none) (s x : Operand) (t e : TypeId) (z : Value) (bytes : Nat)
    (hop : o.op = .call { callee := .builtin .append, args := #[s, x], argTypes := #[t, t] }) (ht : P.underlying t = some (.slice e))
    (hinfo : (P.info? e).map (fun i => (i.zero, i.size, i.bytes)) = some (some z, sz, bytes)) (hz : z.cells.size = sz)
    (base : Nat) (v : Value) (xs : List α) (y : α) (g0 : Nat) (cs : Array Value) (fr : Nat × Nat) (hg0 : W.heap[g0]? = some (.cells cs e fr)) (hcs : cs.toList = enc y) (hs : a.eval s = v) (hx : a.eval x = .slice (some ⟨g0, 0, none⟩) 1 1)
    (HO : Own enc sz e base W v xs) (hbase : base ≤ W.heap.size) (hl : (xs.length + 1) * bytes ≤ 140737488355328) (hl' : xs.length + 1 ≤ 140737488355328)
    (h : ∀ g cap w', Own enc sz e base w' (.slice (some ⟨g, 0, none⟩) (xs.length + 1) cap) (xs ++ [y]) → W.grownBy w' v.ownBlock → (v.ownBlock = some g ∨ W.heap.size ≤ g) → g < w'.heap.size → wpListIn F n P ops Q rest (a.put o.dst (.slice (some ⟨g, 0, none⟩) (xs.length + 1) cap)) w') :
    wpListIn F n P ops Q (o :: rest) a W := by
  obtain ⟨i0, hi, hz0, hz1, hz2⟩ := info_parts hinfo
  obtain ⟨g, cap, w', hr, h2, h3, h4, h5⟩ := run_append_lies (P := P) W t o.type base e i0 z sz bytes ht hi hz0 hz1 hz2 hz he.pos v xs.length (xs.flatMap enc) HO ⟨g0, 0, none⟩ 1 1 (enc y) (by rw [he.len]; simp)
    (by rw [← hcs]; exact World.news_of_block hg0) (he.one y) (by omega) (by simp only [maxLen]; omega) hl hbase W.heap.size rfl
  refine wpListIn_plain hgd fun K hK' => ?_
  unfold Oper.wpIn
  refine ⟨?_, ?_⟩
  · simp [Oper.about, hop, resolve, Target.leads, Sem.run_pure]
  · rw [Oper.semAt_plain F _ _ (by rw [hop]; intro c hc'; cases hc')]
    simp [execOp, hop, resolve, invoke, builtin, hs, hx, hr, Result.andThen]
    exact hK' _ _ (h g cap w' (by simpa [Own] using h2) h3 (h4.imp_right (fun e => by omega)) h5)
/-- What rows may change: its variable, and the row that this holds. -/
def XR (w : World) (W : World) (k : Nat) : Prop := k = w.heap.size ∨ ∃ v, W.cell? ⟨w.heap.size, 0, none⟩ = some v ∧ v.ownBlock = some k
theorem xr_steady {w : World} {n₀ : Nat} (h : w.heap.size < n₀) : Steady n₀ (XR w) := fun W W' _ hb i hi => by
  rcases hi with hi | ⟨v, h1, h2⟩
  · exact .inl hi
  · exact .inr ⟨v, (hb.cell (p := ⟨w.heap.size, 0, none⟩) h).symm.trans h1, h2⟩
theorem capR_keep {w W w7 : World} {v v8 : Value} {o : Obj} (hp : W.heap[w.heap.size]? = some (.cells #[v] 85 (0, 0))) (hv : v.ownBlock ≠ some w.heap.size) (hg : (W.alloc o).grownBy w7 v.ownBlock) (h8 : ∀ k, v8.ownBlock = some k → v.ownBlock = some k ∨ W.heap.size ≤ k) :
    KeptX (XR w) W (w7.setCell ⟨w.heap.size, 0, none⟩ v8) := by
  have hc : W.cell? ⟨w.heap.size, 0, none⟩ = some v := by rw [blk_cell hp]; rfl
  have hlt := blk_lt hp
  have hsz := hg.size
  rw [World.size_alloc] at hsz
  have h7 : w7.heap[w.heap.size]? = some (.cells #[v] 85 (0, 0)) := by rw [hg.block _ (by rw [World.size_alloc]; omega) (fun e => hv e.symm)]; exact blk_alloc hp o
  refine ⟨by simp [World.setCell]; omega, fun i cs t fr hx e => ?_, fun i hi => ?_⟩
  · have hi := blk_lt e
    rw [Below.heap_setCell _ _ _ _ (fun q => hx (.inl q)), hg.block _ (by rw [World.size_alloc]; omega) (fun q => hx (.inr ⟨v, hc, q.symm⟩))]
    exact blk_alloc e o
  · rcases hi with hi | ⟨u, h1, h2⟩
    · exact .inl (.inl hi)
    · rw [blk_cell (blk_set h7 0 v8)] at h1
      simp at h1
      subst h1
      rcases h8 i h2 with q | q
      · exact .inl (.inr ⟨v, hc, q⟩)
      · exact .inr q
theorem capR_cell {w W w7 : World} {v : Value} {o : Obj} (hp : W.heap[w.heap.size]? = some (.cells #[v] 85 (0, 0))) (hv : v.ownBlock ≠ some w.heap.size) (hg : (W.alloc o).grownBy w7 v.ownBlock) : w7.cell? ⟨w.heap.size, 0, none⟩ = some v ∧ w7.frozen? ⟨w.heap.size, 0, none⟩ = false := by
  have hlt := blk_lt hp
  have h7 : w7.heap[w.heap.size]? = some (.cells #[v] 85 (0, 0)) := by rw [hg.block _ (by rw [World.size_alloc]; omega) (fun e => hv e.symm)]; exact blk_alloc hp o
  exact ⟨by rw [blk_cell h7]; rfl, blk_free h7 0⟩
theorem capR_fin {w w' W w7 : World} {v v8 : Value} {pre : List Span} {x : Span} {cs : Array Value} {t : TypeId} (hp : W.heap[w.heap.size]? = some (.cells #[v] 85 (0, 0))) (hv : v.ownBlock ≠ some w.heap.size) (hO : Own Span.enc 2 90 (w.heap.size + 1) W v pre) (hB : Below w.heap.size w' W) (hg : (W.alloc (.cells cs t)).grownBy w7 v.ownBlock)
    (ho : Own Span.enc 2 90 (w.heap.size + 1) w7 v8 (pre ++ [x])) (h8 : ∀ k, v8.ownBlock = some k → v.ownBlock = some k ∨ (W.alloc (.cells cs t)).heap.size ≤ k) :
    KeepsOthers W (w7.setCell ⟨w.heap.size, 0, none⟩ v8) ∧ KeptX (XR w) W (w7.setCell ⟨w.heap.size, 0, none⟩ v8) ∧ CapR w w' (pre ++ [x]) (w7.setCell ⟨w.heap.size, 0, none⟩ v8) := by
  have hlt := blk_lt hp
  have h7 : w7.heap[w.heap.size]? = some (.cells #[v] 85 (0, 0)) := by rw [hg.block _ (by rw [World.size_alloc]; omega) (fun e => hv e.symm)]; exact blk_alloc hp _
  have hne : v8.ownBlock ≠ some w.heap.size := fun e => by have := (ho.lt _ e).1; omega
  refine ⟨?_, capR_keep hp hv hg (fun k e => (h8 k e).imp_right (fun q => by rw [World.size_alloc] at q; omega)), v8, blk_set' h7 0 v8 rfl, ho.far (p := ⟨w.heap.size, 0, none⟩) hne v8, hne, ?_⟩
  · refine ((KeepsOthers.alloc W _).trans ⟨hg.size, fun k o hk ho' => ?_⟩).trans (KeepsOthers.of_grownBy (grown_set w7 w.heap.size 0 v8) (fun j o ej ho' => by cases ej; rw [h7] at ho'; cases ho'; rfl))
    by_cases hq : some k = v.ownBlock
    · rcases hO.2 with ⟨e0, _⟩ | ⟨g', cap, cur, e0, _, hh, _⟩
      · rw [e0] at hq; cases hq
      · rw [e0] at hq
        cases hq
        rw [blk_alloc hh] at hk
        cases hk
        cases ho'
    · rw [hg.block k (Array.getElem?_eq_some_iff.1 hk).1 hq]; exact hk
  · exact ((hB.alloc (by omega) (.cells cs t)).grown hg (by rw [World.size_alloc]; omega) (fun k e => by have := (hO.lt k e).1; omega)).setCell (Nat.le_refl _) v8
def RowsR (w w' : World) (l : List Span) (e : Ending) : Prop := ∃ v, e = .returned v ∧ Own Span.enc 2 90 w.heap.size w' v l ∧ Below w.heap.size w w'
theorem run_max_n (m n : Int) (w : World) : (Builtin.max_ #[3, 3] 3 #[.int .i64 n, .int .i64 m]).run Try.prog w = .ok (.int .i64 (max n m)) w := by
  rw [run_max_int2]
  congr 2
  split <;> omega
section
variable {w : World}
set_option maxRecDepth 100000 in
set_option maxHeartbeats 4000000 in
theorem count_of (A : Option Addr) (l : List Span) (hT : Tells w A l) : Calls Try.prog 68 #[.pointer A] w fun e w' => e = .returned (.int .i64 (cntW l)) ∧ Below w.heap.size w w' := by
  refine callsIn_wide (n := 3).1 ?_
  have HT := Lib.hid hT
  clear hT
  have hfn : Fence.wide.fn 69 := trivial
  have hsp := Lib.hid (fun W => callsIn_wide (n := 2).2 (spans_calls A W))
  refine callsIn_of_wp_marks Try.func68 rfl trivial ?_ rfl
  simp only [Try.ntmps68, List.size_toArray, List.length_cons, List.length_nil, Nat.reduceAdd, Nat.reduceSub, Array.replicate_succ, Array.replicate_zero, List.push_toArray, List.append_toArray, List.nil_append, List.cons_append]
  gi_wp2_with (gi_at_call 69; refine (hsp.out _).mono ?_; rintro e w' ⟨rfl, hw'⟩)
  rw [← hw']
  have hb0 : Below w.heap.size w w' := by rw [hw']; exact bl_alloc (bl_alloc (Below.refl _ w) _) _
  have hs0 : w'.heap.size = w.heap.size + 2 := by rw [hw']; simp
  have b0 : w'.heap[w.heap.size]? = some (.cells #[.int .i64 0] 3 (0, 0)) := by rw [hw']; exact blk_alloc (blk_new w _) _
  have b1 : w'.cell? ⟨w.heap.size + 1, 0, none⟩ = some (.pointer A) := by
    have h2 : w'.heap[w.heap.size + 1]? = some (.cells #[.pointer A] 83 (0, 0)) := by
      rw [hw']
      have := blk_new (w.alloc (.cells #[.int .i64 0] 3)) (.cells #[.pointer A] 83)
      rw [World.size_alloc] at this
      exact this
    rw [blk_cell h2]
    rfl
  clear hw'
  refine wpIn_rangeFunc_ownH rfl (by omega) (gf := 107) (lb := #[.pointer (some ⟨w.heap.size + 1, 0, none⟩)]) rfl trivial (enters_of Try.func107 (by kernel_rfl) rfl)
    (HT.out w' (w.heap.size + 1) (fun _ k => k = w.heap.size) hb0 b1 (by omega) (fun _ _ _ _ _ h => h) (fun W hW k hk => by have := hW.size; omega)) (fun a b => KeptX.trans a b) (fun W q o o' h1 h2 h3 _ => KeptX.putObj (n₀ := 0) (fun _ _ _ _ _ h => h) W q o o' (Nat.zero_le _) (Nat.zero_le _) h2 h3) (Below.refl _ _) (fun _ => rfl)
    (CapI w w' 3 (fun pre => .int .i64 (cntW pre))) (fun _ _ _ => False) (capI_own _ _ hb0.size) (fun _ _ _ _ _ hs => hs.elim) ⟨b0, Below.refl _ _⟩
    (fun x a' W => ∃ Bx, w'.heap.size ≤ Bx ∧ W.heap[Bx]? = some (.cells x.cells 90 (0, 0)) ∧ a' = { tmps := #[.pointer A, undef, .int .i64 0, .pointer (some ⟨w.heap.size, 0, none⟩), .pointer (some ⟨Bx, 0, none⟩), .pointer A, .func (.func 107) #[] #[.pointer (some ⟨w.heap.size + 1, 0, none⟩)], .agg #[.int .i64 x.start, .int .i64 x.pages], undef, undef, undef, undef, undef], defers := [] })
    (fun x a' s X Y row hs hg hr => by
      obtain ⟨Bx, e1, e2, e3⟩ := hs
      exact ⟨Bx, e1, blk_ownS w'.heap.size Bx (fun (_ : Unit) => x.cells) _ () X Y row e2 hg hr, e3⟩)
    ?assign ?body ?done ?stop
  case assign =>
    rintro l pre x W K ⟨hp, hB⟩ hK
    unfold spanA
    gi_wp2
    have hsz := hB.size
    exact hK _ _ ((KeepsOthers.alloc _ _).from _) (KeptX.below (n₀ := 0) (fun _ _ _ _ _ h => h) (Nat.zero_le _) (bl_alloc (Below.refl _ W) _)) ⟨blk_alloc hp _, hB.alloc (by omega) _⟩ ⟨W.heap.size, hsz, blk_new W (.cells x.cells 90), rfl⟩
  case body =>
    rintro l pre x a' W hl ⟨r, hr⟩ ⟨hp, hB⟩ ⟨Bx, hBx, bX, rfl⟩ hlt
    obtain ⟨x0, x1⟩ := span_at bX
    have y0 := blk_cell hp 0
    simp at y0
    have f0 := blk_free hp 0
    have HP := Lib.hid hp
    have HB := Lib.hid hB
    have hne : ¬ (Bx = w.heap.size) := by omega
    have hc : Hid (cntW (pre ++ [x]) = wrap64 (cntW pre + x.pages)) := by show _ = _; unfold cntW; rw [List.foldl_append]; rfl
    clear hp hB x0
    generalize cntW pre = cp at *
    gi_wp2
    refine ⟨(KeepsOthers.of_grownBy (grown_set W w.heap.size 0 _) (fun j o ej ho => by cases ej; rw [HP.out] at ho; cases ho; rfl)).from _, KeptX.one rfl, ?_, HB.out.setCell (Nat.le_refl _) _⟩
    show _ = some (Obj.cells #[.int .i64 (cntW (pre ++ [x]))] _ _)
    rw [hc.out]
    exact blk_set' HP.out 0 _ rfl
  case done =>
    rintro Df ys W hD hys ⟨hp, hB⟩ hKd
    have y0 := blk_cell hp 0
    simp at y0
    have HB := Lib.hid hB
    clear hB hp
    subst hys
    gi_wp2
    refine ⟨by simp, .inl ⟨_, _, rfl, run_takeDeferred hKd, ?_⟩⟩
    refine ⟨.int .i64 (cntW ys), by simp [results, Try.results68, go_sem], rfl, (hb0.trans HB.out).grown (grownBy_putObj' W Df (.deferred none)) (hb0.trans HB.out).size (fun k ek => by cases ek; omega)⟩
  case stop =>
    rintro Df code pre W hD hpre h
    exact h.elim
set_option maxRecDepth 100000 in
set_option maxHeartbeats 4000000 in
theorem largest_of (A : Option Addr) (l : List Span) (hT : Tells w A l) : Calls Try.prog 55 #[.pointer A] w fun e w' => e = .returned (.int .i64 (maxL l)) ∧ Below w.heap.size w w' := by
  refine callsIn_wide (n := 3).1 ?_
  have HT := Lib.hid hT
  clear hT
  have hfn : Fence.wide.fn 69 := trivial
  have hsp := Lib.hid (fun W => callsIn_wide (n := 2).2 (spans_calls A W))
  refine callsIn_of_wp_marks Try.func55 rfl trivial ?_ rfl
  simp only [Try.ntmps55, List.size_toArray, List.length_cons, List.length_nil, Nat.reduceAdd, Nat.reduceSub, Array.replicate_succ, Array.replicate_zero, List.push_toArray, List.append_toArray, List.nil_append, List.cons_append]
  gi_wp2_with (gi_at_call 69; refine (hsp.out _).mono ?_; rintro e w' ⟨rfl, hw'⟩)
  rw [← hw']
  have hb0 : Below w.heap.size w w' := by rw [hw']; exact bl_alloc (bl_alloc (Below.refl _ w) _) _
  have hs0 : w'.heap.size = w.heap.size + 2 := by rw [hw']; simp
  have b0 : w'.heap[w.heap.size]? = some (.cells #[.int .i64 0] 3 (0, 0)) := by rw [hw']; exact blk_alloc (blk_new w _) _
  have b1 : w'.cell? ⟨w.heap.size + 1, 0, none⟩ = some (.pointer A) := by
    have h2 : w'.heap[w.heap.size + 1]? = some (.cells #[.pointer A] 83 (0, 0)) := by
      rw [hw']
      have := blk_new (w.alloc (.cells #[.int .i64 0] 3)) (.cells #[.pointer A] 83)
      rw [World.size_alloc] at this
      exact this
    rw [blk_cell h2]
    rfl
  clear hw'
  refine wpIn_rangeFunc_ownH rfl (by omega) (gf := 107) (lb := #[.pointer (some ⟨w.heap.size + 1, 0, none⟩)]) rfl trivial (enters_of Try.func107 (by kernel_rfl) rfl)
    (HT.out w' (w.heap.size + 1) (fun _ k => k = w.heap.size) hb0 b1 (by omega) (fun _ _ _ _ _ h => h) (fun W hW k hk => by have := hW.size; omega)) (fun a b => KeptX.trans a b) (fun W q o o' h1 h2 h3 _ => KeptX.putObj (n₀ := 0) (fun _ _ _ _ _ h => h) W q o o' (Nat.zero_le _) (Nat.zero_le _) h2 h3) (Below.refl _ _) (fun _ => rfl)
    (CapI w w' 3 (fun pre => .int .i64 (maxL pre))) (fun _ _ _ => False) (capI_own _ _ hb0.size) (fun _ _ _ _ _ hs => hs.elim) ⟨b0, Below.refl _ _⟩
    (fun x a' W => ∃ Bx, w'.heap.size ≤ Bx ∧ W.heap[Bx]? = some (.cells x.cells 90 (0, 0)) ∧ a' = { tmps := #[.pointer A, undef, .int .i64 0, .pointer (some ⟨w.heap.size, 0, none⟩), .pointer (some ⟨Bx, 0, none⟩), .pointer A, .func (.func 107) #[] #[.pointer (some ⟨w.heap.size + 1, 0, none⟩)], .agg #[.int .i64 x.start, .int .i64 x.pages], undef, undef, undef, undef, undef], defers := [] })
    (fun x a' s X Y row hs hg hr => by
      obtain ⟨Bx, e1, e2, e3⟩ := hs
      exact ⟨Bx, e1, blk_ownS w'.heap.size Bx (fun (_ : Unit) => x.cells) _ () X Y row e2 hg hr, e3⟩)
    ?assign ?body ?done ?stop
  case assign =>
    rintro l pre x W K ⟨hp, hB⟩ hK
    unfold spanA
    gi_wp2
    have hsz := hB.size
    exact hK _ _ ((KeepsOthers.alloc _ _).from _) (KeptX.below (n₀ := 0) (fun _ _ _ _ _ h => h) (Nat.zero_le _) (bl_alloc (Below.refl _ W) _)) ⟨blk_alloc hp _, hB.alloc (by omega) _⟩ ⟨W.heap.size, hsz, blk_new W (.cells x.cells 90), rfl⟩
  case body =>
    rintro l pre x a' W hl ⟨r, hr⟩ ⟨hp, hB⟩ ⟨Bx, hBx, bX, rfl⟩ hlt
    obtain ⟨x0, x1⟩ := span_at bX
    have y0 := blk_cell hp 0
    simp at y0
    have f0 := blk_free hp 0
    have mx := run_max_n x.pages
    have HP := Lib.hid hp
    have HB := Lib.hid hB
    have hne : ¬ (Bx = w.heap.size) := by omega
    have hc : Hid (maxL (pre ++ [x]) = max (maxL pre) x.pages) := by show _ = _; unfold maxL; rw [List.foldl_append]; rfl
    clear hp hB x0
    generalize maxL pre = cp at *
    gi_wp2
    refine ⟨(KeepsOthers.of_grownBy (grown_set W w.heap.size 0 _) (fun j o ej ho => by cases ej; rw [HP.out] at ho; cases ho; rfl)).from _, KeptX.one rfl, ?_, HB.out.setCell (Nat.le_refl _) _⟩
    show _ = some (Obj.cells #[.int .i64 (maxL (pre ++ [x]))] _ _)
    rw [hc.out]
    exact blk_set' HP.out 0 _ rfl
  case done =>
    rintro Df ys W hD hys ⟨hp, hB⟩ hKd
    have y0 := blk_cell hp 0
    simp at y0
    have HB := Lib.hid hB
    clear hB hp
    subst hys
    gi_wp2
    refine ⟨by simp, .inl ⟨_, _, rfl, run_takeDeferred hKd, ?_⟩⟩
    refine ⟨.int .i64 (maxL ys), by simp [results, Try.results55, go_sem], rfl, (hb0.trans HB.out).grown (grownBy_putObj' W Df (.deferred none)) (hb0.trans HB.out).size (fun k ek => by cases ek; omega)⟩
  case stop =>
    rintro Df code pre W hD hpre h
    exact h.elim
set_option maxRecDepth 100000 in
set_option maxHeartbeats 4000000 in
theorem rows_of (A : Option Addr) (l : List Span) (hT : Tells w A l) (hlen : l.length ≤ 1000000) : Calls Try.prog 53 #[.pointer A] w fun e w' => RowsR w w' l e := by
  refine callsIn_wide (n := 3).1 ?_
  have HT := Lib.hid hT
  clear hT
  have hfn : Fence.wide.fn 69 := trivial
  have hsp := Lib.hid (fun W => callsIn_wide (n := 2).2 (spans_calls A W))
  refine callsIn_of_wp_marks Try.func53 rfl trivial ?_ rfl
  simp only [Try.ntmps53, List.size_toArray, List.length_cons, List.length_nil, Nat.reduceAdd, Nat.reduceSub, Array.replicate_succ, Array.replicate_zero, List.push_toArray, List.append_toArray, List.nil_append, List.cons_append]
  gi_wp2_with (gi_at_call 69; refine (hsp.out _).mono ?_; rintro e w' ⟨rfl, hw'⟩)
  rw [← hw']
  have hb0 : Below w.heap.size w w' := by rw [hw']; exact bl_alloc (bl_alloc (Below.refl _ w) _) _
  have hs0 : w'.heap.size = w.heap.size + 2 := by rw [hw']; simp
  have b0 : w'.heap[w.heap.size]? = some (.cells #[.slice none 0 0] 85 (0, 0)) := by rw [hw']; exact blk_alloc (blk_new w _) _
  have b1 : w'.cell? ⟨w.heap.size + 1, 0, none⟩ = some (.pointer A) := by
    have h2 : w'.heap[w.heap.size + 1]? = some (.cells #[.pointer A] 83 (0, 0)) := by
      rw [hw']
      have := blk_new (w.alloc (.cells #[.slice none 0 0] 85)) (.cells #[.pointer A] 83)
      rw [World.size_alloc] at this
      exact this
    rw [blk_cell h2]
    rfl
  clear hw'
  refine wpIn_rangeFunc_ownH rfl (by omega) (gf := 107) (lb := #[.pointer (some ⟨w.heap.size + 1, 0, none⟩)]) rfl trivial (enters_of Try.func107 (by kernel_rfl) rfl)
    (HT.out w' (w.heap.size + 1) (XR w) hb0 b1 (by omega) (xr_steady (by omega)) (fun W hW k hk => by
      have := hW.size
      rcases hk with hk | ⟨v, h1, h2⟩
      · omega
      · rw [hW.cell (p := ⟨w.heap.size, 0, none⟩) (by show w.heap.size < _; omega), blk_cell b0] at h1
        simp at h1
        subst h1
        cases h2)) (fun a b => KeptX.trans a b) (fun W q o o' h1 h2 h3 _ => KeptX.putObj (n₀ := w'.heap.size) (xr_steady (by omega)) W q o o' h1 (by have := blk_lt h2; omega) h2 h3) (Below.refl _ _) (fun _ => rfl)
    (CapR w w') (fun _ _ _ => False) (capR_own hb0.size) (fun _ _ _ _ _ hs => hs.elim) ⟨.slice none 0 0, b0, Own.nil, by simp [Value.ownBlock], Below.refl _ _⟩
    (fun x a' W => ∃ Bx, w'.heap.size ≤ Bx ∧ W.heap[Bx]? = some (.cells x.cells 90 (0, 0)) ∧ a' = { tmps := #[.pointer A, undef, .slice none 0 0, .pointer (some ⟨w.heap.size, 0, none⟩), .pointer (some ⟨Bx, 0, none⟩), .pointer A, .func (.func 107) #[] #[.pointer (some ⟨w.heap.size + 1, 0, none⟩)], .agg #[.int .i64 x.start, .int .i64 x.pages], undef, undef, undef, undef, undef], defers := [] })
    (fun x a' s X Y row hs hg hr => by
      obtain ⟨Bx, e1, e2, e3⟩ := hs
      exact ⟨Bx, e1, blk_ownS w'.heap.size Bx (fun (_ : Unit) => x.cells) _ () X Y row e2 hg hr, e3⟩)
    ?assign ?body ?done ?stop
  case assign =>
    rintro l pre x W K ⟨v, hp, ho, hv, hB⟩ hK
    unfold spanA
    gi_wp2
    have hsz := hB.size
    exact hK _ _ ((KeepsOthers.alloc _ _).from _) (KeptX.below (n₀ := w'.heap.size) (xr_steady (by omega)) hsz (bl_alloc (Below.refl _ W) _)) ⟨v, blk_alloc hp _, ho.alloc _, hv, hB.alloc (by omega) _⟩ ⟨W.heap.size, hsz, blk_new W (.cells x.cells 90), rfl⟩
  case body =>
    rintro l pre x a' W hl ⟨r, hr⟩ ⟨v, hp, ho, hv, hB⟩ ⟨Bx, hBx, bX, rfl⟩ hlt
    obtain ⟨x0, x1⟩ := span_at bX
    obtain ⟨A7, c7, rfl, hc7, hm7, -, -⟩ := ho.rd Span.ok
    have y0 := blk_cell hp 0
    simp at y0
    have f0 := blk_free hp 0
    have HP := Lib.hid hp
    have HB := Lib.hid hB
    have HO := Lib.hid ho
    have HV := Lib.hid hv
    have hne : ¬ (Bx = w.heap.size) := by omega
    have nn : Hid ([x] ≠ []) := by show _ ≠ _; simp
    have t1 : Hid ((Value.agg #[.int .i64 0, .int .i64 0]).cells.size = 2) := rfl
    have q1 : Hid (pre.length + 1 ≤ 140737488355328) := by show _ ≤ _; omega
    have q2 : Hid ((pre.length + 1) * 16 ≤ 140737488355328) := by show _ ≤ _; omega
    have hz : Hid (w.heap.size + 1 ≤ (W.alloc (.cells #[.int .i64 x.start, .int .i64 x.pages] 90)).heap.size) := by
      have := hB.size
      show _ ≤ _
      simp
      omega
    clear hp hB ho hv
    gi_wp2_with (gi_at_builtin; refine opIn_own Span.ok rfl _ _ _ _ _ _ rfl Try.underlying85 infoSpan t1.out (w.heap.size + 1) (.slice A7 pre.length c7) pre x W.heap.size #[_, _] (0, 0) (blk_new W _) rfl rfl rfl (HO.out.alloc _) hz.out q2.out q1.out ?_; intro g7 cap w7 ho7 hg7 hat7 hlt7; have HF := Lib.hid (capR_fin HP.out HV.out HO.out HB.out hg7 ho7 (fun k e => by cases e; exact hat7)); obtain ⟨kk7, kf7⟩ := (capR_cell HP.out HV.out hg7); clear ho7 hg7 hat7 hlt7)
    obtain ⟨e1, e2, e3⟩ := HF.out
    exact ⟨e1.from _, e2, e3⟩
  case done =>
    rintro Df ys W hD hys ⟨v, hp, ho, hv, hB⟩ hKd
    have y0 := blk_cell hp 0
    simp at y0
    have HB := Lib.hid hB
    have HO := Lib.hid ho
    have HV := Lib.hid hv
    clear hB hp ho hv
    subst hys
    gi_wp2
    refine ⟨by simp, .inl ⟨_, _, rfl, run_takeDeferred hKd, ?_⟩⟩
    refine ⟨v, by simp [results, Try.results53, go_sem], ⟨v, rfl, (HO.out.mono (by omega)).kept (grownBy_putObj' W Df (.deferred none)) ?_, (hb0.trans HB.out).grown (grownBy_putObj' W Df (.deferred none)) (hb0.trans HB.out).size (fun k ek => by cases ek; omega)⟩⟩
    rcases hq : v.ownBlock with _ | k
    · exact .inl rfl
    · refine .inr (fun e => ?_)
      cases e
      rcases HO.out.2 with ⟨e0, _⟩ | ⟨g', cap, cur, e0, _, hh, _⟩
      · rw [e0] at hq; cases hq
      · rw [e0] at hq
        cases hq
        rw [hh] at hKd
        cases hKd
  case stop =>
    rintro Df code pre W hD hpre h
    exact h.elim
end
end Go.Proofs.Ytglpckdmiohciaa
