/- The device's function now. -/
import Derived.Test.YtglpckdmiohciaaBack
import Derived.RegionIn
namespace Go.Proofs.Ytglpckdmiohciaa
open Go.RowKit Go.Shelf
set_option linter.unusedVariables false
set_option linter.unusedSimpArgs false
attribute [local go_sem] Oper.semAt_some
attribute [local go_sem ↓ high] fold_loadWr fold_loadSec fold_storeWr fold_storeSec fold_lkKept
attribute [local go_sem] run_stWr_new

theorem last_none (p : Int) : ∀ (l : List Wr), (∀ x ∈ l, x.pos ≠ p) → lastAt p l = none
  | [], _ => rfl
  | x :: l, h => by
    rw [lastAt, last_none p l (fun y hy => h y (List.mem_cons_of_mem _ hy)), if_neg (h x List.mem_cons_self)]
    rfl
theorem last_rev (p : Int) (l r : List Wr) (x : Wr) (hx : x.pos = p) (hr : ∀ y ∈ r, y.pos ≠ p) : lastAt p (l ++ x :: r) = some x.b := by
  induction l with
  | nil => rw [List.nil_append, lastAt, last_none p r hr, if_pos hx]; rfl
  | cons y l ih => rw [List.cons_append, lastAt, ih]; rfl
theorem last_take (p : Int) (l ini : List Wr) (x : Wr) (k : Nat) (h : ini ++ [x] = l.reverse.take k) (hx : x.pos = p) (hr : ∀ y ∈ ini, y.pos ≠ p) : lastAt p l = some x.b := by
  have h1 : l.reverse = ini ++ [x] ++ l.reverse.drop k := by rw [h, List.take_append_drop]
  have h2 : l = (l.reverse.drop k).reverse ++ x :: ini.reverse := by
    have := congrArg List.reverse h1
    simpa using this
  rw [h2]
  exact last_rev p _ _ x hx (fun y hy => hr y (by simpa using hy))

theorem blk_own {β : Type} (B b : Nat) (c : β → Array Value) (t : TypeId) : OwnFrom B (fun (s : β) W => W.heap[b]? = some (.cells (c s) t (0, 0))) := fun s X Y row hs hg hrow =>
  (hg.block b (blk_lt hs) (fun e => by
    obtain ⟨_, o, ho, hc⟩ := hrow b e.symm
    rw [hs] at ho
    cases ho
    cases hc)).trans hs
theorem run_stSec_at (W : World) (R : Nat) (c : Array Value) (hc : c.size = 32) (s : Sec) (h : W.heap[R]? = some (.cells c 139 (0, 0))) : ∃ W', (stSec (.pointer (some ⟨R, 0, none⟩)) (.agg (secCells s).toArray)).run Try.prog W = .ok () W' ∧ W'.heap[R]? = some (.cells (secCells s).toArray 139 (0, 0)) ∧ W.grownBy W' (some R) := by
  refine ⟨W.setRow R (secCells s).toArray, ?_, setRow_heap W R c _ _ _ h, rfl, rfl, rfl, by simp, fun k _ hk => setRow_other W R k _ (fun e => hk (by rw [e]))⟩
  unfold stSec
  simp only [Instr.storeAt, Instr.sureAddr, Sem.run_bind, Sem.run_pure, Result.andThen_ok]
  exact run_storeVar_row W R _ _ c _ h (by rw [secSize]; exact sizeSec) (by rw [secSize]; exact hc) (all_oneCell_toArray (secCells_one s))
/-- Between two rounds: none of those that came is of sector p. -/
def NowI (w w' : World) (p : Int) (pre : List (Nat × Wr)) (W : World) : Prop :=
  (W.heap[w.heap.size]? = some (.cells #[.int .i64 p] 3 (0, 0)) ∧ W.heap[w.heap.size + 1]? = some (.cells (secCells sec0).toArray 139 (0, 0))) ∧ ((∀ q ∈ pre, q.2.pos ≠ p) ∧ Below w.heap.size w' W)
/-- Left: the last is of sector p. -/
def NowX (w w' : World) (p : Int) (code : Code) (pre : List (Nat × Wr)) (W : World) : Prop :=
  (code = .ret ∧ ∃ ini last, pre = ini ++ [last] ∧ (∀ q ∈ ini, q.2.pos ≠ p) ∧ last.2.pos = p ∧ W.heap[w.heap.size + 1]? = some (.cells (secCells last.2.b).toArray 139 (0, 0))) ∧ Below w.heap.size w' W
theorem nowI_own {w w' : World} (p : Int) (h1 : w.heap.size ≤ w'.heap.size) : OwnFrom w'.heap.size (NowI w w' p) :=
  OwnFrom.and (OwnFrom.and (blk_own _ _ (fun _ => #[.int .i64 p]) _) (blk_own _ _ (fun _ => (secCells sec0).toArray) _)) (OwnFrom.and (ownFrom_pure _ _) (ownFrom_below h1 h1))
theorem nowX_own {w w' : World} (p : Int) (h1 : w.heap.size ≤ w'.heap.size) (code : Code) : OwnFrom w'.heap.size (NowX w w' p code) :=
  OwnFrom.and (fun s X Y row hs hg hr => by
      obtain ⟨e0, ini, last, e1, e2, e3, e4⟩ := hs
      exact ⟨e0, ini, last, e1, e2, e3, blk_own w'.heap.size (w.heap.size + 1) (fun (_ : Unit) => (secCells last.2.b).toArray) _ () X Y row e4 hg hr⟩) (ownFrom_below h1 h1)
section
variable {w : World} {g : Nat} {F0 : Nat → Prop} {D : Dv}
/-- The function's end, behind a loop over a function. -/
theorem now_end {W3 : World} {Df : Nat} {s r : Sec} (hK : W3.heap[Df]? = some (.deferred (some []))) (hD : w.heap.size + 1 < Df) (h3 : W3.heap[w.heap.size + 1]? = some (.cells (secCells s).toArray 139 (0, 0))) (hB : Below w.heap.size w W3)
    (a : Array Value) (ha : a.getD 4 undef = .pointer (some ⟨w.heap.size + 1, 0, none⟩)) (hs : s = r) : ∃ v, (results Try.f92 a).run Try.prog (W3.putObj Df (.deferred none)) = .ok v (W3.putObj Df (.deferred none)) ∧ Ending.returned v = .returned (.agg (secCells r).toArray) ∧ Below w.heap.size w (W3.putObj Df (.deferred none)) := by
  subst hs
  have h4 : (W3.putObj Df (.deferred none)).heap[w.heap.size + 1]? = some (.cells (secCells s).toArray 139 (0, 0)) := by
    rw [World.putObj_heap_other (by omega)]
    exact h3
  exact ⟨_, results_cell_row rfl _ _ _ _ _ _ _ ha h4 Try.underlying139 rfl (by rw [secSize]; exact sizeSec), rfl, hB.grown (grownBy_putObj' W3 Df (.deferred none)) hB.size (fun k ek => by cases ek; omega)⟩
set_option maxRecDepth 100000 in
set_option maxHeartbeats 4000000 in
theorem now_in (F : Fence) (n : Nat) (h92 : F.fn 92) (h114 : F.fn 114) (h119 : F.fn 119) (hro : F.round = none) (hn : 3 ≤ n) (h : DevAt w g F0 D) (p : Int) :
    CallsIn F n Try.prog 92 #[.pointer (some ⟨g, 0, none⟩), .int .i64 p] w fun e w' => e = .returned (.agg (secCells (D.now p)).toArray) ∧ Below w.heap.size w w' := by
  have h1 : 1 ≤ n := by omega
  obtain ⟨km, bm, A, c, -, c1, c2, -, -, -, -, -, hk, -, ho, hr, hlc⟩ := h.cells
  have hgl := h.glt
  have hbig := ho.len_le
  have HR := Lib.hid hr
  have HK := Lib.hid hk
  have HAl : Hid (∀ a, A = some a → a.block < w.heap.size) := fun a ha => by
    subst ha
    rcases ho.2 with ⟨e, _⟩ | ⟨g', cap, cur, e, _, hh, _⟩
    · cases e
    · cases e; exact blk_lt hh
  clear h ho hr hk
  refine callsIn_of_wp_marks Try.func92 rfl h92 ?_ hro
  simp only [Try.ntmps92, List.size_toArray, List.length_cons, List.length_nil, Nat.reduceAdd, Nat.reduceSub, Array.replicate_succ, Array.replicate_zero, List.push_toArray, List.append_toArray, List.nil_append, List.cons_append]
  have k2 : ∀ o o', ((w.alloc o).alloc o').cell? ⟨g, 2, none⟩ = some (.slice A D.cache.length c) := fun o o' => ((bl_alloc (bl_alloc (Below.refl _ w) o) o').cell (by exact hgl)).trans c2
  gi_wp2_with (gi_at_call 114; refine (backward_in F (n - 1) h114 hro _ _ _ _).mono ?_; rintro e w' ⟨rfl, hw'⟩)
  rw [← hw']
  have hb0 : Below w.heap.size w w' := by rw [hw']; exact bl_alloc (bl_alloc (bl_alloc (Below.refl _ w) _) _) _
  have hs0 : w'.heap.size = w.heap.size + 3 := by rw [hw']; simp
  have b0 : w'.heap[w.heap.size]? = some (.cells #[.int .i64 p] 3 (0, 0)) := by rw [hw']; exact blk_alloc (blk_alloc (blk_new w _) _) _
  have b1 : w'.heap[w.heap.size + 1]? = some (.cells (secCells sec0).toArray 139 (0, 0)) := by
    rw [hw']
    have := blk_new (w.alloc (.cells #[.int .i64 p] 3)) (.cells (secCells sec0).toArray 139)
    rw [World.size_alloc] at this
    exact blk_alloc this _
  have b2 : w'.cell? ⟨w.heap.size + 1 + 1, 0, none⟩ = some (.slice A D.cache.length c) := by
    have h2 : w'.heap[w.heap.size + 1 + 1]? = some (.cells #[.slice A D.cache.length c] 135 (0, 0)) := by
      rw [hw']
      have := blk_new ((w.alloc (.cells #[.int .i64 p] 3)).alloc (.cells (secCells sec0).toArray 139)) (.cells #[.slice A D.cache.length c] 135)
      rw [World.size_alloc, World.size_alloc] at this
      exact this
    rw [blk_cell h2]
    rfl
  clear hw' k2
  have hr0 := HR.out.below hb0 (Nat.le_refl _)
  refine wpIn_rangeFunc_ownH hro h1 (gf := 119) (lb := #[.pointer (some ⟨w.heap.size + 1 + 1, 0, none⟩)]) rfl h119 (enters_of Try.func119 (by kernel_rfl) rfl)
    (back_stops F (n - 1) h119 hro (by omega) (w.heap.size + 1 + 1) w'.heap.size A c D.cache (by omega) (fun a ha => by have := HAl.out a ha; omega) hbig w' (Nat.le_refl _) b2 hr0) belowK_t (belowK_b (Nat.le_refl _)) (Below.refl _ _) (fun _ => rfl)
    (NowI w w' p) (NowX w w' p) (nowI_own p hb0.size) (nowX_own p hb0.size)
    ⟨⟨b0, b1⟩, by simp, Below.refl _ _⟩
    (fun x a' W => ∃ Bx, w'.heap.size ≤ Bx ∧ W.heap[Bx]? = some (.cells x.2.enc.toArray 141 (0, 0)) ∧ a' = { tmps := #[.pointer (some ⟨g, 0, none⟩), .int .i64 p, undef, .pointer (some ⟨w.heap.size, 0, none⟩), .pointer (some ⟨w.heap.size + 1, 0, none⟩), undef, .pointer (some ⟨Bx, 0, none⟩), .pointer (some ⟨g, 0, none⟩), .pointer (some ⟨g, 0, none⟩), .pointer (some ⟨g, 2, none⟩), .slice A D.cache.length c, .func (.func 119) #[] #[.pointer (some ⟨w.heap.size + 1 + 1, 0, none⟩)], .int .i64 (x.1 : Int), .agg x.2.enc.toArray, undef, undef, undef, undef, undef, undef, undef, undef, undef, undef, undef, undef], defers := [] })
    (fun x a' s X Y row hs hg hr => by
      obtain ⟨Bx, e1, e2, e3⟩ := hs
      exact ⟨Bx, e1, blk_own w'.heap.size Bx (fun (_ : Unit) => x.2.enc.toArray) _ () X Y row e2 hg hr, e3⟩)
    ?assign ?body ?done ?stop
  case assign =>
    rintro l pre x W K ⟨⟨hp, hq⟩, hn, hB⟩ hK
    obtain ⟨ix, x⟩ := x
    unfold pairV
    gi_wp2
    have hsz := hB.size
    exact hK _ _ ((KeepsOthers.alloc _ _).from _) ((Below.refl _ W).alloc hsz _) ⟨⟨blk_alloc hp _, blk_alloc hq _⟩, hn, hB.alloc (by omega) _⟩ ⟨W.heap.size, hsz, blk_new W _, rfl⟩
  case body =>
    rintro l pre x a' W hl ⟨r, hr⟩ ⟨⟨hp, hq⟩, hn, hB⟩ ⟨Bx, hBx, bX, rfl⟩ hlt
    obtain ⟨ix, x⟩ := x
    have x0 := blk_cell bX 0
    have y0 := blk_cell hp 0
    have e0 : x.enc.toArray[0]? = some (.int .i64 x.pos) := rfl
    rw [e0] at x0
    simp at y0
    have ld := run_ldSec W Bx 1 x.b (range_blk bX (fun j v hv => by
      rw [List.getElem?_toArray, show 1 + j = j + 1 from by omega]
      exact hv))
    obtain ⟨W3, st, h3, hg3⟩ := run_stSec_at W (w.heap.size + 1) _ (secSize _) x.b hq
    have HN := Lib.hid hn
    clear hn
    dsimp only at x0 ld st e0 ⊢
    rcases (Decidable.em (x.pos = p)) with he | he
    · have HE := Lib.hid he
      have heb : (x.pos == p) = true := by simpa using he
      clear he
      gi_wp2
      exact ⟨(KeepsOthers.of_grownBy hg3 (fun j o ej ho => by cases ej; rw [hq] at ho; cases ho; rfl)).from _, ⟨rfl, pre, (ix, x), rfl, HN.out, HE.out, h3⟩, hB.grown hg3 (by have := hB.size; omega) (fun k ek => by cases ek; omega)⟩
    · have heb : (x.pos == p) = false := by simpa using he
      have HE := Lib.hid he
      clear he
      gi_wp2
      refine ⟨KeepsFrom.refl _ _, Below.refl _ _, ⟨hp, hq⟩, fun q hm => ?_, hB⟩
      rcases List.mem_append.1 hm with hm | hm
      · exact HN.out q hm
      · simp at hm
        subst hm
        exact HE.out
  case done =>
    rintro Df ys W hD hys ⟨⟨hp, hq⟩, hn, hB⟩ hKd
    have hnow : Hid (D.now p = (look D.kept p).getD sec0) := by
      show _ = _
      unfold Dv.now Dv.base
      rw [last_none p D.cache (fun x hx => ?_)]
      · rfl
      · have hm : x ∈ ys.map (·.2) := by rw [hys]; simpa using hx
        obtain ⟨q, hq1, rfl⟩ := List.mem_map.1 hm
        exact hn q hq1
    have hBW : Hid (Below w.heap.size w W) := hb0.trans hB
    have y0 := blk_cell hp 0
    simp at y0
    have z1 : W.cell? ⟨g, 1, none⟩ = some (.map (some km)) := (hBW.out.cell (by exact hgl)).trans c1
    have lk := run_lkKept (w := W.drew) (HK.out.below hBW.out.drew HK.out.lt) p
    obtain ⟨W3, st, h3, hg3⟩ := run_stSec_at W.drew (w.heap.size + 1) _ (secSize _) ((look D.kept p).getD sec0) (blk_drew hq)
    have hK3 : Hid (W3.heap[Df]? = some (.deferred (some []))) := by
      show _ = _
      rw [hg3.block Df (blk_lt hKd) (fun e => by
        have e' : Df = w.heap.size + 1 := by injection e
        omega)]
      exact hKd
    have hB3 : Hid (Below w.heap.size w W3) := hBW.out.drew.grown hg3 hBW.out.size (fun k ek => by cases ek; omega)
    have hD3 : Hid (w.heap.size + 1 < Df) := by show _ < _; omega
    clear hn hys
    gi_wp2
    gi_region
    all_goals
      gi_wp2
      refine ⟨by simp, .inl ⟨_, _, rfl, run_takeDeferred hK3.out, ?_⟩⟩
      exact now_end hK3.out hD3.out h3 hB3.out _ rfl hnow.out.symm
  case stop =>
    rintro Df code pre W hD hpre ⟨⟨rfl, ini, last, e1, e2, e3, e4⟩, hB⟩ hKd
    have hnow : Hid (last.2.b = D.now p) := by
      show _ = _
      unfold Dv.now
      subst e1
      rw [last_take p D.cache (ini.map (·.2)) last.2 _ (by rw [← hpre]; simp) e3 (fun y hy => by
        obtain ⟨q, hq1, rfl⟩ := List.mem_map.1 hy
        exact e2 q hq1)]
      rfl
    have hB3 : Hid (Below w.heap.size w W) := hb0.trans hB
    have hD3 : Hid (w.heap.size + 1 < Df) := by show _ < _; omega
    clear hpre e1 e2 e3
    gi_wp2
    refine ⟨by simp, .inl ⟨_, _, rfl, run_takeDeferred hKd, ?_⟩⟩
    exact now_end hKd hD3.out e4 hB3.out _ rfl hnow.out
end
end Go.Proofs.Ytglpckdmiohciaa
