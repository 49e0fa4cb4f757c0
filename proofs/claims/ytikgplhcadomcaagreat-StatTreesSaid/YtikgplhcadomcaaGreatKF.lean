/- extent.Free: Spans, a row at a time. extent.Free: Count, Largest; the law's rows. extent.Free: New, Copy; what a pointer that is none answers. What extent.Free's functions mean for the pages; the set as a law holds it; law06.awake, ref04.SameSpans. What the arguments of law06 read as. -/
import Derived.Test.YtikgplhcadomcaaGreatKD
import Derived.RangeFuncBox
import Derived.RangeFuncNested
import Derived.RangeFuncLeaves
import Derived.Shelf.Abstract
import Derived.OwnWalkIn
import Derived.TacticsInMore
import Derived.LoopNIn
import Derived.LoopIn
import Derived.RegionIn
import Derived.Test.YtikgplhcadomcaaGreatKA
namespace Go.Proofs.YtikgplhcadomcaaGreat
open Go.RowKit Go.Shelf
set_option linter.unusedVariables false
set_option linter.unusedSimpArgs false
attribute [local go_sem] Oper.semAt_some

/-- No block of cells has changed but those that X tells of the world ahead; none joins X but new ones. -/
structure KeptX (X : World → Nat → Prop) (w w' : World) : Prop where
  size : w.heap.size ≤ w'.heap.size
  same : ∀ (i : Nat) (cs : Array Value) (t : TypeId) (fr : Nat × Nat), ¬ X w i → w.heap[i]? = some (.cells cs t fr) → w'.heap[i]? = some (.cells cs t fr)
  join : ∀ i, X w' i → X w i ∨ w.heap.size ≤ i
/-- What X tells hangs on blocks that lay when there were n₀. -/
def Steady (n₀ : Nat) (X : World → Nat → Prop) : Prop := ∀ W W' : World, n₀ ≤ W.heap.size → Below n₀ W W' → ∀ i, X W' i → X W i
theorem Below.le {n m : Nat} {A B : World} (h : Below n A B) (hm : m ≤ n) : Below m A B := h.mono hm
section
variable {X : World → Nat → Prop} {w w' w'' : World} {n₀ : Nat}
theorem KeptX.refl (X : World → Nat → Prop) (w : World) : KeptX X w w := ⟨Nat.le_refl _, fun _ _ _ _ _ h => h, fun _ h => .inl h⟩
theorem KeptX.trans (h : KeptX X w w') (k : KeptX X w' w'') : KeptX X w w'' := ⟨Nat.le_trans h.size k.size, fun i cs t fr hx e => k.same i cs t fr (fun q => by
    rcases h.join i q with q | q
    · exact hx q
    · have := blk_lt e; omega) (h.same i cs t fr hx e), fun i q => by
  rcases k.join i q with q | q
  · exact h.join i q
  · exact .inr (Nat.le_trans h.size q)⟩
theorem KeptX.below (hs : Steady n₀ X) (hn : n₀ ≤ w.heap.size) (h : Below w.heap.size w w') : KeptX X w w' := ⟨h.size, fun i cs t fr _ e => by rw [h.block i (blk_lt e)]; exact e, fun i q => .inl (hs w w' hn (h.mono hn) i q)⟩
theorem KeptX.putObj (hs : Steady n₀ X) (W : World) (l : Nat) (o o' : Obj) (hl : n₀ ≤ l) (hn : n₀ ≤ W.heap.size) (h : W.heap[l]? = some o) (hc : o.isCells = false) : KeptX X W (W.putObj l o') := by
  have hlt : l < W.heap.size := (Array.getElem?_eq_some_iff.1 h).1
  refine ⟨by simp [World.putObj], fun i cs t fr _ e => ?_, fun i q => .inl (hs W _ hn ((Below.refl n₀ W).grown (grownBy_putObj' W l o') (by omega) (fun k e => by cases e; omega)) i q)⟩
  have hne : i ≠ l := fun q => by subst q; rw [e] at h; cases h; cases hc
  rw [World.putObj_heap_other hne]; exact e
end
end Go.Proofs.YtikgplhcadomcaaGreat

namespace Go.Proofs.YtikgplhcadomcaaGreat
open Go.RowKit Go.Shelf
set_option linter.unusedVariables false
set_option linter.unusedSimpArgs false
attribute [local go_sem] Oper.semAt_some

theorem KeptX.one {b : Nat} {W : World} {v : Value} {g i : Nat} (e : g = b) : KeptX (fun _ k => k = b) W (W.setCell ⟨g, i, none⟩ v) :=
  ⟨by simp [World.setCell], fun k cs t fr hx h => by rw [Below.heap_setCell _ _ _ _ (fun q => hx (by rw [q]; exact e))]; exact h, fun _ h => .inl h⟩
theorem run_max_n (m n : Int) (w : World) : (Builtin.max_ #[3, 3] 3 #[.int .i64 n, .int .i64 m]).run Tryz.prog w = .ok (.int .i64 (max n m)) w := by
  rw [run_max_int2]
  congr 2
  split <;> omega
section
variable {w : World}
end
end Go.Proofs.YtikgplhcadomcaaGreat

namespace Go.Proofs.YtikgplhcadomcaaGreat
open Go.RowKit
set_option linter.unusedVariables false
set_option linter.unusedSimpArgs false

def Fr.new (f n : Int) : Fr := ⟨max f 0, min n 16384, if max f 0 < min n 16384 then [⟨max f 0, min n 16384 - max f 0⟩] else []⟩
theorem Fr.new_ok {f n : Int} (hf : -9223372036854775808 ≤ f ∧ f ≤ 9223372036854775807) (hn : -9223372036854775808 ≤ n ∧ n ≤ 9223372036854775807) : (Fr.new f n).Ok := by
  refine ⟨by simp only [Fr.new]; omega, by simp only [Fr.new]; omega, by simp only [Fr.new]; omega, by simp only [Fr.new]; omega, ?_⟩
  simp only [Fr.new]
  split
  · exact ⟨by dsimp only; omega, by dsimp only; omega, by dsimp only; omega, trivial⟩
  · trivial
theorem run_maxE (n : Int) (w : World) : (Builtin.max_ #[3, 3] 3 #[.int .i64 n, .int .i64 0]).run Tryz.prog w = .ok (.int .i64 (max n 0)) w := run_max_n 0 n w
theorem run_minE (n : Int) (w : World) : (Builtin.min_ #[3, 3] 3 #[.int .i64 n, .int .i64 16384]).run Tryz.prog w = .ok (.int .i64 (min n 16384)) w := by
  rw [run_min_int2]
  congr 2
  split <;> omega
/-- A set in blocks that the call made is handed back. -/
def FreshR (w w' : World) (D : Fr) (e : Ending) : Prop := ∃ g F, e = .returned (.pointer (some ⟨g, 0, none⟩)) ∧ FrAt w' g F D ∧ (∀ i, F i → w.heap.size ≤ i) ∧ Below w.heap.size w w'
theorem newFr_fin {w W2 : World} {lo hi : Int} {s : Span} (hb : Below w.heap.size w W2) (hz : W2.heap.size = w.heap.size + 1) (h : ((W2.alloc (.cells s.cells 160)).drew).heap[w.heap.size]? = some (.cells #[.int .i64 lo, .int .i64 hi, .slice none 0 0] 253 (0, 0))) (hk : Fr.Ok ⟨lo, hi, [s]⟩) :
    FreshR w (((W2.alloc (.cells s.cells 160)).drew).setCell ⟨w.heap.size, 2, none⟩ (.slice (some ⟨W2.heap.size, 0, none⟩) 1 1)) ⟨lo, hi, [s]⟩ (.returned (.pointer (some ⟨w.heap.size, 0, none⟩))) := by
  have hr := blk_drew (blk_new W2 (.cells s.cells 160))
  refine ⟨w.heap.size, fun i => i = w.heap.size ∨ i = W2.heap.size, rfl, ⟨_, blk_set' h 2 _ rfl, ?_, (fun k e => by cases e; exact ⟨by show W2.heap.size ≠ w.heap.size; omega, .inr rfl⟩), .inl rfl, (fun i hi => ?_), hk⟩, (fun i hi => by omega), ?_⟩
  · refine Own.far (p := ⟨w.heap.size, 2, none⟩) ⟨by rw [flat_len Span.ok], .inr ⟨W2.heap.size, 1, s.cells, rfl, Nat.zero_le _, hr, by simp, by unfold maxLen; omega, rfl, rfl⟩⟩ (fun e => absurd (Option.some.inj e : W2.heap.size = w.heap.size) (by omega)) _
  · have := blk_lt hr
    simp [World.setCell] at this ⊢
    omega
  · exact ((hb.alloc hb.size _).drew).setCell (Nat.le_refl _) _
set_option maxRecDepth 100000 in
set_option maxHeartbeats 4000000 in
theorem newFr_calls (w : World) (f n : Int) (hf : -9223372036854775808 ≤ f ∧ f ≤ 9223372036854775807) (hn : -9223372036854775808 ≤ n ∧ n ≤ 9223372036854775807) :
    Calls Tryz.prog 160 #[.int .i64 f, .int .i64 n] w fun e w' => FreshR w w' (Fr.new f n) e := by
  have hok := Lib.hid (Fr.new_ok hf hn)
  have ma := run_maxE f
  have mi := run_minE n
  have hnew : Hid (Fr.new f n = ⟨max f 0, min n 16384, if max f 0 < min n 16384 then [⟨max f 0, min n 16384 - max f 0⟩] else []⟩) := rfl
  have b1 : 0 ≤ max f 0 := by omega
  have b2 : min n 16384 ≤ 16384 := by omega
  generalize max f 0 = lo at *
  generalize min n 16384 = hi at *
  have hN := hok.out
  rw [hnew.out] at hN
  have hN := Lib.hid hN
  clear hf hn
  obtain ⟨W1, hW1⟩ : ∃ W, W = w.alloc (.cells #[.int .i64 lo, .int .i64 hi, .slice none 0 0] 253) := ⟨_, rfl⟩
  have hx1 : W1.heap[w.heap.size]? = some (.cells #[.int .i64 lo, .int .i64 hi, .slice none 0 0] 253 (0, 0)) := hW1 ▸ blk_new w _
  have hB1 : Hid (Below w.heap.size w W1) := by show Below _ _ _; rw [hW1]; exact bl_alloc (Below.refl _ w) _
  have hz1 : Hid (W1.heap.size = w.heap.size + 1) := by show _ = _; rw [hW1, World.size_alloc]
  have x0 : W1.cell? ⟨w.heap.size, 0, none⟩ = some (.int .i64 lo) := by rw [blk_cell hx1]; rfl
  have x1 : W1.cell? ⟨w.heap.size, 1, none⟩ = some (.int .i64 hi) := by rw [blk_cell hx1]; rfl
  have HX1 := Lib.hid hx1
  clear hx1
  go_enter Tryz.func160, Tryz.ntmps160
  go_wp2_with fail
  rw [← hW1]
  clear hW1 ma mi
  have hS0 : Hid (W1.drew = W1.drew) := rfl
  refine wp_region_noPanic ?_
  refine wp_region_held_drew (S := fun W => Hid (W = W1.drew)) (by kernel_rfl) (hS0) (fun hHeld => ?_)
  refine wpAnyH_take (i := 0) (oi := ⟨some 12, _, _, _, _, _⟩) (v := ?_) rfl (by kernel_rfl) (by kernel_rfl) (by kernel_rfl) (fun _ _ _ h => h) (Or.inl ⟨by rfl, ?_⟩) (by assumption) ?_
  rotate_left
  · (intro w hSw; (try dsimp only at hSw); have hSe := hSw.out; subst hSe; (go_simp <;> with_reducible rfl))
  try simp only [Act.put, List.setIfInBounds_toArray, List.set_cons_zero, List.set_cons_succ]
  refine wpAnyH_take (i := 1) (oi := ⟨some 13, _, _, _, _, _⟩) (v := ?_) rfl (by kernel_rfl) (by kernel_rfl) (by kernel_rfl) (fun _ _ _ h => h) (Or.inl ⟨by rfl, ?_⟩) (by assumption) ?_
  rotate_left
  · (intro w hSw; (try dsimp only at hSw); have hSe := hSw.out; subst hSe; (go_simp <;> with_reducible rfl))
  try simp only [Act.put, List.setIfInBounds_toArray, List.set_cons_zero, List.set_cons_succ]
  refine wpAnyH_take (i := 2) (oi := ⟨some 14, _, _, _, _, _⟩) (v := ?_) rfl (by kernel_rfl) (by kernel_rfl) (by kernel_rfl) (fun _ _ _ h => h) (Or.inl ⟨by rfl, ?_⟩) (by assumption) ?_
  rotate_left
  · (intro w hSw; (try dsimp only at hSw); have hSe := hSw.out; subst hSe; (go_simp <;> with_reducible rfl))
  try simp only [Act.put, List.setIfInBounds_toArray, List.set_cons_zero, List.set_cons_succ]
  refine wpAnyH_take (i := 3) (oi := ⟨some 15, _, _, _, _, _⟩) (v := ?_) rfl (by kernel_rfl) (by kernel_rfl) (by kernel_rfl) (fun _ _ _ h => h) (Or.inl ⟨by rfl, ?_⟩) (by assumption) ?_
  rotate_left
  · (intro w hSw; (try dsimp only at hSw); have hSe := hSw.out; subst hSe; (go_simp <;> with_reducible rfl))
  try simp only [Act.put, List.setIfInBounds_toArray, List.set_cons_zero, List.set_cons_succ]
  refine wpAnyH_take (i := 4) (oi := ⟨some 16, _, _, _, _, _⟩) (v := ?_) rfl (by kernel_rfl) (by kernel_rfl) (by kernel_rfl) (fun _ _ _ h => h) (Or.inl ⟨by rfl, ?_⟩) (by assumption) ?_
  rotate_left
  · (intro w hSw; (try dsimp only at hSw); have hSe := hSw.out; subst hSe; (go_simp <;> with_reducible rfl))
  try simp only [Act.put, List.setIfInBounds_toArray, List.set_cons_zero, List.set_cons_succ]
  refine wpAnyH_take (i := 5) (oi := ⟨some 17, _, _, _, _, _⟩) (v := ?_) rfl (by kernel_rfl) (by kernel_rfl) (by kernel_rfl) (fun _ _ _ h => h) (Or.inl ⟨by rfl, ?_⟩) (by assumption) ?_
  rotate_left
  · (intro w hSw; (try dsimp only at hSw); have hSe := hSw.out; subst hSe; (go_simp <;> with_reducible rfl))
  try simp only [Act.put, List.setIfInBounds_toArray, List.set_cons_zero, List.set_cons_succ]
  refine wpAnyH_take (i := 6) (oi := ⟨some 18, _, _, _, _, _⟩) (v := ?_) rfl (by kernel_rfl) (by kernel_rfl) (by kernel_rfl) (fun _ _ _ h => h) (Or.inl ⟨by rfl, ?_⟩) (by assumption) ?_
  rotate_left
  · (intro w hSw; (try dsimp only at hSw); have hSe := hSw.out; subst hSe; (go_simp <;> with_reducible rfl))
  try simp only [Act.put, List.setIfInBounds_toArray, List.set_cons_zero, List.set_cons_succ]
  refine wpAnyH_take (i := 7) (oi := ⟨some 19, _, _, _, _, _⟩) (v := ?_) rfl (by kernel_rfl) (by kernel_rfl) (by kernel_rfl) (fun _ _ _ h => h) (Or.inl ⟨by rfl, ?_⟩) (by assumption) ?_
  rotate_left
  · (intro w hSw; (try dsimp only at hSw); have hSe := hSw.out; subst hSe; (go_simp <;> with_reducible rfl))
  try simp only [Act.put, List.setIfInBounds_toArray, List.set_cons_zero, List.set_cons_succ]
  refine wpAnyH_take (i := 8) (oi := ⟨some 20, _, _, _, _, _⟩) (v := ?_) rfl (by kernel_rfl) (by kernel_rfl) (by kernel_rfl) (fun _ _ _ h => h) (Or.inl ⟨by rfl, ?_⟩) (by assumption) ?_
  rotate_left
  · (intro w hSw; (try dsimp only at hSw); have hSe := hSw.out; subst hSe; (go_simp <;> with_reducible rfl))
  try simp only [Act.put, List.setIfInBounds_toArray, List.set_cons_zero, List.set_cons_succ]
  refine wpAnyH_done (by kernel_rfl) ?_ _
  refine NoPanic.normal ?_
  rcases (Decidable.em (lo < hi)) with hlt | hlt
  · have hwr : IntKind.i64.wrap (hi - lo) = hi - lo := wrapI (by omega)
    obtain ⟨W2, hW2⟩ : ∃ W, W = W1.drew := ⟨_, rfl⟩
    have HX2 : Hid (W2.heap[w.heap.size]? = some (.cells #[.int .i64 lo, .int .i64 hi, .slice none 0 0] 253 (0, 0))) := hW2 ▸ blk_drew HX1.out
    have HB2 : Hid (Below w.heap.size w W2) := hW2 ▸ hB1.out.drew
    have HZ2 : Hid (W2.heap.size = w.heap.size + 1) := by subst hW2; exact hz1.out
    rw [← hW2]
    clear hW2 HX1 hB1 hz1 x0 x1
    have hC : Hid (∀ W, Below W2.heap.size W2 W → W.cell? ⟨w.heap.size, 0, none⟩ = some (.int .i64 lo) ∧ W.cell? ⟨w.heap.size, 1, none⟩ = some (.int .i64 hi) ∧ W.heap[w.heap.size]? = some (.cells #[.int .i64 lo, .int .i64 hi, .slice none 0 0] 253 (0, 0))) := fun W hW => by
      have h := blk_below hW HX2.out (blk_lt HX2.out)
      exact ⟨by rw [blk_cell h]; rfl, by rw [blk_cell h]; rfl, h⟩
    have hb0 : Hid (Below W2.heap.size W2 W2.drew) := (Below.refl _ W2).drew
    have hN2 := hN.out
    rw [if_pos hlt] at hN2
    have hN2 := Lib.hid hN2
    go_wp2_with fail
    refine wp_region_noPanic ?_
    refine wp_regionZ 18 (fun W => Hid (Below W2.heap.size W2 W)) (by kernel_rfl) ?_
    refine AnyZ.takeU [18] (i := 0) (oi := ⟨some 21, _, _, _, _, _⟩) (v := ?_) rfl (by kernel_rfl) (by kernel_rfl) (by kernel_rfl) (by kernel_rfl) (by kernel_rfl) (by kernel_rfl) (fun _ _ _ h => h) (Or.inl ⟨by rfl, ?_⟩) (by assumption) ?_
    rotate_left
    · (intro w hSw; (try dsimp only at hSw); obtain ⟨y0, y1, y2⟩ := hC.out _ hSw.out; (go_simp <;> with_reducible rfl))
    try simp only [Act.put, List.setIfInBounds_toArray, List.set_cons_zero, List.set_cons_succ]
    refine AnyZ.takeU [18] (i := 1) (oi := ⟨some 22, _, _, _, _, _⟩) (v := ?_) rfl (by kernel_rfl) (by kernel_rfl) (by kernel_rfl) (by kernel_rfl) (by kernel_rfl) (by kernel_rfl) (fun _ _ _ h => h) (Or.inl ⟨by rfl, ?_⟩) (by assumption) ?_
    rotate_left
    · (intro w hSw; (try dsimp only at hSw); obtain ⟨y0, y1, y2⟩ := hC.out _ hSw.out; (go_simp <;> with_reducible rfl))
    try simp only [Act.put, List.setIfInBounds_toArray, List.set_cons_zero, List.set_cons_succ]
    refine AnyZ.takeU [18] (i := 2) (oi := ⟨some 23, _, _, _, _, _⟩) (v := ?_) rfl (by kernel_rfl) (by kernel_rfl) (by kernel_rfl) (by kernel_rfl) (by kernel_rfl) (by kernel_rfl) (fun _ _ _ h => h) (Or.inl ⟨by rfl, ?_⟩) (by assumption) ?_
    rotate_left
    · (intro w hSw; (try dsimp only at hSw); obtain ⟨y0, y1, y2⟩ := hC.out _ hSw.out; (go_simp <;> with_reducible rfl))
    try simp only [Act.put, List.setIfInBounds_toArray, List.set_cons_zero, List.set_cons_succ]
    refine AnyZ.takeU [18] (i := 3) (oi := ⟨some 24, _, _, _, _, _⟩) (v := ?_) rfl (by kernel_rfl) (by kernel_rfl) (by kernel_rfl) (by kernel_rfl) (by kernel_rfl) (by kernel_rfl) (fun _ _ _ h => h) (Or.inl ⟨by rfl, ?_⟩) (by assumption) ?_
    rotate_left
    · (intro w hSw; (try dsimp only at hSw); obtain ⟨y0, y1, y2⟩ := hC.out _ hSw.out; (go_simp <;> with_reducible rfl))
    try simp only [Act.put, List.setIfInBounds_toArray, List.set_cons_zero, List.set_cons_succ]
    refine AnyZ.takeU [18] (i := 4) (oi := ⟨some 25, _, _, _, _, _⟩) (v := ?_) rfl (by kernel_rfl) (by kernel_rfl) (by kernel_rfl) (by kernel_rfl) (by kernel_rfl) (by kernel_rfl) (fun _ _ _ h => h) (Or.inl ⟨by rfl, ?_⟩) (by assumption) ?_
    rotate_left
    · (intro w hSw; (try dsimp only at hSw); obtain ⟨y0, y1, y2⟩ := hC.out _ hSw.out; (go_simp <;> with_reducible rfl))
    try simp only [Act.put, List.setIfInBounds_toArray, List.set_cons_zero, List.set_cons_succ]
    refine AnyZ.takeU [18] (i := 5) (oi := ⟨some 26, _, _, _, _, _⟩) (v := ?_) rfl (by kernel_rfl) (by kernel_rfl) (by kernel_rfl) (by kernel_rfl) (by kernel_rfl) (by kernel_rfl) (fun _ _ _ h => h) (Or.inl ⟨by rfl, ?_⟩) (by assumption) ?_
    rotate_left
    · (intro w hSw; (try dsimp only at hSw); obtain ⟨y0, y1, y2⟩ := hC.out _ hSw.out; (go_simp <;> with_reducible rfl))
    try simp only [Act.put, List.setIfInBounds_toArray, List.set_cons_zero, List.set_cons_succ]
    refine AnyZ.takeU [18] (i := 6) (oi := ⟨some 27, _, _, _, _, _⟩) (v := ?_) rfl (by kernel_rfl) (by kernel_rfl) (by kernel_rfl) (by kernel_rfl) (by kernel_rfl) (by kernel_rfl) (fun _ _ _ h => h) (Or.inl ⟨by rfl, ?_⟩) (by assumption) ?_
    rotate_left
    · (intro w hSw; (try dsimp only at hSw); obtain ⟨y0, y1, y2⟩ := hC.out _ hSw.out; (go_simp <;> with_reducible rfl))
    try simp only [Act.put, List.setIfInBounds_toArray, List.set_cons_zero, List.set_cons_succ]
    refine AnyZ.takeU [18] (i := 7) (oi := ⟨some 28, _, _, _, _, _⟩) (v := ?_) rfl (by kernel_rfl) (by kernel_rfl) (by kernel_rfl) (by kernel_rfl) (by kernel_rfl) (by kernel_rfl) (fun _ _ _ h => h) (Or.inl ⟨by rfl, ?_⟩) (by assumption) ?_
    rotate_left
    · (intro w hSw; (try dsimp only at hSw); obtain ⟨y0, y1, y2⟩ := hC.out _ hSw.out; (go_simp <;> with_reducible rfl))
    try simp only [Act.put, List.setIfInBounds_toArray, List.set_cons_zero, List.set_cons_succ]
    refine AnyZ.takeU [18] (i := 8) (oi := ⟨some 29, _, _, _, _, _⟩) (v := ?_) rfl (by kernel_rfl) (by kernel_rfl) (by kernel_rfl) (by kernel_rfl) (by kernel_rfl) (by kernel_rfl) (fun _ _ _ h => h) (Or.inl ⟨by rfl, ?_⟩) (by assumption) ?_
    rotate_left
    · (intro w hSw; (try dsimp only at hSw); obtain ⟨y0, y1, y2⟩ := hC.out _ hSw.out; (go_simp <;> with_reducible rfl))
    try simp only [Act.put, List.setIfInBounds_toArray, List.set_cons_zero, List.set_cons_succ]
    refine AnyZ.takeU [18] (i := 9) (oi := ⟨some 30, _, _, _, _, _⟩) (v := ?_) rfl (by kernel_rfl) (by kernel_rfl) (by kernel_rfl) (by kernel_rfl) (by kernel_rfl) (by kernel_rfl) (fun _ _ _ h => h) (Or.inl ⟨by rfl, ?_⟩) (by assumption) ?_
    rotate_left
    · (intro w hSw; (try dsimp only at hSw); obtain ⟨y0, y1, y2⟩ := hC.out _ hSw.out; (go_simp <;> with_reducible rfl))
    try simp only [Act.put, List.setIfInBounds_toArray, List.set_cons_zero, List.set_cons_succ]
    refine AnyZ.takeU [18] (i := 10) (oi := ⟨some 31, _, _, _, _, _⟩) (v := ?_) rfl (by kernel_rfl) (by kernel_rfl) (by kernel_rfl) (by kernel_rfl) (by kernel_rfl) (by kernel_rfl) (fun _ _ _ h => h) (Or.inl ⟨by rfl, ?_⟩) (by assumption) ?_
    rotate_left
    · (intro w hSw; (try dsimp only at hSw); obtain ⟨y0, y1, y2⟩ := hC.out _ hSw.out; (go_simp <;> with_reducible rfl))
    try simp only [Act.put, List.setIfInBounds_toArray, List.set_cons_zero, List.set_cons_succ]
    refine AnyZ.takeU [18] (i := 11) (oi := ⟨some 32, _, _, _, _, _⟩) (v := ?_) rfl (by kernel_rfl) (by kernel_rfl) (by kernel_rfl) (by kernel_rfl) (by kernel_rfl) (by kernel_rfl) (fun _ _ _ h => h) (Or.inl ⟨by rfl, ?_⟩) (by assumption) ?_
    rotate_left
    · (intro w hSw; (try dsimp only at hSw); obtain ⟨y0, y1, y2⟩ := hC.out _ hSw.out; (go_simp <;> with_reducible rfl))
    try simp only [Act.put, List.setIfInBounds_toArray, List.set_cons_zero, List.set_cons_succ]
    refine AnyZ.takeU [18] (i := 12) (oi := ⟨some 33, _, _, _, _, _⟩) (v := ?_) rfl (by kernel_rfl) (by kernel_rfl) (by kernel_rfl) (by kernel_rfl) (by kernel_rfl) (by kernel_rfl) (fun _ _ _ h => h) (Or.inl ⟨by rfl, ?_⟩) (by assumption) ?_
    rotate_left
    · (intro w hSw; (try dsimp only at hSw); obtain ⟨y0, y1, y2⟩ := hC.out _ hSw.out; (go_simp <;> with_reducible rfl))
    try simp only [Act.put, List.setIfInBounds_toArray, List.set_cons_zero, List.set_cons_succ]
    refine AnyZ.takeU [18] (i := 13) (oi := ⟨some 34, _, _, _, _, _⟩) (v := ?_) rfl (by kernel_rfl) (by kernel_rfl) (by kernel_rfl) (by kernel_rfl) (by kernel_rfl) (by kernel_rfl) (fun _ _ _ h => h) (Or.inl ⟨by rfl, ?_⟩) (by assumption) ?_
    rotate_left
    · (intro w hSw; (try dsimp only at hSw); obtain ⟨y0, y1, y2⟩ := hC.out _ hSw.out; (go_simp <;> with_reducible rfl))
    try simp only [Act.put, List.setIfInBounds_toArray, List.set_cons_zero, List.set_cons_succ]
    refine AnyZ.takeU [18] (i := 14) (oi := ⟨some 35, _, _, _, _, _⟩) (v := ?_) rfl (by kernel_rfl) (by kernel_rfl) (by kernel_rfl) (by kernel_rfl) (by kernel_rfl) (by kernel_rfl) (fun _ _ _ h => h) (Or.inl ⟨by rfl, ?_⟩) (by assumption) ?_
    rotate_left
    · (intro w hSw; (try dsimp only at hSw); obtain ⟨y0, y1, y2⟩ := hC.out _ hSw.out; (go_simp <;> with_reducible rfl))
    try simp only [Act.put, List.setIfInBounds_toArray, List.set_cons_zero, List.set_cons_succ]
    refine AnyZ.one (i := 15) (by kernel_rfl) rfl (fun K hK => ?_)
    go_simp
    have B3 : Hid (Below W2.heap.size W2 ((W2.alloc (.cells #[.int .i64 lo, .int .i64 (hi - lo)] 160)).drew)) := ((Below.refl _ W2).alloc (Nat.le_refl _) _).drew
    obtain ⟨z0, z1, z2⟩ := hC.out _ B3.out
    have z3 : ((W2.alloc (.cells #[.int .i64 lo, .int .i64 (hi - lo)] 160)).drew).cell? ⟨w.heap.size, 2, none⟩ = some (.slice none 0 0) := by rw [blk_cell z2]; rfl
    have z4 := blk_free z2 2
    have hF := Lib.hid (newFr_fin (s := ⟨lo, hi - lo⟩) HB2.out HZ2.out z2 (hN2.out))
    refine hK.out _ _ (.inr (by assumption)) ?_
    clear hK K
    try simp only [Act.put, List.setIfInBounds_toArray, List.set_cons_zero, List.set_cons_succ]
    refine AnyZ.takeU [18, 17] (i := 16) (oi := ⟨some 37, _, _, _, _, _⟩) (v := ?_) rfl (by kernel_rfl) (by kernel_rfl) (by kernel_rfl) (by kernel_rfl) (by kernel_rfl) (by kernel_rfl) (fun _ _ _ h => h) (Or.inl ⟨by rfl, ?_⟩) (by assumption) ?_
    rotate_left
    · (intro w hSw; (try dsimp only at hSw); obtain ⟨y0, y1, y2⟩ := hC.out _ hSw.out; (go_simp <;> with_reducible rfl))
    try simp only [Act.put, List.setIfInBounds_toArray, List.set_cons_zero, List.set_cons_succ]
    refine AnyZ.takeU [18] (i := 17) (oi := ⟨some 38, _, _, _, _, _⟩) (v := ?_) rfl (by kernel_rfl) (by kernel_rfl) (by kernel_rfl) (by kernel_rfl) (by kernel_rfl) (by kernel_rfl) (fun _ _ _ h => h) (Or.inl ⟨by rfl, ?_⟩) (by assumption) ?_
    rotate_left
    · (intro w hSw; (try dsimp only at hSw); obtain ⟨y0, y1, y2⟩ := hC.out _ hSw.out; (go_simp <;> with_reducible rfl))
    try simp only [Act.put, List.setIfInBounds_toArray, List.set_cons_zero, List.set_cons_succ]
    refine AnyZ.one (i := 18) (by kernel_rfl) rfl (fun K hK => ?_)
    go_simp
    refine hK.out _ _ (.inl rfl) ?_
    clear hK K
    try simp only [Act.put, List.setIfInBounds_toArray, List.set_cons_zero, List.set_cons_succ]
    refine AnyZ.done (by kernel_rfl) ?_ _
    refine NoPanic.normal ?_
    go_wp2
    go_ret
    rw [hnew.out, if_pos hlt]
    exact hF.out
  · go_wp2
    go_ret
    rw [hnew.out]
    rw [if_neg (by omega)] at hN ⊢
    exact ⟨_, fun i => i = w.heap.size, rfl, ⟨_, blk_drew HX1.out, Own.nil, (fun k e => by cases e), rfl, (fun i hi => by subst hi; exact blk_lt (blk_drew HX1.out)), hN.out⟩, fun i hi => by omega, hB1.out.drew⟩
section
variable {w : World} {g : Nat} {F : Nat → Prop} {D : Fr}
end
/-! ### A pointer that is none -/
section
variable (w : World)
end
end Go.Proofs.YtikgplhcadomcaaGreat

namespace Go.Proofs.YtikgplhcadomcaaGreat
open Go.RowKit
set_option linter.unusedVariables false
set_option linter.unusedSimpArgs false

section
variable {D : Fr} {s : Span}
theorem Fr.has_iff (h : D.Ok) : D.has s = true ↔ D.there s = true ∧ ∀ j, s.start ≤ j → j < s.start + s.pages → inL D.l j := by
  unfold Fr.has
  rw [Bool.and_eq_true]
  refine and_congr_right fun ht => ?_
  simp only [Fr.there, decide_eq_true_eq] at ht
  rw [decide_eq_true_eq, ← within_iff s ht.1 h.norm]
  constructor
  · intro hp
    obtain ⟨i, r, e, hr, hw, _⟩ := place_some (p := within s) (l := D.l) (by omega)
    exact ⟨r, List.mem_of_getElem? hr, hw⟩
  · rintro ⟨r, hr, hw⟩
    rcases Int.lt_or_le (place (within s) D.l) 0 with q | q
    · rw [place_neg.1 q r hr] at hw; cases hw
    · exact q
theorem Fr.claim_no (hf : ¬ D.has s = true) : D.claim s = (false, D) := by unfold Fr.claim; rw [if_neg hf]
/-- What was taken: free before, not behind; the first that there is. -/
theorem Fr.take_yes (h : D.Ok) {n : Int} (hy : (D.take n).1.2 = true) : 1 ≤ n ∧ D.there ⟨(D.take n).1.1, n⟩ = true ∧ (∀ j, (D.take n).1.1 ≤ j → j < (D.take n).1.1 + n → inL D.l j) ∧ (D.take n).2.lo = D.lo ∧ (D.take n).2.n = D.n ∧
    (∀ j, inL (D.take n).2.l j ↔ inL D.l j ∧ ¬ ((D.take n).1.1 ≤ j ∧ j < (D.take n).1.1 + n)) ∧ ∀ a, a < (D.take n).1.1 → ¬ ∀ j, a ≤ j → j < a + n → inL D.l j := by
  have hn : ¬ n < 1 := fun e => by unfold Fr.take at hy; rw [if_pos e] at hy; cases hy
  have hp : ¬ place (room ⟨0, n⟩) D.l < 0 := fun e => by unfold Fr.take at hy; rw [if_neg hn, if_pos e] at hy; cases hy
  obtain ⟨i, r, e, hr, hw, hbefore⟩ := place_some hp
  have hg : D.l.getD i default = r := by rw [List.getD_eq_getElem?_getD, hr]; rfl
  have et : D.take n = ((r.start, true), { D with l := cutL D.l i ⟨r.start, n⟩ }) := by
    unfold Fr.take
    rw [if_neg hn, if_neg hp, e]
    simp only [Int.toNat_natCast, hg]
  have hrm := h.norm.mem r (List.mem_of_getElem? hr)
  simp only [room, decide_eq_true_eq] at hw
  have hwr : within ⟨r.start, n⟩ r = true := by simp only [within, decide_eq_true_eq]; omega
  rw [et]
  refine ⟨by omega, ?_, fun j j1 j2 => inL_mem.2 ⟨r, List.mem_of_getElem? hr, j1, by dsimp only at j2; omega⟩, rfl, rfl, fun j => cut_in (s := ⟨r.start, n⟩) (by show 1 ≤ n; omega) hwr j i h.norm hr, fun a ha hall => ?_⟩
  · simp only [Fr.there, decide_eq_true_eq]; omega
  · obtain ⟨x, hx, hxw⟩ := (within_iff ⟨a, n⟩ (by show 1 ≤ n; omega) h.norm).2 hall
    obtain ⟨k, hk⟩ := List.mem_iff_getElem?.1 hx
    simp only [within, decide_eq_true_eq] at hxw
    dsimp only at ha
    have hki : ¬ k < i := fun q => by
      have := hbefore k x q hk
      simp only [room, decide_eq_false_iff_not] at this
      omega
    have hle := norm_le h.norm hr hk (by omega)
    omega
where
  norm_le {n : Int} : ∀ {l : List Span} {lo : Int} {i k : Nat} {r x : Span}, Norm lo n l → l[i]? = some r → l[k]? = some x → i ≤ k → r.start ≤ x.start
    | [], _, i, k, r, x, _, hr, _, _ => by simp at hr
    | y :: l, lo, 0, 0, r, x, _, hr, hx, _ => by simp at hr hx; subst hr; subst hx; exact Int.le_refl _
    | y :: l, lo, 0, k + 1, r, x, ⟨h1, h2, h3, h4⟩, hr, hx, _ => by
      simp at hr hx
      subst hr
      have := h4.mem x (List.mem_of_getElem? hx)
      omega
    | y :: l, lo, i + 1, 0, r, x, _, _, _, hik => by omega
    | y :: l, lo, i + 1, k + 1, r, x, ⟨h1, h2, h3, h4⟩, hr, hx, hik => norm_le h4 (by simpa using hr) (by simpa using hx) (by omega)
theorem Fr.take_no (h : D.Ok) {n : Int} (hy : ¬ (D.take n).1.2 = true) : D.take n = ((0, false), D) ∧ (n < 1 ∨ ∀ r ∈ D.l, r.pages < n) := by
  by_cases hn : n < 1
  · exact ⟨by unfold Fr.take; rw [if_pos hn], .inl hn⟩
  · by_cases hp : place (room ⟨0, n⟩) D.l < 0
    · refine ⟨by unfold Fr.take; rw [if_neg hn, if_pos hp], .inr fun r hr => ?_⟩
      have := place_neg.1 hp r hr
      simp only [room, decide_eq_false_iff_not] at this
      omega
    · exact absurd (by unfold Fr.take; rw [if_neg hn, if_neg hp]) hy
end
/-! ### The set as a law holds it -/
/-- The set at g, in blocks from W1 on. -/
def FrB (W1 wr : World) (g : Nat) (D : Fr) : Prop := ∃ F, FrAt wr g F D ∧ (∀ i, F i → W1.heap.size ≤ i) ∧ Below W1.heap.size W1 wr
section
variable {W1 wr w3 : World} {g : Nat} {D D' : Fr} {F : Nat → Prop}
theorem FrB.below (h : FrB W1 wr g D) (hb : Below wr.heap.size wr w3) : FrB W1 w3 g D := by
  obtain ⟨F, h1, h2, h3⟩ := h
  exact ⟨F, h1.below hb, h2, bl_then h3 h3.size hb⟩
theorem FrB.bl (h : FrB W1 wr g D) : Below W1.heap.size W1 wr := by obtain ⟨F, h1, h2, h3⟩ := h; exact h3
theorem FrB.okD (h : FrB W1 wr g D) : D.Ok := by obtain ⟨F, h1, h2, h3⟩ := h; exact h1.okD
end
theorem eqSpan (d : Nat) (w : World) (x y : Span) : (Op.equalIn (d + 2) 160 (.agg #[.int .i64 x.start, .int .i64 x.pages]) (.agg #[.int .i64 y.start, .int .i64 y.pages])).run Tryz.prog w = .ok (decide (x = y)) w := by
  have e : decide (x = y) = (x.start == y.start && (x.pages == y.pages && true)) := by
    cases x; cases y; simp [Bool.beq_eq_decide_eq]
  rw [e]
  refine eq_struct Tryz.underlying160 (by kernel_rfl) ?_
  refine eqf_more (by decide) (by go_simp; rfl) (by go_simp; rfl) (by go_simp) ?_
  refine eqf_more (by decide) (by go_simp; rfl) (by go_simp; rfl) (by go_simp) ?_
  exact eqf_none
attribute [local go_sem high] eqSpan
end Go.Proofs.YtikgplhcadomcaaGreat

namespace Go.Proofs.YtikgplhcadomcaaGreat
open Go.RowKit Go.ChangeShapes Go.WideShapes Go.Deep
set_option linter.unusedVariables false
set_option linter.unusedSimpArgs false

def intEnc (x : Int) : List Value := [.int .i64 x]
theorem intOk : Enc intEnc 1 := ⟨fun _ => rfl, fun x u hu => by simp [intEnc] at hu; subst hu; rfl, by omega⟩
/-- What is done with a set. -/
structure EDeed where
  kind : Int
  s : Span
def EDeed.enc (x : EDeed) : List Value := [.int .i64 x.kind, .int .i64 x.s.start, .int .i64 x.s.pages]
theorem EDeed.ok : Enc EDeed.enc 3 := ⟨fun _ => rfl, fun x u hu => by
  simp only [EDeed.enc, List.mem_cons, List.not_mem_nil, or_false] at hu
  rcases hu with rfl | rfl | rfl <;> rfl, by omega⟩
section
variable {H : Type} {he : TypeId × Value → H} {W : World} {base : Nat} {spare : Nat → Bool} {held : Bool}
end
end Go.Proofs.YtikgplhcadomcaaGreat
