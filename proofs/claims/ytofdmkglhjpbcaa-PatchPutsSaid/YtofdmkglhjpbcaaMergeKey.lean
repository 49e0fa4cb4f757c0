/- merge.plain, merge.Key, ref09.plain, ref09.Pick -/
import Derived.Test.YtofdmkglhjpbcaaMergeP
import Derived.Test.YtofdmkglhjpbcaaGet
import Derived.Deep.RegionWith
import Derived.Deep.RegionLaw
import Derived.Deep.RegionHeld3
import Derived.Deep.DeepCutAuto
import Derived.Laws.ResultCell
namespace Go.Proofs.Ytofdmkglhjpbcaa
open Go.RowKit
set_option linter.unusedVariables false
set_option linter.unusedSimpArgs false
attribute [local go_sem high] eqSide

/-- A function's end with two results: one in a block, one in a slot. -/
theorem ret_row_slot {P : Program} {fn : Func} {R : Ending → World → Prop} {a : Act} {w : World} {p u : Tmp} {ty : TypeId} {g : Nat} (cs : Array Value) {d : TypeDesc} (h : fn.results = #[.cell p ty, .tmp u])
    (hp : a.tmps.getD p undef = .pointer (some ⟨g, 0, none⟩)) (hu : P.underlying ty = some d) (hd : (match d with | .struct _ | .array _ _ => true | _ => false) = true) (hdf : a.defers = [])
    (hi : (P.info? ty).map (·.size) = some cs.size) (hg : rowOf w g = some cs) (hR : R (.returned (.tuple #[.agg cs, a.tmps.getD u undef])) w) : bodyPost P fn R .ret a w := by
  unfold rowOf at hg
  split at hg
  · rename_i c t fr hh
    injection hg with hg
    subst hg
    refine bodyPost_ret ?_ hdf hR
    rw [results_cell_tmp h, hp]
    simp [asAddr, run_loadVar_row w g t ty c fr d hh hu hd hi]
  · cases hg
theorem bl_thenI {w2 W w3 : World} (h : Hid (Below w2.heap.size w2 W)) (k : Below W.heap.size W w3) : Hid (Below w2.heap.size w2 w3) := bl_then h.out h.out.size k
theorem side_cells {w : World} {g : Nat} {a b : Value} {t : TypeId} {fr : Nat × Nat} (h : w.heap[g]? = some (.cells #[a, b] t fr)) : w.cell? ⟨g, 0, none⟩ = some a ∧ w.cell? ⟨g, 1, none⟩ = some b := ⟨by rw [blk_cell h]; rfl, by rw [blk_cell h]; rfl⟩
def bxS (s : Side) : Obj := .cells #[.bool s.has, .string s.val] 45 (0, 0)
/-- Three boxed sides and a fourth block, in a row. -/
structure Box3 (N : Nat) (W : World) (a b c d : Side) : Prop where
  a : W.heap[N]? = some (bxS a)
  b : W.heap[N + 1]? = some (bxS b)
  c : W.heap[N + 2]? = some (bxS c)
  d : W.heap[N + 3]? = some (bxS d)
theorem Box3.cells {N : Nat} {W : World} {a b c d : Side} (h : Box3 N W a b c d) :
    (W.cell? ⟨N, 0, none⟩ = some (.bool a.has) ∧ W.cell? ⟨N, 1, none⟩ = some (.string a.val)) ∧ (W.cell? ⟨N + 1, 0, none⟩ = some (.bool b.has) ∧ W.cell? ⟨N + 1, 1, none⟩ = some (.string b.val)) ∧
    (W.cell? ⟨N + 2, 0, none⟩ = some (.bool c.has) ∧ W.cell? ⟨N + 2, 1, none⟩ = some (.string c.val)) ∧ (W.cell? ⟨N + 3, 0, none⟩ = some (.bool d.has) ∧ W.cell? ⟨N + 3, 1, none⟩ = some (.string d.val)) ∧
    (∀ i, W.frozen? ⟨N, i, none⟩ = false) ∧ (∀ i, W.frozen? ⟨N + 1, i, none⟩ = false) ∧ (∀ i, W.frozen? ⟨N + 2, i, none⟩ = false) ∧ (∀ i, W.frozen? ⟨N + 3, i, none⟩ = false) :=
  ⟨side_cells h.a, side_cells h.b, side_cells h.c, side_cells h.d, fun i => blk_free h.a i, fun i => blk_free h.b i, fun i => blk_free h.c i, fun i => blk_free h.d i⟩
theorem Box3.below {N : Nat} {W W' : World} {a b c d : Side} (h : Box3 N W a b c d) (hb : Below W.heap.size W W') : Box3 N W' a b c d :=
  ⟨blk_below hb h.a (blk_lt h.a), blk_below hb h.b (blk_lt h.b), blk_below hb h.c (blk_lt h.c), blk_below hb h.d (blk_lt h.d)⟩
theorem Box3.drew {N : Nat} {W : World} {a b c d : Side} (h : Box3 N W a b c d) : Box3 N W.drew a b c d := ⟨h.a, h.b, h.c, h.d⟩
theorem Box3.made (w : World) (a b c d : Side) : Box3 w.heap.size ((((w.alloc (bxS a)).alloc (bxS b)).alloc (bxS c)).alloc (bxS d)) a b c d := by
  have e1 : (w.alloc (bxS a)).heap.size = w.heap.size + 1 := World.size_alloc _ _
  have e2 : ((w.alloc (bxS a)).alloc (bxS b)).heap.size = w.heap.size + 2 := by rw [World.size_alloc, e1]
  have e3 : (((w.alloc (bxS a)).alloc (bxS b)).alloc (bxS c)).heap.size = w.heap.size + 3 := by rw [World.size_alloc, e2]
  refine ⟨blk_alloc (blk_alloc (blk_alloc (blk_new _ _) _) _) _, blk_alloc (blk_alloc ?_ _) _, blk_alloc ?_ _, ?_⟩
  · have := blk_new (w.alloc (bxS a)) (bxS b); rwa [e1] at this
  · have := blk_new ((w.alloc (bxS a)).alloc (bxS b)) (bxS c); rwa [e2] at this
  · have := blk_new (((w.alloc (bxS a)).alloc (bxS b)).alloc (bxS c)) (bxS d); rwa [e3] at this
theorem Box3.set0 {N : Nat} {W : World} {a b c d : Side} (h : Box3 N W a b c d) : Box3 N ((W.setCell ⟨N, 0, none⟩ (.bool a.has)).setCell ⟨N, 1, none⟩ (.string a.val)) a b c d :=
  ⟨blk_set (blk_set h.a 0 _) 1 _, blk_far (blk_far h.b (by simp) _) (by simp) _, blk_far (blk_far h.c (by simp) _) (by simp) _, blk_far (blk_far h.d (by simp) _) (by simp) _⟩
theorem Box3.set1 {N : Nat} {W : World} {a b c d : Side} (h : Box3 N W a b c d) : Box3 N ((W.setCell ⟨N + 1, 0, none⟩ (.bool b.has)).setCell ⟨N + 1, 1, none⟩ (.string b.val)) a b c d :=
  ⟨blk_far (blk_far h.a (by simp) _) (by simp) _, blk_set (blk_set h.b 0 _) 1 _, blk_far (blk_far h.c (by simp) _) (by simp) _, blk_far (blk_far h.d (by simp) _) (by simp) _⟩
theorem Box3.set2 {N : Nat} {W : World} {a b c d : Side} (h : Box3 N W a b c d) : Box3 N ((W.setCell ⟨N + 1 + 1, 0, none⟩ (.bool c.has)).setCell ⟨N + 1 + 1, 1, none⟩ (.string c.val)) a b c d :=
  ⟨blk_far (blk_far h.a (by simp; omega) _) (by simp; omega) _, blk_far (blk_far h.b (by simp) _) (by simp) _, blk_set (blk_set h.c 0 _) 1 _, blk_far (blk_far h.d (by simp) _) (by simp) _⟩

theorem rowOf_two (w : World) (o : Obj) (cs : Array Value) (t : TypeId) (fr : Nat × Nat) : rowOf ((w.alloc o).alloc (.cells cs t fr)) (w.heap.size + 1) = some cs := by
  have := rowOf_new (w.alloc o) cs t fr
  rwa [World.size_alloc] at this
theorem rowOf_two' (w : World) (o : Obj) (cs : Array Value) (t : TypeId) (fr : Nat × Nat) (i : Nat) (v : Value) : rowOf (((w.alloc o).alloc (.cells cs t fr)).setCell ⟨w.heap.size, i, none⟩ v) (w.heap.size + 1) = some cs := by
  rw [rowOf_far (by simp), rowOf_two]
theorem plain_t {s : Side} (h : s.has = true) : plainS s = s := by simp [plainS, h]
theorem plain_f {s : Side} (h : s.has = false) : plainS s = noSide := by simp [plainS, h]

set_option maxRecDepth 100000 in
theorem mplain_calls (w : World) (s : Side) :
    Calls Try.prog 83 #[.agg #[.bool s.has, .string s.val]] w fun e w' => e = .returned (.agg #[.bool (plainS s).has, .string (plainS s).val]) ∧ Below w.heap.size w w' := by
  obtain ⟨has, val⟩ := s
  cases has
  · rw [plain_f rfl]
    go_enter Try.func83, Try.ntmps83
    go_wp2
    refine ret_row #[.bool false, .string ⟨#[]⟩] rfl rfl Try.underlying45 rfl rfl (by kernel_rfl) (by simp [rowOf_set, rowOf_two, rowOf_two']) ⟨rfl, ?_⟩
    repeat (first | exact Below.refl _ _ | refine bl_set ?_ (by simp) _ | refine bl_alloc ?_ _)
  · rw [plain_t rfl]
    go_enter Try.func83, Try.ntmps83
    go_wp2
    refine ret_row #[.bool true, .string val] rfl rfl Try.underlying45 rfl rfl (by kernel_rfl) (by simp [rowOf_set, rowOf_two, rowOf_two']) ⟨rfl, ?_⟩
    repeat (first | exact Below.refl _ _ | refine bl_set ?_ (by simp) _ | refine bl_alloc ?_ _)
set_option maxRecDepth 100000 in
theorem rplain_calls (w : World) (s : Side) :
    Calls Try.prog 86 #[.agg #[.bool s.has, .string s.val]] w fun e w' => e = .returned (.agg #[.bool (plainS s).has, .string (plainS s).val]) ∧ Below w.heap.size w w' := by
  obtain ⟨has, val⟩ := s
  cases has
  · rw [plain_f rfl]
    go_enter Try.func86, Try.ntmps86
    go_wp2
    refine ret_row #[.bool false, .string ⟨#[]⟩] rfl rfl Try.underlying45 rfl rfl (by kernel_rfl) (by simp [rowOf_set, rowOf_two, rowOf_two']) ⟨rfl, ?_⟩
    repeat (first | exact Below.refl _ _ | refine bl_set ?_ (by simp) _ | refine bl_alloc ?_ _)
  · rw [plain_t rfl]
    go_enter Try.func86, Try.ntmps86
    go_wp2
    refine ret_row #[.bool true, .string val] rfl rfl Try.underlying45 rfl rfl (by kernel_rfl) (by simp [rowOf_set, rowOf_two, rowOf_two']) ⟨rfl, ?_⟩
    repeat (first | exact Below.refl _ _ | refine bl_set ?_ (by simp) _ | refine bl_alloc ?_ _)

set_option maxRecDepth 100000 in
set_option maxHeartbeats 1000000 in
theorem Key_calls (w : World) (b o t : Side) (hb : plainS b = b) (ho : plainS o = o) (ht : plainS t = t) :
    Calls Try.prog 49 #[.agg #[.bool b.has, .string b.val], .agg #[.bool o.has, .string o.val], .agg #[.bool t.has, .string t.val]] w fun e w' =>
      e = .returned (.tuple #[.agg #[.bool (pickP b o t).1.has, .string (pickP b o t).1.val], .bool (pickP b o t).2]) ∧ Below w.heap.size w w' := by
  have hB0 := Lib.hid (Box3.made w b o t noSide)
  have hW0 : Hid (Below w.heap.size w ((((w.alloc (bxS b)).alloc (bxS o)).alloc (bxS t)).alloc (bxS noSide))) := bl_alloc (bl_alloc (bl_alloc (bl_alloc (Below.refl _ _) _) _) _) _
  have HP := Lib.hid (show ∀ W, Calls Try.prog 83 #[.agg #[.bool b.has, .string b.val]] W fun e w' => e = .returned (.agg #[.bool b.has, .string b.val]) ∧ Below W.heap.size W w' from fun W => by have := mplain_calls W b; rwa [hb] at this)
  have HO := Lib.hid (show ∀ W, Calls Try.prog 83 #[.agg #[.bool o.has, .string o.val]] W fun e w' => e = .returned (.agg #[.bool o.has, .string o.val]) ∧ Below W.heap.size W w' from fun W => by have := mplain_calls W o; rwa [ho] at this)
  have HT := Lib.hid (show ∀ W, Calls Try.prog 83 #[.agg #[.bool t.has, .string t.val]] W fun e w' => e = .returned (.agg #[.bool t.has, .string t.val]) ∧ Below W.heap.size W w' from fun W => by have := mplain_calls W t; rwa [ht] at this)
  clear hb ho ht
  go_enter Try.func49, Try.ntmps49
  go_upto_region 1 with fail
  generalize hW : ((((w.alloc (.cells #[.bool b.has, .string b.val] 45)).alloc (.cells #[.bool o.has, .string o.val] 45)).alloc (.cells #[.bool t.has, .string t.val] 45)).alloc (.cells #[.bool false, .string ⟨#[]⟩] 45)) = W at *
  have hB1 : Hid (Box3 w.heap.size W b o t noSide) := by rw [← hW]; exact hB0
  have hW1 : Hid (Below w.heap.size w W) := by rw [← hW]; exact hW0
  clear hB0 hW0 hW
  refine wp_region_noPanic ?_
  refine wp_region_held_drew (S := (fun W' => Hid (Box3 w.heap.size W' b o t noSide ∧ Below w.heap.size w W'))) (by kernel_rfl) (⟨hB1.out.drew, hW1.out.drew⟩) (fun hHeld => ?_)
  refine wpAnyH_take (i := 0) (oi := ⟨some 8, _, _, _, _, _⟩) (v := ?_) rfl (by kernel_rfl) (by kernel_rfl) (by kernel_rfl) (fun _ _ _ h => h) (Or.inl ⟨by rfl, ?_⟩) (by assumption) ?_
  rotate_left
  · (intro w hSw; (try dsimp only at hSw); obtain ⟨⟨a0, a1⟩, ⟨b0, b1⟩, ⟨d0, d1⟩, -⟩ := hSw.out.1.cells; (go_simp <;> with_reducible rfl))
  try simp only [Act.put, List.setIfInBounds_toArray, List.set_cons_zero, List.set_cons_succ]
  refine wpAnyH_take (i := 2) (oi := ⟨some 10, _, _, _, _, _⟩) (v := ?_) rfl (by kernel_rfl) (by kernel_rfl) (by kernel_rfl) (fun _ _ _ h => h) (Or.inl ⟨by rfl, ?_⟩) (by assumption) ?_
  rotate_left
  · (intro w hSw; (try dsimp only at hSw); obtain ⟨⟨a0, a1⟩, ⟨b0, b1⟩, ⟨d0, d1⟩, -⟩ := hSw.out.1.cells; (go_simp <;> with_reducible rfl))
  try simp only [Act.put, List.setIfInBounds_toArray, List.set_cons_zero, List.set_cons_succ]
  refine wpAnyH_take (i := 4) (oi := ⟨some 12, _, _, _, _, _⟩) (v := ?_) rfl (by kernel_rfl) (by kernel_rfl) (by kernel_rfl) (fun _ _ _ h => h) (Or.inl ⟨by rfl, ?_⟩) (by assumption) ?_
  rotate_left
  · (intro w hSw; (try dsimp only at hSw); obtain ⟨⟨a0, a1⟩, ⟨b0, b1⟩, ⟨d0, d1⟩, -⟩ := hSw.out.1.cells; (go_simp <;> with_reducible rfl))
  try simp only [Act.put, List.setIfInBounds_toArray, List.set_cons_zero, List.set_cons_succ]
  refine wpAnyH_ready (rs := [1]) (by kernel_rfl) (by simp) ?_
  refine AllReadyH.cons rfl (fun K hK => ?_) AllReadyH.nil
  go_simp
  go_at_call 83
  with_reducible refine (HP.out _).mono ?_
  rintro e w1 ⟨rfl, k1⟩
  have S1 : Hid (Box3 w.heap.size w1 b o t noSide ∧ Below w.heap.size w w1) := ⟨hB1.out.drew.below k1, bl_then hW1.out.drew hW1.out.size k1⟩
  clear k1
  refine hK.out _ _ (by assumption) (fun _ => ?_)
  clear hK K
  try simp only [Act.put, List.setIfInBounds_toArray, List.set_cons_zero, List.set_cons_succ]
  refine wpAnyH_ready (rs := [3]) (by kernel_rfl) (by simp) ?_
  refine AllReadyH.cons rfl (fun K hK => ?_) AllReadyH.nil
  go_simp
  go_at_call 83
  with_reducible refine (HO.out _).mono ?_
  rintro e w2 ⟨rfl, k1⟩
  have S2 : Hid (Box3 w.heap.size w2 b o t noSide ∧ Below w.heap.size w w2) := ⟨S1.out.1.below k1, bl_then S1.out.2 S1.out.2.size k1⟩
  clear k1 S1
  refine hK.out _ _ (by assumption) (fun _ => ?_)
  clear hK K
  try simp only [Act.put, List.setIfInBounds_toArray, List.set_cons_zero, List.set_cons_succ]
  refine wpAnyH_ready (rs := [5]) (by kernel_rfl) (by simp) ?_
  refine AllReadyH.cons rfl (fun K hK => ?_) AllReadyH.nil
  go_simp
  go_at_call 83
  with_reducible refine (HT.out _).mono ?_
  rintro e w3 ⟨rfl, k1⟩
  have S3 : Hid (Box3 w.heap.size w3 b o t noSide ∧ Below w.heap.size w w3) := ⟨S2.out.1.below k1, bl_then S2.out.2 S2.out.2.size k1⟩
  clear k1 S2
  refine hK.out _ _ (by assumption) (fun _ => ?_)
  clear hK K
  try simp only [Act.put, List.setIfInBounds_toArray, List.set_cons_zero, List.set_cons_succ]
  refine wpAnyH_ready (rs := [6]) (by kernel_rfl) (by simp) ?_
  refine AllReadyH.cons rfl (fun K hK => ?_) AllReadyH.nil
  obtain ⟨⟨a0, a1⟩, ⟨b0, b1⟩, ⟨d0, d1⟩, -, f0, f1, f2, -⟩ := S3.out.1.cells
  go_simp
  have S4 : Hid (Box3 w.heap.size ((w3.setCell ⟨w.heap.size, 0, none⟩ (.bool b.has)).setCell ⟨w.heap.size, 1, none⟩ (.string b.val)) b o t noSide ∧ Below w.heap.size w ((w3.setCell ⟨w.heap.size, 0, none⟩ (.bool b.has)).setCell ⟨w.heap.size, 1, none⟩ (.string b.val))) := ⟨S3.out.1.set0, bl_set (bl_set S3.out.2 (Nat.le_refl _) _) (Nat.le_refl _) _⟩
  clear S3 a0 a1 b0 b1 d0 d1 f0 f1 f2
  refine hK.out _ _ (by assumption) (fun _ => ?_)
  clear hK K
  try simp only [Act.put, List.setIfInBounds_toArray, List.set_cons_zero, List.set_cons_succ]
  refine wpAnyH_ready (rs := [7]) (by kernel_rfl) (by simp) ?_
  refine AllReadyH.cons rfl (fun K hK => ?_) AllReadyH.nil
  generalize (w3.setCell ⟨w.heap.size, 0, none⟩ (.bool b.has)).setCell ⟨w.heap.size, 1, none⟩ (.string b.val) = w4 at *
  obtain ⟨⟨a0, a1⟩, ⟨b0, b1⟩, ⟨d0, d1⟩, -, f0, f1, f2, -⟩ := S4.out.1.cells
  go_simp
  have S5 : Hid (Box3 w.heap.size ((w4.setCell ⟨w.heap.size + 1, 0, none⟩ (.bool o.has)).setCell ⟨w.heap.size + 1, 1, none⟩ (.string o.val)) b o t noSide ∧ Below w.heap.size w ((w4.setCell ⟨w.heap.size + 1, 0, none⟩ (.bool o.has)).setCell ⟨w.heap.size + 1, 1, none⟩ (.string o.val))) := ⟨S4.out.1.set1, bl_set (bl_set S4.out.2 (Nat.le_succ _) _) (Nat.le_succ _) _⟩
  clear S4 a0 a1 b0 b1 d0 d1 f0 f1 f2
  refine hK.out _ _ (by assumption) (fun _ => ?_)
  clear hK K
  try simp only [Act.put, List.setIfInBounds_toArray, List.set_cons_zero, List.set_cons_succ]
  refine wpAnyH_ready (rs := [8]) (by kernel_rfl) (by simp) ?_
  refine AllReadyH.cons rfl (fun K hK => ?_) AllReadyH.nil
  generalize (w4.setCell ⟨w.heap.size + 1, 0, none⟩ (.bool o.has)).setCell ⟨w.heap.size + 1, 1, none⟩ (.string o.val) = w5 at *
  obtain ⟨⟨a0, a1⟩, ⟨b0, b1⟩, ⟨d0, d1⟩, -, f0, f1, f2, -⟩ := S5.out.1.cells
  go_simp
  have S6 : Hid (Box3 w.heap.size ((w5.setCell ⟨w.heap.size + 1 + 1, 0, none⟩ (.bool t.has)).setCell ⟨w.heap.size + 1 + 1, 1, none⟩ (.string t.val)) b o t noSide ∧ Below w.heap.size w ((w5.setCell ⟨w.heap.size + 1 + 1, 0, none⟩ (.bool t.has)).setCell ⟨w.heap.size + 1 + 1, 1, none⟩ (.string t.val))) := ⟨S5.out.1.set2, bl_set (bl_set S5.out.2 (by omega) _) (by omega) _⟩
  clear S5 a0 a1 b0 b1 d0 d1 f0 f1 f2
  refine hK.out _ _ (by assumption) (fun _ => ?_)
  clear hK K
  try simp only [Act.put, List.setIfInBounds_toArray, List.set_cons_zero, List.set_cons_succ]
  refine wpAnyH_done (by kernel_rfl) ?_ _
  refine NoPanic.normal ?_
  generalize (w5.setCell ⟨w.heap.size + 1 + 1, 0, none⟩ (.bool t.has)).setCell ⟨w.heap.size + 1 + 1, 1, none⟩ (.string t.val) = w6 at *
  obtain ⟨⟨a0, a1⟩, ⟨b0, b1⟩, ⟨d0, d1⟩, ⟨x0, x1⟩, f0, f1, f2, f3⟩ := S6.out.1.cells
  have hB := Lib.hid S6.out.2
  have hD := Lib.hid S6.out.1.d
  clear HP HO HT hB1 hW1 S6
  by_cases h1 : o = t
  · have e1 : decide (o = t) = true := decide_eq_true h1
    have hp : Hid (pickP b o t = (o, true)) := by show _ = _; simp [pickP, h1]
    clear h1
    go_wp2
    refine ret_row_slot #[.bool o.has, .string o.val] (g := w.heap.size + 3) (by rfl) (by rfl) Try.underlying45 (by rfl) rfl (by kernel_rfl) (rowOf_blk (blk_set (blk_set hD.out 0 _) 1 _)) ?_
    exact ⟨by rw [hp.out]; rfl, bl_set (bl_set hB.out (by omega) _) (by omega) _⟩
  · have e1 : decide (o = t) = false := decide_eq_false h1
    by_cases h2 : t = b
    · have e2 : decide (t = b) = true := decide_eq_true h2
      have hp : Hid (pickP b o t = (o, true)) := by show _ = _; simp [pickP, h2]
      clear h1 h2
      go_wp2
      refine ret_row_slot #[.bool o.has, .string o.val] (g := w.heap.size + 3) (by rfl) (by rfl) Try.underlying45 (by rfl) rfl (by kernel_rfl) (rowOf_blk (blk_set (blk_set hD.out 0 _) 1 _)) ?_
      exact ⟨by rw [hp.out]; rfl, bl_set (bl_set hB.out (by omega) _) (by omega) _⟩
    · have e2 : decide (t = b) = false := decide_eq_false h2
      by_cases h3 : o = b
      · have e3 : decide (o = b) = true := decide_eq_true h3
        have hp : Hid (pickP b o t = (t, true)) := by show _ = _; simp [pickP, h1, h2, h3]
        clear h1 h2 h3
        go_wp2
        refine ret_row_slot #[.bool t.has, .string t.val] (g := w.heap.size + 3) (by rfl) (by rfl) Try.underlying45 (by rfl) rfl (by kernel_rfl) (rowOf_blk (blk_set (blk_set hD.out 0 _) 1 _)) ?_
        exact ⟨by rw [hp.out]; rfl, bl_set (bl_set hB.out (by omega) _) (by omega) _⟩
      · have e3 : decide (o = b) = false := decide_eq_false h3
        have hp : Hid (pickP b o t = (o, false)) := by show _ = _; simp [pickP, h1, h2, h3]
        clear h1 h2 h3
        go_wp2
        refine ret_row_slot #[.bool o.has, .string o.val] (g := w.heap.size + 3) (by rfl) (by rfl) Try.underlying45 (by rfl) rfl (by kernel_rfl) (rowOf_blk (blk_set (blk_set hD.out 0 _) 1 _)) ?_
        exact ⟨by rw [hp.out]; rfl, bl_set (bl_set hB.out (by omega) _) (by omega) _⟩
set_option maxRecDepth 100000 in
set_option maxHeartbeats 1000000 in
theorem Pick_calls (w : World) (b o t : Side) (hb : plainS b = b) (ho : plainS o = o) (ht : plainS t = t) :
    Calls Try.prog 53 #[.agg #[.bool b.has, .string b.val], .agg #[.bool o.has, .string o.val], .agg #[.bool t.has, .string t.val]] w fun e w' =>
      e = .returned (.tuple #[.agg #[.bool (pickP b o t).1.has, .string (pickP b o t).1.val], .bool (pickP b o t).2]) ∧ Below w.heap.size w w' := by
  have hB0 := Lib.hid (Box3.made w b o t noSide)
  have hW0 : Hid (Below w.heap.size w ((((w.alloc (bxS b)).alloc (bxS o)).alloc (bxS t)).alloc (bxS noSide))) := bl_alloc (bl_alloc (bl_alloc (bl_alloc (Below.refl _ _) _) _) _) _
  have HP := Lib.hid (show ∀ W, Calls Try.prog 86 #[.agg #[.bool b.has, .string b.val]] W fun e w' => e = .returned (.agg #[.bool b.has, .string b.val]) ∧ Below W.heap.size W w' from fun W => by have := rplain_calls W b; rwa [hb] at this)
  have HO := Lib.hid (show ∀ W, Calls Try.prog 86 #[.agg #[.bool o.has, .string o.val]] W fun e w' => e = .returned (.agg #[.bool o.has, .string o.val]) ∧ Below W.heap.size W w' from fun W => by have := rplain_calls W o; rwa [ho] at this)
  have HT := Lib.hid (show ∀ W, Calls Try.prog 86 #[.agg #[.bool t.has, .string t.val]] W fun e w' => e = .returned (.agg #[.bool t.has, .string t.val]) ∧ Below W.heap.size W w' from fun W => by have := rplain_calls W t; rwa [ht] at this)
  clear hb ho ht
  go_enter Try.func53, Try.ntmps53
  go_upto_region 1 with fail
  generalize hW : ((((w.alloc (.cells #[.bool b.has, .string b.val] 45)).alloc (.cells #[.bool o.has, .string o.val] 45)).alloc (.cells #[.bool t.has, .string t.val] 45)).alloc (.cells #[.bool false, .string ⟨#[]⟩] 45)) = W at *
  have hB1 : Hid (Box3 w.heap.size W b o t noSide) := by rw [← hW]; exact hB0
  have hW1 : Hid (Below w.heap.size w W) := by rw [← hW]; exact hW0
  clear hB0 hW0 hW
  refine wp_region_noPanic ?_
  refine wp_region_held_drew (S := (fun W' => Hid (Box3 w.heap.size W' b o t noSide ∧ Below w.heap.size w W'))) (by kernel_rfl) (⟨hB1.out.drew, hW1.out.drew⟩) (fun hHeld => ?_)
  refine wpAnyH_take (i := 0) (oi := ⟨some 8, _, _, _, _, _⟩) (v := ?_) rfl (by kernel_rfl) (by kernel_rfl) (by kernel_rfl) (fun _ _ _ h => h) (Or.inl ⟨by rfl, ?_⟩) (by assumption) ?_
  rotate_left
  · (intro w hSw; (try dsimp only at hSw); obtain ⟨⟨a0, a1⟩, ⟨b0, b1⟩, ⟨d0, d1⟩, -⟩ := hSw.out.1.cells; (go_simp <;> with_reducible rfl))
  try simp only [Act.put, List.setIfInBounds_toArray, List.set_cons_zero, List.set_cons_succ]
  refine wpAnyH_take (i := 2) (oi := ⟨some 10, _, _, _, _, _⟩) (v := ?_) rfl (by kernel_rfl) (by kernel_rfl) (by kernel_rfl) (fun _ _ _ h => h) (Or.inl ⟨by rfl, ?_⟩) (by assumption) ?_
  rotate_left
  · (intro w hSw; (try dsimp only at hSw); obtain ⟨⟨a0, a1⟩, ⟨b0, b1⟩, ⟨d0, d1⟩, -⟩ := hSw.out.1.cells; (go_simp <;> with_reducible rfl))
  try simp only [Act.put, List.setIfInBounds_toArray, List.set_cons_zero, List.set_cons_succ]
  refine wpAnyH_take (i := 4) (oi := ⟨some 12, _, _, _, _, _⟩) (v := ?_) rfl (by kernel_rfl) (by kernel_rfl) (by kernel_rfl) (fun _ _ _ h => h) (Or.inl ⟨by rfl, ?_⟩) (by assumption) ?_
  rotate_left
  · (intro w hSw; (try dsimp only at hSw); obtain ⟨⟨a0, a1⟩, ⟨b0, b1⟩, ⟨d0, d1⟩, -⟩ := hSw.out.1.cells; (go_simp <;> with_reducible rfl))
  try simp only [Act.put, List.setIfInBounds_toArray, List.set_cons_zero, List.set_cons_succ]
  refine wpAnyH_ready (rs := [1]) (by kernel_rfl) (by simp) ?_
  refine AllReadyH.cons rfl (fun K hK => ?_) AllReadyH.nil
  go_simp
  go_at_call 86
  with_reducible refine (HP.out _).mono ?_
  rintro e w1 ⟨rfl, k1⟩
  have S1 : Hid (Box3 w.heap.size w1 b o t noSide ∧ Below w.heap.size w w1) := ⟨hB1.out.drew.below k1, bl_then hW1.out.drew hW1.out.size k1⟩
  clear k1
  refine hK.out _ _ (by assumption) (fun _ => ?_)
  clear hK K
  try simp only [Act.put, List.setIfInBounds_toArray, List.set_cons_zero, List.set_cons_succ]
  refine wpAnyH_ready (rs := [3]) (by kernel_rfl) (by simp) ?_
  refine AllReadyH.cons rfl (fun K hK => ?_) AllReadyH.nil
  go_simp
  go_at_call 86
  with_reducible refine (HO.out _).mono ?_
  rintro e w2 ⟨rfl, k1⟩
  have S2 : Hid (Box3 w.heap.size w2 b o t noSide ∧ Below w.heap.size w w2) := ⟨S1.out.1.below k1, bl_then S1.out.2 S1.out.2.size k1⟩
  clear k1 S1
  refine hK.out _ _ (by assumption) (fun _ => ?_)
  clear hK K
  try simp only [Act.put, List.setIfInBounds_toArray, List.set_cons_zero, List.set_cons_succ]
  refine wpAnyH_ready (rs := [5]) (by kernel_rfl) (by simp) ?_
  refine AllReadyH.cons rfl (fun K hK => ?_) AllReadyH.nil
  go_simp
  go_at_call 86
  with_reducible refine (HT.out _).mono ?_
  rintro e w3 ⟨rfl, k1⟩
  have S3 : Hid (Box3 w.heap.size w3 b o t noSide ∧ Below w.heap.size w w3) := ⟨S2.out.1.below k1, bl_then S2.out.2 S2.out.2.size k1⟩
  clear k1 S2
  refine hK.out _ _ (by assumption) (fun _ => ?_)
  clear hK K
  try simp only [Act.put, List.setIfInBounds_toArray, List.set_cons_zero, List.set_cons_succ]
  refine wpAnyH_ready (rs := [6]) (by kernel_rfl) (by simp) ?_
  refine AllReadyH.cons rfl (fun K hK => ?_) AllReadyH.nil
  obtain ⟨⟨a0, a1⟩, ⟨b0, b1⟩, ⟨d0, d1⟩, -, f0, f1, f2, -⟩ := S3.out.1.cells
  go_simp
  have S4 : Hid (Box3 w.heap.size ((w3.setCell ⟨w.heap.size, 0, none⟩ (.bool b.has)).setCell ⟨w.heap.size, 1, none⟩ (.string b.val)) b o t noSide ∧ Below w.heap.size w ((w3.setCell ⟨w.heap.size, 0, none⟩ (.bool b.has)).setCell ⟨w.heap.size, 1, none⟩ (.string b.val))) := ⟨S3.out.1.set0, bl_set (bl_set S3.out.2 (Nat.le_refl _) _) (Nat.le_refl _) _⟩
  clear S3 a0 a1 b0 b1 d0 d1 f0 f1 f2
  refine hK.out _ _ (by assumption) (fun _ => ?_)
  clear hK K
  try simp only [Act.put, List.setIfInBounds_toArray, List.set_cons_zero, List.set_cons_succ]
  refine wpAnyH_ready (rs := [7]) (by kernel_rfl) (by simp) ?_
  refine AllReadyH.cons rfl (fun K hK => ?_) AllReadyH.nil
  generalize (w3.setCell ⟨w.heap.size, 0, none⟩ (.bool b.has)).setCell ⟨w.heap.size, 1, none⟩ (.string b.val) = w4 at *
  obtain ⟨⟨a0, a1⟩, ⟨b0, b1⟩, ⟨d0, d1⟩, -, f0, f1, f2, -⟩ := S4.out.1.cells
  go_simp
  have S5 : Hid (Box3 w.heap.size ((w4.setCell ⟨w.heap.size + 1, 0, none⟩ (.bool o.has)).setCell ⟨w.heap.size + 1, 1, none⟩ (.string o.val)) b o t noSide ∧ Below w.heap.size w ((w4.setCell ⟨w.heap.size + 1, 0, none⟩ (.bool o.has)).setCell ⟨w.heap.size + 1, 1, none⟩ (.string o.val))) := ⟨S4.out.1.set1, bl_set (bl_set S4.out.2 (Nat.le_succ _) _) (Nat.le_succ _) _⟩
  clear S4 a0 a1 b0 b1 d0 d1 f0 f1 f2
  refine hK.out _ _ (by assumption) (fun _ => ?_)
  clear hK K
  try simp only [Act.put, List.setIfInBounds_toArray, List.set_cons_zero, List.set_cons_succ]
  refine wpAnyH_ready (rs := [8]) (by kernel_rfl) (by simp) ?_
  refine AllReadyH.cons rfl (fun K hK => ?_) AllReadyH.nil
  generalize (w4.setCell ⟨w.heap.size + 1, 0, none⟩ (.bool o.has)).setCell ⟨w.heap.size + 1, 1, none⟩ (.string o.val) = w5 at *
  obtain ⟨⟨a0, a1⟩, ⟨b0, b1⟩, ⟨d0, d1⟩, -, f0, f1, f2, -⟩ := S5.out.1.cells
  go_simp
  have S6 : Hid (Box3 w.heap.size ((w5.setCell ⟨w.heap.size + 1 + 1, 0, none⟩ (.bool t.has)).setCell ⟨w.heap.size + 1 + 1, 1, none⟩ (.string t.val)) b o t noSide ∧ Below w.heap.size w ((w5.setCell ⟨w.heap.size + 1 + 1, 0, none⟩ (.bool t.has)).setCell ⟨w.heap.size + 1 + 1, 1, none⟩ (.string t.val))) := ⟨S5.out.1.set2, bl_set (bl_set S5.out.2 (by omega) _) (by omega) _⟩
  clear S5 a0 a1 b0 b1 d0 d1 f0 f1 f2
  refine hK.out _ _ (by assumption) (fun _ => ?_)
  clear hK K
  try simp only [Act.put, List.setIfInBounds_toArray, List.set_cons_zero, List.set_cons_succ]
  refine wpAnyH_done (by kernel_rfl) ?_ _
  refine NoPanic.normal ?_
  generalize (w5.setCell ⟨w.heap.size + 1 + 1, 0, none⟩ (.bool t.has)).setCell ⟨w.heap.size + 1 + 1, 1, none⟩ (.string t.val) = w6 at *
  obtain ⟨⟨a0, a1⟩, ⟨b0, b1⟩, ⟨d0, d1⟩, ⟨x0, x1⟩, f0, f1, f2, f3⟩ := S6.out.1.cells
  have hB := Lib.hid S6.out.2
  have hD := Lib.hid S6.out.1.d
  clear HP HO HT hB1 hW1 S6
  by_cases h1 : o = t
  · have e1 : decide (o = t) = true := decide_eq_true h1
    have hp : Hid (pickP b o t = (o, true)) := by show _ = _; simp [pickP, h1]
    clear h1
    go_wp2
    refine ret_row_slot #[.bool o.has, .string o.val] (g := w.heap.size + 3) (by rfl) (by rfl) Try.underlying45 (by rfl) rfl (by kernel_rfl) (rowOf_blk (blk_set (blk_set hD.out 0 _) 1 _)) ?_
    exact ⟨by rw [hp.out]; rfl, bl_set (bl_set hB.out (by omega) _) (by omega) _⟩
  · have e1 : decide (o = t) = false := decide_eq_false h1
    by_cases h3 : o = b
    · have e3 : decide (o = b) = true := decide_eq_true h3
      have hp : Hid (pickP b o t = (t, true)) := by
        show _ = _
        rw [← pick_ref]
        rw [if_neg h1, if_pos h3]
      clear h1 h3
      go_wp2
      refine ret_row_slot #[.bool t.has, .string t.val] (g := w.heap.size + 3) (by rfl) (by rfl) Try.underlying45 (by rfl) rfl (by kernel_rfl) (rowOf_blk (blk_set (blk_set hD.out 0 _) 1 _)) ?_
      exact ⟨by rw [hp.out]; rfl, bl_set (bl_set hB.out (by omega) _) (by omega) _⟩
    · have e3 : decide (o = b) = false := decide_eq_false h3
      have hp : Hid (pickP b o t = (o, decide (t = b))) := by
        show _ = _
        rw [← pick_ref]
        rw [if_neg h1, if_neg h3]
      clear h1 h3
      go_wp2_with fail
      go_region_law (fail)
      all_goals go_wp2
      all_goals refine ret_row_slot #[.bool o.has, .string o.val] (g := w.heap.size + 3) (by rfl) (by rfl) Try.underlying45 (by rfl) rfl (by kernel_rfl) (rowOf_blk (blk_set (blk_set (blk_drew hD.out) 0 _) 1 _)) ?_
      all_goals exact ⟨by rw [hp.out]; rfl, bl_set (bl_set hB.out.drew (by omega) _) (by omega) _⟩
end Go.Proofs.Ytofdmkglhjpbcaa
