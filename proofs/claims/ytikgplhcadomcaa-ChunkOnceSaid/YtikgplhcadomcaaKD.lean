/- slices.Insert of one span. The last row made longer, in place; a row put behind; what extent.Free's Give is made of. extent.Free: Give, up to its loop. -/
import Derived.Test.YtikgplhcadomcaaKC
import Derived.Lib.AppendZerosOnto
import Derived.Lib.Overlaps
namespace Go.Proofs.Ytikgplhcadomcaa
open Go.RowKit
set_option linter.unusedVariables false
set_option linter.unusedSimpArgs false

/-- Cells over those from o on. -/
def spl (l : List Value) (o : Nat) (cs : List Value) : List Value := l.take o ++ cs ++ l.drop (o + cs.length)
theorem spl_len {l : List Value} {o : Nat} {cs : List Value} (h : o + cs.length ≤ l.length) : (spl l o cs).length = l.length := by
  simp only [spl, List.length_append, List.length_take, List.length_drop]; omega
/-- copy into a block that is known whole. -/
theorem run_copy_blk {P : Program} (w : World) (dT sT ty elem : TypeId) (i : TypeInfo) (hu : P.underlying dT = some (.slice elem)) (hi : P.info? elem = some i) (g o dLen dCap : Nat) (cur : Array Value) (t : TypeId) (hg : w.heap[g]? = some (.cells cur t (0, 0)))
    (src : Value) (sLen n : Nat) (hlen : ∀ w', (Builtin.lenOf src).run P w' = .ok sLen w') (hn : Nat.min sLen dLen = n) (cs : List Value) (hc : (Builtin.firstCells i.size n src).run P w = .ok cs.toArray w) (hfit : o + cs.length ≤ cur.size) (h1 : ∀ v ∈ cs, v.oneCell' = true) :
    (Builtin.copy_ #[dT, sT] ty #[.slice (some ⟨g, o, none⟩) dLen dCap, src]).run P w = .ok (goInt n) (w.setRow g (spl cur.toList o cs).toArray) := by
  have hst := run_storeCells_at P g o t cs 0 cur w hg (by simpa using hfit) h1
  have e : Nat.min sLen dLen = n := hn
  simp [Builtin.copy_, run_underlying hu, hlen, sizeOf, typeInfo, hi, e, hc, hst, spl]
theorem op_copy {P : Program} {o : Oper} {a : Act} {W W' : World} {K : Act → World → Prop} {Q : Exit → Act → World → Prop} (d s : Operand) (t t' : TypeId)
    (ho : o.op = .call { callee := .builtin .copy, args := #[d, s], argTypes := #[t, t'] }) {v u r : Value} (hd : a.eval d = v) (hs : a.eval s = u)
    (hr : (Builtin.copy_ #[t, t'] o.type #[v, u]).run P W = .ok r W') (h : K (a.put o.dst r) W') : Oper.wp P o a W K Q := by
  unfold Oper.wp execOp
  simp only [ho, resolve, invoke, builtin, Sem.run_bind, Sem.run_pure, Result.andThen_ok, List.map_toArray, List.map_cons, List.map_nil, hd, hs, hr]
  exact h
theorem flat_take {α : Type} {enc : α → List Value} {sz : Nat} (he : Enc enc sz) : ∀ (xs : List α) (i : Nat), i ≤ xs.length → (xs.flatMap enc).take (i * sz) = (xs.take i).flatMap enc
  | _, 0, _ => by simp
  | [], i + 1, h => by simp at h
  | x :: xs, i + 1, h => by
    simp only [List.flatMap_cons, List.take_succ_cons]
    rw [List.take_append, he.len, List.take_of_length_le (by rw [he.len, Nat.succ_mul]; omega), show (i + 1) * sz - sz = i * sz from by rw [Nat.succ_mul]; omega, flat_take he xs i (by simpa using h)]
/-- Shifted in place: what lay from i on, one further, and x at i. -/
theorem ins_shift {l : List Value} {xs : List Span} {x : Span} {i : Nat} (hl : l.take (xs.length * 2) = xs.flatMap Span.enc) (hi : i ≤ xs.length) (hs : (xs.length + 1) * 2 ≤ l.length) :
    (spl (spl l ((i + 1) * 2) ((xs.drop i).flatMap Span.enc)) (i * 2) x.enc).take ((xs.length + 1) * 2) = (xs.take i ++ x :: xs.drop i).flatMap Span.enc := by
  have hd : ((xs.drop i).flatMap Span.enc).length = (xs.length - i) * 2 := by rw [flat_len Span.ok, List.length_drop]
  have hx : x.enc.length = 2 := rfl
  have ht : l.take (i * 2) = (xs.take i).flatMap Span.enc := by
    rw [← flat_take Span.ok xs i hi, ← hl, List.take_take, Nat.min_eq_left (by omega)]
  have h1 : (spl l ((i + 1) * 2) ((xs.drop i).flatMap Span.enc)).take (i * 2) = (xs.take i).flatMap Span.enc := by
    unfold spl
    rw [List.append_assoc, List.take_append_of_le_length (by rw [List.length_take]; omega), List.take_take, Nat.min_eq_left (by omega), ht]
  have h2 : (spl l ((i + 1) * 2) ((xs.drop i).flatMap Span.enc)).drop (i * 2 + x.enc.length) = (xs.drop i).flatMap Span.enc ++ l.drop ((i + 1) * 2 + ((xs.drop i).flatMap Span.enc).length) := by
    unfold spl
    rw [List.append_assoc, List.drop_append_of_le_length (by rw [List.length_take]; omega), List.drop_of_length_le (by rw [List.length_take]; omega)]
    rfl
  rw [spl, h1, h2]
  simp only [List.flatMap_append, List.flatMap_cons, List.append_assoc]
  have h3 : ((xs.take i).flatMap Span.enc).length = i * 2 := by rw [flat_len Span.ok, List.length_take]; omega
  rw [← List.append_assoc, ← List.append_assoc, List.take_append_of_le_length (by simp only [List.length_append, h3, hx, hd]; omega), List.take_of_length_le (by simp only [List.length_append, h3, hx, hd]; omega), List.append_assoc]
/-- Built anew: x at i, then what lay from i on. -/
theorem ins_anew {l : List Value} {xs : List Span} {x : Span} {i : Nat} (hl : l.take (i * 2) = (xs.take i).flatMap Span.enc) (hi : i ≤ xs.length) (hs : (xs.length + 1) * 2 ≤ l.length) :
    (spl (spl l (i * 2) x.enc) ((i + 1) * 2) ((xs.drop i).flatMap Span.enc)).take ((xs.length + 1) * 2) = (xs.take i ++ x :: xs.drop i).flatMap Span.enc := by
  have hd : ((xs.drop i).flatMap Span.enc).length = (xs.length - i) * 2 := by rw [flat_len Span.ok, List.length_drop]
  have hx : x.enc.length = 2 := rfl
  have h3 : ((xs.take i).flatMap Span.enc).length = i * 2 := by rw [flat_len Span.ok, List.length_take]; omega
  have h1 : (spl l (i * 2) x.enc).take ((i + 1) * 2) = (xs.take i).flatMap Span.enc ++ x.enc := by
    unfold spl
    rw [hl, List.take_append_of_le_length (by simp only [List.length_append, h3, hx]; omega), List.take_of_length_le (by simp only [List.length_append, h3, hx]; omega)]
  rw [spl, h1]
  simp only [List.flatMap_append, List.flatMap_cons, List.append_assoc]
  rw [← List.append_assoc, ← List.append_assoc, List.take_append_of_le_length (by simp only [List.length_append, h3, hx, hd]; omega), List.take_of_length_le (by simp only [List.length_append, h3, hx, hd]; omega), List.append_assoc]
def InsR (base : Nat) (w w' : World) (ys : List Span) (e : Ending) : Prop := ∃ v, e = .returned v ∧ Own Span.enc 2 33 base w' v ys ∧ Below base w w'
section
variable {w : World} {base vb : Nat} {xs : List Span} {x : Span} {A : Option Addr} {c i : Nat}
set_option maxRecDepth 100000 in
set_option maxHeartbeats 4000000 in
/-- At the end. -/
theorem insert_end (ho : Own Span.enc 2 33 base w (.slice A xs.length c) xs) (hbase : base ≤ w.heap.size) (hv : w.heap[vb]? = some (.cells x.cells 33 (0, 0))) (hl : xs.length ≤ 1000000) :
    Calls Try.prog 68 #[.slice A xs.length c, .int .i64 xs.length, .slice (some ⟨vb, 0, none⟩) 1 1] w fun e w' => InsR base w w' (xs ++ [x]) e := by
  have hO := Lib.hid ho
  obtain ⟨-, hlc, hcm, hr, -⟩ := ho.rd' Span.ok
  have hX : Hid (Rd Span.enc 2 w (some ⟨vb, 0, none⟩) [x]) := Rd.lit hv rfl
  have nn : Hid ([x] ≠ []) := by show _ ≠ _; simp
  have hB := Lib.hid hbase
  have q1 : Hid (xs.length + 1 ≤ 140737488355328) := by show _ ≤ _; omega
  have q2 : Hid ((xs.length + 1) * 16 ≤ 140737488355328) := by show _ ≤ _; omega
  have t1 : Hid ((Value.agg #[.int .i64 0, .int .i64 0]).cells.size = 2) := rfl
  have l0 : (0 : Int) ≤ (xs.length : Int) := by omega
  have l1 : (xs.length : Int) ≤ (c : Int) := by omega
  clear ho hr hv hbase
  go_enter Try.func68, Try.ntmps68
  go_wp2_with (at_builtin; refine at_list rfl (fun K hK => op_ownN Span.ok _ _ _ _ _ _ rfl Try.underlying46 infoSpan t1.out base (.slice A xs.length c) xs (some ⟨vb, 0, none⟩) 1 [x] 1 rfl nn.out rfl rfl hO.out hX.out hB.out q2.out q1.out (fun g cap w' ho hg hat hlt => hK _ _ ?_)))
  all_goals
    go_ret
    exact ⟨_, rfl, by simpa using ho, (Below.refl base w).grown hg hB.out (fun k e => (hO.out.lt k e).1)⟩
theorem setRow_blk {W : World} {g : Nat} {cur : Array Value} {t : TypeId} {fr : Nat × Nat} (h : W.heap[g]? = some (.cells cur t fr)) (cs : Array Value) : (W.setRow g cs).heap[g]? = some (.cells cs t fr) ∧ W.grownBy (W.setRow g cs) (some g) :=
  ⟨setRow_heap W g cur cs t fr h, rfl, rfl, rfl, by simp, fun k _ hk => setRow_other W g k _ (fun e => hk (by rw [e]))⟩
theorem src_span (h : Rd Span.enc 2 w A xs) (c : Nat) : (Builtin.firstCells 2 xs.length (.slice A xs.length c)).run Try.prog w = .ok (xs.flatMap Span.enc).toArray w := (Rd.src (P := Try.prog) Span.ok Try.underlying46 c h).cells
theorem src_rest (h : Rd Span.enc 2 w (some ⟨vb, 0, none⟩) xs) (hi : i ≤ xs.length) (c : Nat) : (Builtin.firstCells 2 (xs.length - i) (.slice (some ⟨vb, i * 2, none⟩) (xs.length - i) c)).run Try.prog w = .ok ((xs.drop i).flatMap Span.enc).toArray w := by
  have := src_span (h.drop i) c
  simpa using this
theorem src_first (h : Rd Span.enc 2 w A xs) (hi : i ≤ xs.length) (c : Nat) : (Builtin.firstCells 2 i (.slice A i c)).run Try.prog w = .ok ((xs.take i).flatMap Span.enc).toArray w := by
  have := src_span (h.take i) c
  rwa [List.length_take, Nat.min_eq_left hi] at this
set_option maxRecDepth 100000 in
set_option maxHeartbeats 8000000 in
/-- In the midst, no room: a new row. -/
theorem insert_grow (ho : Own Span.enc 2 33 base w (.slice A xs.length xs.length) xs) (hbase : base ≤ w.heap.size) (hv : w.heap[vb]? = some (.cells x.cells 33 (0, 0))) (hi : i < xs.length) (hl : xs.length ≤ 1000000) :
    Calls Try.prog 68 #[.slice A xs.length xs.length, .int .i64 i, .slice (some ⟨vb, 0, none⟩) 1 1] w fun e w' => InsR base w w' (xs.take i ++ x :: xs.drop i) e := by
  obtain ⟨i0, hi0, hz0, hz1, hz2⟩ := info_parts infoSpan
  have hX : Rd Span.enc 2 w (some ⟨vb, 0, none⟩) [x] := Rd.lit hv rfl
  have hvl := blk_lt hv
  obtain ⟨b, rfl, hbb, hbs⟩ : ∃ b, A = some ⟨b, 0, none⟩ ∧ b < w.heap.size ∧ base ≤ b := by
    rcases ho.2 with ⟨e, h0⟩ | ⟨g, cap, cur, e, hg, hh, _⟩
    · omega
    · cases e; exact ⟨g, rfl, blk_lt hh, hg⟩
  obtain ⟨-, hlc, hcm, hr, -⟩ := ho.rd' Span.ok
  have hk : i + (xs.length + 1 - i) = xs.length + 1 := by omega
  have hrz := fun ty => Lib.run_append_grow_zeros (P := Try.prog) w 46 3 ty 33 i0 _ .i64 .i64 Try.underlying46 Try.underlying3 hi0 hz0 (some ⟨b, 0, none⟩) i xs.length ((xs.take i).flatMap Span.enc)
    (by rw [hz1]; exact src_first (hr.below (Below.refl _ w).drew (Nat.le_refl _)) (by omega) _) (xs.length + 1 - i) (by omega) (by rw [hz1]; omega) (by omega) (by omega) (by rw [hz2]; omega) (by rw [hk]; exact growslice_fits (by omega) (by rw [hz2]; omega))
  rw [hk] at hrz
  have hge := grownCap_ge w (xs.length + 1) xs.length 33
  have hcap := grownCap_le_maxLen w (xs.length + 1) xs.length 33 (by simp only [maxLen]; omega)
  unfold maxLen at hcap
  generalize grownCap w (xs.length + 1) xs.length 33 = G at *
  have hzs : (Value.agg #[.int .i64 0, .int .i64 0]).cells.size = 2 := rfl
  obtain ⟨C, hC⟩ : ∃ C, C = ((xs.take i).flatMap Span.enc).toArray ++ Builtin.zeroCells (Value.agg #[.int .i64 0, .int .i64 0]).cells (xs.length + 1 - i) ++ Builtin.zeroCells (Value.agg #[.int .i64 0, .int .i64 0]).cells (G - (xs.length + 1)) := ⟨_, rfl⟩
  have hCs : C.size = G * 2 := by
    rw [hC]
    simp only [Array.size_append, List.size_toArray, size_zeroCells, hzs, flat_len Span.ok, List.length_take]
    omega
  have hCt : C.toList.take (i * 2) = (xs.take i).flatMap Span.enc := by
    rw [hC]
    have h3 : ((xs.take i).flatMap Span.enc).length = i * 2 := by rw [flat_len Span.ok, List.length_take]; omega
    simp only [Array.toList_append, List.append_assoc]
    rw [List.take_append_of_le_length (by omega), List.take_of_length_le (by omega)]
  rw [← hC] at hrz
  clear hC
  obtain ⟨W2, hW2⟩ : ∃ W, W = w.drew.alloc (.cells C 33) := ⟨_, rfl⟩
  rw [← hW2] at hrz
  have hb2 : Below w.heap.size w W2 := hW2 ▸ ((Below.refl _ w).drew).alloc (Nat.le_refl _) _
  have hn2 : W2.heap[w.heap.size]? = some (.cells C 33 (0, 0)) := hW2 ▸ blk_new w.drew _
  clear hW2
  have hcp1 := fun ty => run_copy_blk (P := Try.prog) W2 46 46 ty 33 i0 Try.underlying46 hi0 w.heap.size (i * 2) (xs.length + 1 - i) (G - i) C _ hn2 (.slice (some ⟨vb, 0, none⟩) 1 1) 1 1 (fun _ => rfl) (by simp only [Nat.min_def]; split <;> omega) x.enc
    (by rw [hz1]; simpa using src_span (hX.below hb2 (Nat.le_refl _)) 1) (by rw [hCs]; simp [Span.enc]; omega) (Span.ok.one x)
  obtain ⟨W3, hW3⟩ : ∃ W, W = W2.setRow w.heap.size (spl C.toList (i * 2) x.enc).toArray := ⟨_, rfl⟩
  have hn3 := (setRow_blk hn2 (spl C.toList (i * 2) x.enc).toArray)
  rw [← hW3] at hcp1 hn3
  clear hW3
  have hb3 : Below w.heap.size w W3 := hb2.grown hn3.2 hb2.size (fun k e => by cases e; exact Nat.le_refl _)
  have hsl : (spl C.toList (i * 2) x.enc).length = G * 2 := by rw [spl_len (by simp [Span.enc]; omega)]; simpa using hCs
  have hcp2 := fun ty => run_copy_blk (P := Try.prog) W3.drew 46 46 ty 33 i0 Try.underlying46 hi0 w.heap.size ((i + 1) * 2) (xs.length - i) (G - (i + 1)) _ _ (blk_drew hn3.1) (.slice (some ⟨b, i * 2, none⟩) (xs.length - i) (xs.length - i)) (xs.length - i) (xs.length - i) (fun _ => rfl) (by simp only [Nat.min_def]; split <;> omega) ((xs.drop i).flatMap Span.enc)
    (by rw [hz1]; exact src_rest (hr.below hb3.drew (Nat.le_refl _)) (by omega) _) (by simp only [List.size_toArray, hsl, flat_len Span.ok, List.length_drop]; omega) (flat_one Span.ok _)
  obtain ⟨W4, hW4⟩ : ∃ W, W = W3.drew.setRow w.heap.size (spl (spl C.toList (i * 2) x.enc).toArray.toList ((i + 1) * 2) ((xs.drop i).flatMap Span.enc)).toArray := ⟨_, rfl⟩
  have hn4 := (setRow_blk (blk_drew hn3.1) (spl (spl C.toList (i * 2) x.enc).toArray.toList ((i + 1) * 2) ((xs.drop i).flatMap Span.enc)).toArray)
  rw [← hW4] at hcp2 hn4
  clear hW4
  have hb4 : Below w.heap.size w W4 := hb3.drew.grown hn4.2 hb3.size (fun k e => by cases e; exact Nat.le_refl _)
  have hfin : Hid (InsR base w W4 (xs.take i ++ x :: xs.drop i) (.returned (.slice (some ⟨w.heap.size, 0, none⟩) (xs.length + 1) G))) := by
    have hlen : (xs.take i ++ x :: xs.drop i).length = xs.length + 1 := by simp; omega
    refine ⟨_, rfl, ⟨?_, .inr ⟨w.heap.size, G, _, by rw [hlen], hbase, hn4.1, ?_, ?_, ?_, ?_⟩⟩, hb4.mono hbase⟩
    · rw [flat_len Span.ok]
    · rw [hlen]; exact hge
    · unfold maxLen; omega
    · simp only [List.size_toArray]
      rw [spl_len (by simp only [hsl, flat_len Span.ok, List.length_drop]; omega)]
      simpa using hsl
    · rw [hlen]
      simpa using ins_anew (l := C.toList) (x := x) hCt (by omega) (by simp; omega)
  clear hn4 hn3 hb4 hb3 hb2 hn2 hCt hCs hX hv hr ho hi0 hz0 hz1 hz2 hk hsl hzs
  have hcp1 := Lib.hid hcp1
  have hcp2 := Lib.hid hcp2
  have hrz := Lib.hid hrz
  have e1 : ((i : Int) == (xs.length : Int)) = false := by simp; omega
  have l0 : (0 : Int) ≤ (i : Int) := by omega
  have l1 : (i : Int) ≤ (xs.length : Int) := by omega
  have l2 : (i : Int) < (xs.length : Int) + 1 := by omega
  have l3 : ¬ (xs.length = i) := by omega
  have l4 : ¬ (G = i) := by omega
  have l5 : ¬ (G = i + 1) := by omega
  have l6 : (xs.length : Int) + 1 ≤ (G : Int) := by omega
  have l7 : (i : Int) ≤ (xs.length : Int) + 1 := by omega
  have l8 : (i : Int) + 1 ≤ (xs.length : Int) + 1 := by omega
  have e2 : (xs.length : Int) + 1 - (i : Int) = ((xs.length + 1 - i : Nat) : Int) := by omega
  go_enter Try.func68, Try.ntmps68
  go_wp2_with (first
    | (at_builtin; refine Lib.wpList_append_run _ rfl _ _ _ _ rfl _ _ rfl rfl _ _ (hrz.out _) ?_)
    | (refine at_list rfl (fun K hK => op_copy _ _ _ _ rfl rfl rfl (hcp1.out _) (hK _ _ ?_))))
  have hS0 : Hid (W3.drew = W3.drew) := rfl
  have k1 : IntKind.i64.wrap ((i : Int) + 1) = (i : Int) + 1 := wrapI (by omega)
  have k2 : (0 : Int) ≤ (i : Int) + 1 := by omega
  have k3 : ((i : Int) + 1).toNat = i + 1 := by omega
  refine wp_region_noPanic ?_
  refine wp_regionZ 8 (fun W => Hid (W = W3.drew)) (by kernel_rfl) ?_
  refine AnyZ.takeU [8, 4] (i := 0) (oi := ⟨some 46, _, _, _, _, _⟩) (v := ?_) rfl (by kernel_rfl) (by kernel_rfl) (by kernel_rfl) (by kernel_rfl) (by kernel_rfl) (by kernel_rfl) (fun _ _ _ h => h) (Or.inl ⟨by rfl, ?_⟩) (by assumption) ?_
  rotate_left
  · (intro w hSw; (try dsimp only at hSw); have hSe := hSw.out; subst hSe; (go_simp <;> with_reducible rfl))
  try simp only [Act.put, List.setIfInBounds_toArray, List.set_cons_zero, List.set_cons_succ]
  refine AnyZ.takeU [8, 4, 3] (i := 1) (oi := ⟨some 47, _, _, _, _, _⟩) (v := ?_) rfl (by kernel_rfl) (by kernel_rfl) (by kernel_rfl) (by kernel_rfl) (by kernel_rfl) (by kernel_rfl) (fun _ _ _ h => h) (Or.inl ⟨by rfl, ?_⟩) (by assumption) ?_
  rotate_left
  · (intro w hSw; (try dsimp only at hSw); have hSe := hSw.out; subst hSe; (go_simp <;> with_reducible rfl))
  try simp only [Act.put, List.setIfInBounds_toArray, List.set_cons_zero, List.set_cons_succ]
  refine AnyZ.takeU [8, 4, 3] (i := 2) (oi := ⟨some 48, _, _, _, _, _⟩) (v := ?_) rfl (by kernel_rfl) (by kernel_rfl) (by kernel_rfl) (by kernel_rfl) (by kernel_rfl) (by kernel_rfl) (fun _ _ _ h => h) (Or.inl ⟨by rfl, ?_⟩) (by assumption) ?_
  rotate_left
  · (intro w hSw; (try dsimp only at hSw); have hSe := hSw.out; subst hSe; (go_simp <;> with_reducible rfl))
  try simp only [Act.put, List.setIfInBounds_toArray, List.set_cons_zero, List.set_cons_succ]
  refine AnyZ.takeU [8, 4] (i := 3) (oi := ⟨some 49, _, _, _, _, _⟩) (v := ?_) rfl (by kernel_rfl) (by kernel_rfl) (by kernel_rfl) (by kernel_rfl) (by kernel_rfl) (by kernel_rfl) (fun _ _ _ h => h) (Or.inl ⟨by rfl, ?_⟩) (by assumption) ?_
  rotate_left
  · (intro w hSw; (try dsimp only at hSw); have hSe := hSw.out; subst hSe; (go_simp <;> with_reducible rfl))
  try simp only [Act.put, List.setIfInBounds_toArray, List.set_cons_zero, List.set_cons_succ]
  refine AnyZ.takeU [8] (i := 4) (oi := ⟨some 50, _, _, _, _, _⟩) (v := ?_) rfl (by kernel_rfl) (by kernel_rfl) (by kernel_rfl) (by kernel_rfl) (by kernel_rfl) (by kernel_rfl) (fun _ _ _ h => h) (Or.inl ⟨by rfl, ?_⟩) (by assumption) ?_
  rotate_left
  · (intro w hSw; (try dsimp only at hSw); have hSe := hSw.out; subst hSe; (go_simp <;> with_reducible rfl))
  try simp only [Act.put, List.setIfInBounds_toArray, List.set_cons_zero, List.set_cons_succ]
  refine AnyZ.takeU [8, 7] (i := 5) (oi := ⟨some 51, _, _, _, _, _⟩) (v := ?_) rfl (by kernel_rfl) (by kernel_rfl) (by kernel_rfl) (by kernel_rfl) (by kernel_rfl) (by kernel_rfl) (fun _ _ _ h => h) (Or.inl ⟨by rfl, ?_⟩) (by assumption) ?_
  rotate_left
  · (intro w hSw; (try dsimp only at hSw); have hSe := hSw.out; subst hSe; (go_simp <;> with_reducible rfl))
  try simp only [Act.put, List.setIfInBounds_toArray, List.set_cons_zero, List.set_cons_succ]
  refine AnyZ.takeU [8, 7] (i := 6) (oi := ⟨some 52, _, _, _, _, _⟩) (v := ?_) rfl (by kernel_rfl) (by kernel_rfl) (by kernel_rfl) (by kernel_rfl) (by kernel_rfl) (by kernel_rfl) (fun _ _ _ h => h) (Or.inl ⟨by rfl, ?_⟩) (by assumption) ?_
  rotate_left
  · (intro w hSw; (try dsimp only at hSw); have hSe := hSw.out; subst hSe; (go_simp <;> with_reducible rfl))
  try simp only [Act.put, List.setIfInBounds_toArray, List.set_cons_zero, List.set_cons_succ]
  refine AnyZ.takeU [8] (i := 7) (oi := ⟨some 53, _, _, _, _, _⟩) (v := ?_) rfl (by kernel_rfl) (by kernel_rfl) (by kernel_rfl) (by kernel_rfl) (by kernel_rfl) (by kernel_rfl) (fun _ _ _ h => h) (Or.inl ⟨by rfl, ?_⟩) (by assumption) ?_
  rotate_left
  · (intro w hSw; (try dsimp only at hSw); have hSe := hSw.out; subst hSe; (go_simp <;> with_reducible rfl))
  try simp only [Act.put, List.setIfInBounds_toArray, List.set_cons_zero, List.set_cons_succ]
  refine AnyZ.one (i := 8) (by kernel_rfl) rfl (fun K hK => ?_)
  refine at_step rfl (op_copy (v := .slice (some ⟨w.heap.size, (i + 1) * 2, none⟩) (xs.length - i) (G - (i + 1))) (u := .slice (some ⟨b, i * 2, none⟩) (xs.length - i) (xs.length - i)) _ _ _ _ rfl rfl rfl (hcp2.out _) ?_)
  refine hK.out _ _ (.inl rfl) ?_
  clear hK K
  try simp only [Act.put, List.setIfInBounds_toArray, List.set_cons_zero, List.set_cons_succ]
  refine AnyZ.done (by kernel_rfl) ?_ _
  refine NoPanic.normal ?_
  go_wp2
  go_ret
  exact hfin.out
theorem shape_blk {W : World} {g : Nat} {cur : Array Value} {t : TypeId} {fr : Nat × Nat} (h : W.heap[g]? = some (.cells cur t fr)) : W.shape? g = some (t, cur.size) := by simp [World.shape?, h]
set_option maxRecDepth 100000 in
set_option maxHeartbeats 8000000 in
/-- In the midst, with room: in place. -/
theorem insert_room (ho : Own Span.enc 2 33 base w (.slice A xs.length c) xs) (hbase : base ≤ w.heap.size) (hv : w.heap[vb]? = some (.cells x.cells 33 (0, 0))) (hi : i < xs.length) (hl : xs.length ≤ 1000000) (hroom : xs.length + 1 ≤ c) (hne : (Value.slice A xs.length c).ownBlock ≠ some vb) :
    Calls Try.prog 68 #[.slice A xs.length c, .int .i64 i, .slice (some ⟨vb, 0, none⟩) 1 1] w fun e w' => InsR base w w' (xs.take i ++ x :: xs.drop i) e := by
  obtain ⟨i0, hi0, hz0, hz1, hz2⟩ := info_parts infoSpan
  have hX : Rd Span.enc 2 w (some ⟨vb, 0, none⟩) [x] := Rd.lit hv rfl
  have hvl := blk_lt hv
  obtain ⟨b, cur, rfl, hbs, hbb, hcur, hcs, hct⟩ : ∃ b cur, A = some ⟨b, 0, none⟩ ∧ base ≤ b ∧ w.heap[b]? = some (.cells cur 33 (0, 0)) ∧ c ≤ maxLen ∧ cur.size = c * 2 ∧ cur.toList.take (xs.length * 2) = xs.flatMap Span.enc := by
    rcases ho.2 with ⟨e, h0⟩ | ⟨g, cap, cur, e, hg, hh, h1, h2, h3, h4⟩
    · omega
    · cases e
      refine ⟨g, cur, rfl, hg, hh, h2, h3, ?_⟩
      simpa [flat_len Span.ok] using h4
  have hbv : vb ≠ b := fun e => hne (by rw [e]; rfl)
  unfold maxLen at hcur
  obtain ⟨-, hlc, hcm, hr, -⟩ := ho.rd' Span.ok
  have hov : ∀ lb cb, (callFunc 90 #[.slice (some ⟨vb, 0, none⟩) 1 1, .slice (some ⟨b, (i + 1) * 2, none⟩) lb cb]).run Try.prog w = .ok (.value (.bool false)) w := fun lb cb => by
    rw [run_callFunc_extern Try.func90 (by kernel_rfl) (by kernel_rfl) (by kernel_rfl) (e := Extern.SlicesOverlaps.overlaps #[46, 46] #[4]) (by kernel_rfl),
      Lib.run_overlaps_apart w 46 4 33 Try.underlying46 2 (fun w => by simp [sizeOf, typeInfo, hi0, hz1]) ⟨vb, 0, none⟩ ⟨b, (i + 1) * 2, none⟩ 1 1 lb cb hbv 33 33 2 (c * 2) (shape_blk hv) (by rw [← hcs]; exact shape_blk hbb) (by omega) (blk_free hv 0) (blk_free hv 2)]
    rfl
  have hcp1 := fun ty => run_copy_blk (P := Try.prog) w.drew 46 46 ty 33 i0 Try.underlying46 hi0 b ((i + 1) * 2) (xs.length - i) (c - (i + 1)) cur _ (blk_drew hbb) (.slice (some ⟨b, i * 2, none⟩) (xs.length + 1 - i) (c - i)) (xs.length + 1 - i) (xs.length - i) (fun _ => rfl) (by simp only [Nat.min_def]; split <;> omega) ((xs.drop i).flatMap Span.enc)
    (by
      rw [hz1]
      have := src_rest (hr.below (Below.refl _ w).drew (Nat.le_refl _)) (Nat.le_of_lt hi) (c - i)
      exact this)
    (by simp only [hcs, flat_len Span.ok, List.length_drop]; omega) (flat_one Span.ok _)
  obtain ⟨W3, hW3⟩ : ∃ W, W = w.drew.setRow b (spl cur.toList ((i + 1) * 2) ((xs.drop i).flatMap Span.enc)).toArray := ⟨_, rfl⟩
  have hn3 := (setRow_blk (blk_drew hbb) (spl cur.toList ((i + 1) * 2) ((xs.drop i).flatMap Span.enc)).toArray)
  rw [← hW3] at hcp1 hn3
  clear hW3
  have hb3 : Below base w W3 := ((Below.refl base w).drew).grown hn3.2 hbase (fun k e => by cases e; exact hbs)
  have hsl : (spl cur.toList ((i + 1) * 2) ((xs.drop i).flatMap Span.enc)).length = c * 2 := by rw [spl_len (by simp only [Array.length_toList, hcs, flat_len Span.ok, List.length_drop]; omega)]; simpa using hcs
  have hX3 : Rd Span.enc 2 W3 (some ⟨vb, 0, none⟩) [x] := (hX.below (Below.refl _ w).drew (Nat.le_refl _)).grown hn3.2 (fun a ha e => by cases ha; injection e with e; exact hbv e)
  have hcp2 := fun ty => run_copy_blk (P := Try.prog) W3 46 46 ty 33 i0 Try.underlying46 hi0 b (i * 2) (xs.length + 1 - i) (c - i) _ _ hn3.1 (.slice (some ⟨vb, 0, none⟩) 1 1) 1 1 (fun _ => rfl) (by simp only [Nat.min_def]; split <;> omega) x.enc
    (by rw [hz1]; simpa using src_span hX3 1) (by simp only [List.size_toArray, hsl, Span.enc, List.length_cons, List.length_nil]; omega) (Span.ok.one x)
  obtain ⟨W4, hW4⟩ : ∃ W, W = W3.setRow b (spl (spl cur.toList ((i + 1) * 2) ((xs.drop i).flatMap Span.enc)).toArray.toList (i * 2) x.enc).toArray := ⟨_, rfl⟩
  have hn4 := (setRow_blk hn3.1 (spl (spl cur.toList ((i + 1) * 2) ((xs.drop i).flatMap Span.enc)).toArray.toList (i * 2) x.enc).toArray)
  rw [← hW4] at hcp2 hn4
  clear hW4
  have hb4 : Below base w W4 := hb3.grown hn4.2 (Nat.le_trans hbase hb3.size) (fun k e => by cases e; exact hbs)
  have hfin : Hid (InsR base w W4 (xs.take i ++ x :: xs.drop i) (.returned (.slice (some ⟨b, 0, none⟩) (xs.length + 1) c))) := by
    have hlen : (xs.take i ++ x :: xs.drop i).length = xs.length + 1 := by simp; omega
    refine ⟨_, rfl, ⟨?_, .inr ⟨b, c, _, by rw [hlen], hbs, hn4.1, ?_, ?_, ?_, ?_⟩⟩, hb4⟩
    · rw [flat_len Span.ok]
    · rw [hlen]; exact hroom
    · unfold maxLen; omega
    · simp only [List.size_toArray]
      rw [spl_len (by simp only [hsl, Span.enc, List.length_cons, List.length_nil]; omega)]
      simpa using hsl
    · rw [hlen]
      simpa using ins_shift (l := cur.toList) (x := x) hct (by omega) (by simp only [Array.length_toList, hcs]; omega)
  clear hn4 hn3 hb4 hb3 hX hX3 hv hr ho hi0 hz0 hz1 hz2 hsl hct hcs hbb hne
  have hcp1 := Lib.hid hcp1
  have hcp2 := Lib.hid hcp2
  have e1 : ((i : Int) == (xs.length : Int)) = false := by simp; omega
  have l0 : (0 : Int) ≤ (i : Int) := by omega
  have l1 : (i : Int) ≤ (xs.length : Int) := by omega
  have l2 : (i : Int) < (xs.length : Int) + 1 := by omega
  have l4 : ¬ (c = i) := by omega
  have l5 : ¬ (c = i + 1) := by omega
  have l6 : (xs.length : Int) + 1 ≤ (c : Int) := by omega
  have l7 : (i : Int) ≤ (xs.length : Int) + 1 := by omega
  have l8 : (i : Int) + 1 ≤ (xs.length : Int) + 1 := by omega
  have k1 : IntKind.i64.wrap ((i : Int) + 1) = (i : Int) + 1 := wrapI (by omega)
  have k2 : (0 : Int) ≤ (i : Int) + 1 := by omega
  have k3 : ((i : Int) + 1).toNat = i + 1 := by omega
  go_enter Try.func68, Try.ntmps68
  go_wp2_with (simp only [hov])
  have hS0 : Hid (w.drew = w.drew) := rfl
  refine wp_region_noPanic ?_
  refine wp_regionZ 8 (fun W => Hid (W = w.drew)) (by kernel_rfl) ?_
  refine AnyZ.takeU [8, 4] (i := 0) (oi := ⟨some 69, _, _, _, _, _⟩) (v := ?_) rfl (by kernel_rfl) (by kernel_rfl) (by kernel_rfl) (by kernel_rfl) (by kernel_rfl) (by kernel_rfl) (fun _ _ _ h => h) (Or.inl ⟨by rfl, ?_⟩) (by assumption) ?_
  rotate_left
  · (intro w hSw; (try dsimp only at hSw); have hSe := hSw.out; subst hSe; (go_simp <;> with_reducible rfl))
  try simp only [Act.put, List.setIfInBounds_toArray, List.set_cons_zero, List.set_cons_succ]
  refine AnyZ.takeU [8, 4, 3] (i := 1) (oi := ⟨some 70, _, _, _, _, _⟩) (v := ?_) rfl (by kernel_rfl) (by kernel_rfl) (by kernel_rfl) (by kernel_rfl) (by kernel_rfl) (by kernel_rfl) (fun _ _ _ h => h) (Or.inl ⟨by rfl, ?_⟩) (by assumption) ?_
  rotate_left
  · (intro w hSw; (try dsimp only at hSw); have hSe := hSw.out; subst hSe; (go_simp <;> with_reducible rfl))
  try simp only [Act.put, List.setIfInBounds_toArray, List.set_cons_zero, List.set_cons_succ]
  refine AnyZ.takeU [8, 4, 3] (i := 2) (oi := ⟨some 71, _, _, _, _, _⟩) (v := ?_) rfl (by kernel_rfl) (by kernel_rfl) (by kernel_rfl) (by kernel_rfl) (by kernel_rfl) (by kernel_rfl) (fun _ _ _ h => h) (Or.inl ⟨by rfl, ?_⟩) (by assumption) ?_
  rotate_left
  · (intro w hSw; (try dsimp only at hSw); have hSe := hSw.out; subst hSe; (go_simp <;> with_reducible rfl))
  try simp only [Act.put, List.setIfInBounds_toArray, List.set_cons_zero, List.set_cons_succ]
  refine AnyZ.takeU [8, 4] (i := 3) (oi := ⟨some 72, _, _, _, _, _⟩) (v := ?_) rfl (by kernel_rfl) (by kernel_rfl) (by kernel_rfl) (by kernel_rfl) (by kernel_rfl) (by kernel_rfl) (fun _ _ _ h => h) (Or.inl ⟨by rfl, ?_⟩) (by assumption) ?_
  rotate_left
  · (intro w hSw; (try dsimp only at hSw); have hSe := hSw.out; subst hSe; (go_simp <;> with_reducible rfl))
  try simp only [Act.put, List.setIfInBounds_toArray, List.set_cons_zero, List.set_cons_succ]
  refine AnyZ.takeU [8] (i := 4) (oi := ⟨some 73, _, _, _, _, _⟩) (v := ?_) rfl (by kernel_rfl) (by kernel_rfl) (by kernel_rfl) (by kernel_rfl) (by kernel_rfl) (by kernel_rfl) (fun _ _ _ h => h) (Or.inl ⟨by rfl, ?_⟩) (by assumption) ?_
  rotate_left
  · (intro w hSw; (try dsimp only at hSw); have hSe := hSw.out; subst hSe; (go_simp <;> with_reducible rfl))
  try simp only [Act.put, List.setIfInBounds_toArray, List.set_cons_zero, List.set_cons_succ]
  refine AnyZ.takeU [8, 7] (i := 5) (oi := ⟨some 74, _, _, _, _, _⟩) (v := ?_) rfl (by kernel_rfl) (by kernel_rfl) (by kernel_rfl) (by kernel_rfl) (by kernel_rfl) (by kernel_rfl) (fun _ _ _ h => h) (Or.inl ⟨by rfl, ?_⟩) (by assumption) ?_
  rotate_left
  · (intro w hSw; (try dsimp only at hSw); have hSe := hSw.out; subst hSe; (go_simp <;> with_reducible rfl))
  try simp only [Act.put, List.setIfInBounds_toArray, List.set_cons_zero, List.set_cons_succ]
  refine AnyZ.takeU [8, 7] (i := 6) (oi := ⟨some 75, _, _, _, _, _⟩) (v := ?_) rfl (by kernel_rfl) (by kernel_rfl) (by kernel_rfl) (by kernel_rfl) (by kernel_rfl) (by kernel_rfl) (fun _ _ _ h => h) (Or.inl ⟨by rfl, ?_⟩) (by assumption) ?_
  rotate_left
  · (intro w hSw; (try dsimp only at hSw); have hSe := hSw.out; subst hSe; (go_simp <;> with_reducible rfl))
  try simp only [Act.put, List.setIfInBounds_toArray, List.set_cons_zero, List.set_cons_succ]
  refine AnyZ.takeU [8] (i := 7) (oi := ⟨some 76, _, _, _, _, _⟩) (v := ?_) rfl (by kernel_rfl) (by kernel_rfl) (by kernel_rfl) (by kernel_rfl) (by kernel_rfl) (by kernel_rfl) (fun _ _ _ h => h) (Or.inl ⟨by rfl, ?_⟩) (by assumption) ?_
  rotate_left
  · (intro w hSw; (try dsimp only at hSw); have hSe := hSw.out; subst hSe; (go_simp <;> with_reducible rfl))
  try simp only [Act.put, List.setIfInBounds_toArray, List.set_cons_zero, List.set_cons_succ]
  refine AnyZ.one (i := 8) (by kernel_rfl) rfl (fun K hK => ?_)
  refine at_step rfl (op_copy (v := .slice (some ⟨b, (i + 1) * 2, none⟩) (xs.length - i) (c - (i + 1))) (u := .slice (some ⟨b, i * 2, none⟩) (xs.length + 1 - i) (c - i)) _ _ _ _ rfl rfl rfl (hcp1.out _) ?_)
  refine hK.out _ _ (.inl rfl) ?_
  clear hK K
  try simp only [Act.put, List.setIfInBounds_toArray, List.set_cons_zero, List.set_cons_succ]
  refine AnyZ.done (by kernel_rfl) ?_ _
  refine NoPanic.normal ?_
  go_wp2_with (first
    | (refine at_list rfl (fun K hK => op_copy _ _ _ _ rfl rfl rfl (hcp2.out _) (hK _ _ ?_))))
  go_ret
  exact hfin.out
end
end Go.Proofs.Ytikgplhcadomcaa

namespace Go.Proofs.Ytikgplhcadomcaa
open Go.RowKit
set_option linter.unusedVariables false
set_option linter.unusedSimpArgs false

/-- The last of a row has another number of pages. -/
def lastPages (xs : List Span) (p : Int) : List Span := match xs.getLast? with | some y => xs.dropLast ++ [⟨y.start, p⟩] | none => xs
theorem last_split {xs : List Span} {y : Span} (h : xs.getLast? = some y) : xs = xs.dropLast ++ [y] := by
  have hne : xs ≠ [] := by intro e; subst e; cases h
  rw [List.getLast?_eq_some_getLast hne] at h
  cases h
  exact (List.dropLast_concat_getLast hne).symm
theorem last_at {xs : List Span} (h : 0 < xs.length) : ∃ y, xs.getLast? = some y ∧ xs[xs.length - 1]? = some y := by
  have hne : xs ≠ [] := by intro e; subst e; simp at h
  refine ⟨xs.getLast hne, List.getLast?_eq_some_getLast hne, ?_⟩
  rw [← List.getLast?_eq_getElem?]
  exact List.getLast?_eq_some_getLast hne
theorem lastPages_len {xs : List Span} (p : Int) : (lastPages xs p).length = xs.length := by
  unfold lastPages
  cases h : xs.getLast? with
  | none => rfl
  | some y =>
    have := last_split h
    conv => rhs; rw [this]
    simp
theorem Own.lastPages {base g n c : Nat} {e : TypeId} {w : World} {xs : List Span} (h : Own Span.enc 2 e base w (.slice (some ⟨g, 0, none⟩) n c) xs) (h0 : 0 < xs.length) (p : Int) :
    Own Span.enc 2 e base (w.setCell ⟨g, (xs.length - 1) * 2 + 1, none⟩ (.int .i64 p)) (.slice (some ⟨g, 0, none⟩) n c) (Go.Proofs.Ytikgplhcadomcaa.lastPages xs p) := by
  obtain ⟨y, hy, _⟩ := last_at h0
  have hs := last_split hy
  have hl : xs.dropLast.length = xs.length - 1 := by simp
  have hp : Go.Proofs.Ytikgplhcadomcaa.lastPages xs p = xs.dropLast ++ [⟨y.start, p⟩] := by unfold Go.Proofs.Ytikgplhcadomcaa.lastPages; rw [hy]
  refine ⟨by rw [flat_len Span.ok], ?_⟩
  rw [lastPages_len]
  rcases h.2 with ⟨e0, _⟩ | ⟨g', cap, cur, e0, hb, hh, h1, h2, h3, h4⟩
  · cases e0
  · cases e0
    refine .inr ⟨g, c, _, rfl, hb, blk_set hh _ _, h1, h2, by simpa using h3, ?_⟩
    rw [Array.toList_setIfInBounds, List.take_set, h4, hp]
    have hf : (xs.dropLast.flatMap Span.enc).length = (xs.length - 1) * 2 := by rw [flat_len Span.ok, hl]
    conv => lhs; rw [hs]
    simp only [List.flatMap_append, List.flatMap_cons, List.flatMap_nil, List.append_nil, List.length_append, List.length_cons, List.length_nil, hl]
    rw [show xs.length - 1 + (0 + 1) - 1 = xs.length - 1 from by omega, List.set_append_right _ _ (by omega), hf, show (xs.length - 1) * 2 + 1 - (xs.length - 1) * 2 = 1 from by omega]
    rfl
theorem joinR_last {acc : List Span} {r y : Span} (h : acc.getLast? = some y) (e : y.start + y.pages = r.start) : joinR acc r = lastPages acc (y.pages + r.pages) := by
  unfold joinR lastPages; rw [h]; simp [e]
theorem joinR_snoc {acc : List Span} {r : Span} (h : ∀ y, acc.getLast? = some y → y.start + y.pages ≠ r.start) : joinR acc r = acc ++ [r] := by
  unfold joinR
  cases hy : acc.getLast? with
  | none => rfl
  | some y => simp [h y hy]
theorem Rise.take {n : Int} : ∀ {l : List Span} {lo : Int} (k : Nat), Rise lo n l → Rise lo n (l.take k)
  | [], _, k, _ => by simp [Rise]
  | x :: l, lo, 0, _ => trivial
  | x :: l, lo, k + 1, ⟨h1, h2, h3, h4⟩ => ⟨h1, h2, h3, h4.take k⟩
section
variable {w w' wr : World} {g : Nat} {F F' : Nat → Prop} {D D' : Fr} {A : Option Addr} {L : List Span}
/-- Within Give: what is joined so far, the set's own; the rows that are to be joined beside it. -/
def GiveI (w wr : World) (g : Nat) (F : Nat → Prop) (D : Fr) (A : Option Addr) (L : List Span) : Prop :=
  ∃ F', FrAt wr g F' D ∧ (∀ i, F' i → F i ∨ w.heap.size ≤ i) ∧ Chg F w wr ∧ Rd Span.enc 2 wr A L ∧ (∀ a, A = some a → ¬ F' a.block ∧ a.block < wr.heap.size)
theorem GiveI.did (h : GiveI w wr g F D A L) : FrDid F w wr g D := by obtain ⟨F', a, b, c, d, e⟩ := h; exact ⟨F', a, c, b⟩
theorem GiveI.rd (h : GiveI w wr g F D A L) : Rd Span.enc 2 wr A L := by obtain ⟨F', a, b, c, d, e⟩ := h; exact d
theorem GiveI.step (h : GiveI w wr g F D A L) (hs : ∀ F', FrAt wr g F' D → FrDid F' wr w' g D') : GiveI w w' g F D' A L := by
  obtain ⟨F', a, b, c, d, e⟩ := h
  obtain ⟨F2, a2, c2, b2⟩ := hs F' a
  refine ⟨F2, a2, fun i hi => ?_, c.trans c2 (fun i hi hf => (b i hf).resolve_right (by omega)), d.chg c2 (fun x hx => (e x hx).1), fun x hx => ⟨fun hf => ?_, Nat.lt_of_lt_of_le (e x hx).2 c2.size⟩⟩
  · rcases b2 i hi with q | q
    · exact b i q
    · exact .inr (Nat.le_trans c.size q)
  · rcases b2 _ hf with q | q
    · exact (e x hx).1 q
    · have := (e x hx).2; omega
theorem GiveI.below (h : GiveI w wr g F D A L) (hb : Below wr.heap.size wr w') : GiveI w w' g F D A L := h.step fun F' a => FrDid.of_below a hb
/-- A row's element in a block that the round has just made. -/
theorem GiveI.fresh (h : GiveI w wr g F D A L) (r : Span) : GiveI w (wr.alloc (.cells #[.int .i64 r.start, .int .i64 r.pages] 33)) g F D (some ⟨wr.heap.size, 0, none⟩) [r] := by
  obtain ⟨F', a, b, c, d, e⟩ := h
  refine ⟨F', a.alloc _, b, c.trans (Chg.alloc wr _ F) (fun _ _ q => q), Rd.lit (blk_new wr (.cells r.cells 33)) rfl, fun x hx => ?_⟩
  cases hx
  exact ⟨fun hf => Nat.lt_irrefl _ (a.lt _ hf), by simp⟩
/-- Its third cell and its last row, for a walk. -/
theorem GiveI.cells (h : GiveI w wr g F D A L) : ∃ (B : Option Addr) (c : Nat), wr.cell? ⟨g, 2, none⟩ = some (.slice B D.l.length c) ∧ wr.frozen? ⟨g, 2, none⟩ = false ∧ g < wr.heap.size ∧ D.l.length ≤ c ∧ c ≤ 9223372036854775807 ∧
    Own Span.enc 2 33 0 wr (.slice B D.l.length c) D.l ∧ (0 < D.l.length → ∃ b y, B = some ⟨b, 0, none⟩ ∧ b < wr.heap.size ∧ b ≠ g ∧ D.l.getLast? = some y ∧ wr.cell? ⟨b, (D.l.length - 1) * 2, none⟩ = some (.int .i64 y.start) ∧ wr.cell? ⟨b, (D.l.length - 1) * 2 + 1, none⟩ = some (.int .i64 y.pages) ∧ ∀ j, wr.frozen? ⟨b, j, none⟩ = false) := by
  obtain ⟨F', a, b, c, d, e⟩ := h
  obtain ⟨B, cc, c0, c1, c2, fz, ho, hr, hc, hv, hb⟩ := a.cells
  refine ⟨B, cc, c2, fz 2, a.glt, hc, (ho.rd' Span.ok).2.2.1, ho, fun h0 => ?_⟩
  obtain ⟨y, hy, hy2⟩ := last_at h0
  rcases ho.2 with ⟨e0, _⟩ | ⟨g', cap, cur, e0, hbb, hh, _⟩
  · injection e0 with e1 e2 e3; omega
  · injection e0 with e1 e2 e3
    subst e1
    obtain ⟨z0, z1⟩ := Rd.span hr hy2
    rw [Nat.zero_add] at z0 z1
    exact ⟨g', y, rfl, blk_lt hh, (hv g' rfl).1, hy, z0, z1, fun j => blk_free hh j⟩
/-- The last row is made longer. -/
theorem GiveI.bump (h : GiveI w wr g F D A L) {b c : Nat} (hB : wr.cell? ⟨g, 2, none⟩ = some (.slice (some ⟨b, 0, none⟩) D.l.length c)) (h0 : 0 < D.l.length) (p : Int) (hk : Fr.Ok { D with l := lastPages D.l p }) :
    GiveI w (wr.setCell ⟨b, (D.l.length - 1) * 2 + 1, none⟩ (.int .i64 p)) g F { D with l := lastPages D.l p } A L := by
  refine h.step fun F' a => ?_
  obtain ⟨B, cc, c0, c1, c2, fz, ho, hr, hc, hv, hb⟩ := a.cells
  rw [hB] at c2
  cases c2
  obtain ⟨hbg, hbF⟩ := hv b rfl
  refine a.put _ (.slice (some ⟨b, 0, none⟩) D.l.length c) (blk_far hb (fun e => hbg e.symm) _) (ho.lastPages h0 p) (fun k e => by cases e; exact ⟨hbg, .inl hbF⟩) (Chg.set wr _ hbF) hk
/-- A row is put behind the others. -/
theorem GiveI.snoc (h : GiveI w wr g F D A L) {v v' : Value} (hB : wr.cell? ⟨g, 2, none⟩ = some v) {w2 : World} {r : Span} (ho : Own Span.enc 2 33 0 w2 v' (D.l ++ [r])) (hg : wr.grownBy w2 v.ownBlock) (hn : ∀ k, v'.ownBlock = some k → v.ownBlock = some k ∨ wr.heap.size ≤ k) (hk : Fr.Ok { D with l := D.l ++ [r] }) :
    GiveI w (w2.setCell ⟨g, 2, none⟩ v') g F { D with l := D.l ++ [r] } A L := by
  refine h.step fun F' a => ?_
  obtain ⟨B, cc, c0, c1, c2, fz, _, hr, hc, hv, hb⟩ := a.cells
  rw [hB] at c2
  cases c2
  have hgl := a.glt
  have hvg : some g ≠ (Value.slice B D.l.length cc).ownBlock := fun e => (hv g e.symm).1 rfl
  have hv'g : ∀ k, v'.ownBlock = some k → k ≠ g := fun k e q => by
    subst q
    rcases hn k e with q | q
    · exact hvg q.symm
    · omega
  refine a.put _ v' (blk_set' (by rw [hg.block g hgl hvg]; exact hb) 2 v' rfl) (ho.far (p := ⟨g, 2, none⟩) (fun e => hv'g g e rfl) v') (fun k e => ⟨hv'g k e, (hn k e).imp (fun q => (hv k q).2) (fun q => q)⟩) ?_ hk
  exact (Chg.grownO hg (fun k e => (hv k e).2)).trans (Chg.set w2 v' a.fg) (fun _ _ q => q)
end
end Go.Proofs.Ytikgplhcadomcaa

namespace Go.Proofs.Ytikgplhcadomcaa
open Go.RowKit
set_option linter.unusedVariables false
set_option linter.unusedSimpArgs false

theorem insert_calls {w : World} {base vb : Nat} {xs : List Span} {x : Span} {A : Option Addr} {c i : Nat} (ho : Own Span.enc 2 33 base w (.slice A xs.length c) xs) (hbase : base ≤ w.heap.size) (hv : w.heap[vb]? = some (.cells x.cells 33 (0, 0))) (hi : i ≤ xs.length) (hl : xs.length ≤ 1000000) (hne : (Value.slice A xs.length c).ownBlock ≠ some vb) :
    Calls Try.prog 68 #[.slice A xs.length c, .int .i64 i, .slice (some ⟨vb, 0, none⟩) 1 1] w fun e w' => InsR base w w' (xs.take i ++ x :: xs.drop i) e := by
  rcases Nat.lt_or_ge i xs.length with hlt | hge
  · have hc := (ho.rd' Span.ok).2.1
    rcases Nat.lt_or_ge xs.length c with h1 | h1
    · exact insert_room ho hbase hv hlt hl h1 hne
    · obtain rfl : c = xs.length := by omega
      exact insert_grow ho hbase hv hlt hl
  · obtain rfl : i = xs.length := by omega
    have := insert_end (x := x) ho hbase hv hl
    simpa using this
def insAt (l : List Span) (s : Span) : Nat := if place (behind s) l < 0 then l.length else (place (behind s) l).toNat
theorem insAt_le (l : List Span) (s : Span) : insAt l s ≤ l.length := by
  unfold insAt
  split
  · exact Nat.le_refl _
  · rename_i h
    obtain ⟨i, r, e, hi, _⟩ := place_some h
    have := (List.getElem?_eq_some_iff.1 hi).1
    rw [e]; omega
theorem insL_at (l : List Span) (s : Span) : l.take (insAt l s) ++ s :: l.drop (insAt l s) = insL l s := rfl
def Fr.free (D : Fr) (s : Span) : Bool := D.there s && decide (place (meets s) D.l < 0)
def Fr.give (D : Fr) (s : Span) : Bool × Fr := if D.free s then (true, { D with l := giveL D.l s }) else (false, D)
section
variable {w : World} {g : Nat} {F : Nat → Prop} {D : Fr}
/-- Within Give, ahead of its loop. -/
structure GiveA (w wa : World) (g : Nat) (F : Nat → Prop) (D : Fr) (s : Span) : Prop where
  h : FrAt wa g F D
  b : Below w.heap.size w wa
  s : wa.heap[w.heap.size]? = some (.cells s.cells 33 (0, 0))
theorem GiveA.below {w wa wb : World} {s : Span} (h : GiveA w wa g F D s) (hb : Below wa.heap.size wa wb) : GiveA w wb g F D s := ⟨h.h.below hb, bl_then h.b h.b.size hb, blk_below hb h.s (blk_lt h.s)⟩
theorem GiveA.begin (h : FrAt w g F D) (s : Span) : GiveA w (w.alloc (.cells #[.int .i64 s.start, .int .i64 s.pages] 33)) g F D s := ⟨h.alloc _, bl_alloc (Below.refl _ w) _, blk_new w (.cells s.cells 33)⟩
end
end Go.Proofs.Ytikgplhcadomcaa
