/- law06.ExtentNone -/
import Derived.Test.YtglpckdmiohciaaOpenExt
namespace Go.Proofs.Ytglpckdmiohciaa
open Go.RowKit Go.Shelf
set_option linter.unusedVariables false
set_option linter.unusedSimpArgs false
attribute [local go_sem] Oper.semAt_some

theorem run_min_n (m n : Int) (w : World) : (Builtin.min_ #[3, 3] 3 #[.int .i64 n, .int .i64 m]).run Try.prog w = .ok (.int .i64 (min n m)) w := by
  rw [run_min_int2]
  congr 2
  split <;> omega
/-- Left: one row too many was told. -/
def NoneX (wk w' : World) (most : Int) (c : Code) (pre : List Span) (W : World) : Prop := c = .exit 0 ∧ W.heap[wk.heap.size]? = some (.cells #[.int .i64 most] 3 (0, 0)) ∧ (pre.length : Int) = most + 1 ∧ Below wk.heap.size w' W
def NoneI (wk w' : World) (most : Int) (pre : List Span) (W : World) : Prop := W.heap[wk.heap.size]? = some (.cells #[.int .i64 (pre.length : Int)] 3 (0, 0)) ∧ (pre.length : Int) ≤ most ∧ Below wk.heap.size w' W
theorem noneI_own {wk w' : World} (most : Int) (h : wk.heap.size ≤ w'.heap.size) : OwnFrom w'.heap.size (NoneI wk w' most) := fun s X Y row hs hg hr =>
  ⟨blk_ownS w'.heap.size _ (fun (s : List Span) => #[.int .i64 (s.length : Int)]) _ s X Y row hs.1 hg hr, hs.2.1, ownFrom_below (β := Unit) h h () X Y row hs.2.2 hg hr⟩
theorem noneX_own {wk w' : World} (most : Int) (h : wk.heap.size ≤ w'.heap.size) (c : Code) : OwnFrom w'.heap.size (NoneX wk w' most c) := fun s X Y row hs hg hr =>
  ⟨hs.1, blk_ownS w'.heap.size _ (fun (_ : List Span) => #[.int .i64 most]) _ s X Y row hs.2.1 hg hr, hs.2.2.1, ownFrom_below (β := Unit) h h () X Y row hs.2.2.2 hg hr⟩
/-- A range over a function whose parameters are the loop's own temporaries. -/
theorem wpIn_rangeFunc_skip {F : Fence} {nn : Nat} {P : Program} {α : Type} {g : Operand} {ps : Array Tmp} {body : Code} {Q : Exit → Act → World → Prop} {a : Act} {w : World}
    (hro : F.round = none) (h1 : 1 ≤ nn) {gf : Nat} {lb : Array Value} (hg : a.eval g = .func (.func gf) #[] lb) (hFg : F.fn gf) (eg : ∀ args w, (callFunc gf args).run P w = .ok (.enter gf args) w)
    {encs : α → Array Value} {Kp : World → World → Prop} {S Sp : List α → Prop} {N : Nat} {w0 : World} (hseq : SeqStopsK F (nn - 1) P gf lb encs Kp S Sp N w0)
    (hKt : ∀ {A B C : World}, Kp A B → Kp B C → Kp A C) (hKb : ∀ (W : World) (l : Nat) (o o' : Obj), w.heap.size ≤ l → W.heap[l]? = some o → o.isCells = false → o.isWalk = false → Kp W (W.putObj l o')) (hb0 : Below w0.heap.size w0 w) (hps : ∀ x, (encs x).size = ps.size)
    (I : List α → World → Prop) (Ix : Code → List α → World → Prop) (hI : OwnFrom w.heap.size I) (hIx : ∀ c, OwnFrom w.heap.size (Ix c)) (h0 : I [] w)
    (hbody : ∀ (l : Nat) (pre : List α) (x : α) (W : World), I pre W → pre.length < N → body.wpIn (F.inRound l) (nn - 1 - 1) P (ownPostG w.heap.size Kp I Ix (pre ++ [x]) W) { tmps := (ps.zip (encs x)).foldl (fun t (p, v) => t.setIfInBounds p v) a.tmps, defers := [] } W)
    (hdone : ∀ (D : Nat) (xs : List α) (W : World), w.heap.size ≤ D → S xs → I xs W → W.heap[D]? = some (.deferred (some [])) → Q .normal { a with defers := { target := .collected D, args := #[] } :: a.defers } W)
    (hstop : ∀ (D : Nat) (c : Code) (pre : List α) (W : World), w.heap.size ≤ D → Sp pre → Ix c pre W → W.heap[D]? = some (.deferred (some [])) → c.wpIn F nn P Q { a with defers := { target := .collected D, args := #[] } :: a.defers } W)
    (hKr : ∀ W, Kp W W) : (Code.rangeFunc g ps .skip body).wpIn F nn P Q a w :=
  wpIn_rangeFunc_ownG_of_H hro h1 hg hFg eg hseq (fun h k => hKt h k) hKb hb0 hps I Ix hI hIx h0 (fun x => { tmps := (ps.zip (encs x)).foldl (fun t (p, v) => t.setIfInBounds p v) a.tmps, defers := [] })
    (fun l x W K hK => wpIn_skip hK) hbody hdone hstop hKr
set_option maxRecDepth 100000 in
set_option maxHeartbeats 16000000 in
theorem extentNone_calls (w : World) (f n most : Int) (s : Span) (hf : -9223372036854775808 ≤ f ∧ f ≤ 9223372036854775807) (hn : -9223372036854775808 ≤ n ∧ n ≤ 9223372036854775807) (hm : -9223372036854775808 ≤ most ∧ most ≤ 9223372036854775807) :
    Calls Try.prog 14 #[.int .i64 f, .int .i64 n, .agg #[.int .i64 s.start, .int .i64 s.pages], .int .i64 most] w fun e w' => e = .returned (.bool true) ∧ Below w.heap.size w w' := by
  refine callsIn_wide (n := 3).1 ?_
  refine callsIn_of_wp_marks Try.func14 rfl trivial ?_ rfl
  simp only [Try.ntmps14, List.size_toArray, List.length_cons, List.length_nil, Nat.reduceAdd, Nat.reduceSub, Array.replicate_succ, Array.replicate_zero, List.push_toArray, List.append_toArray, List.nil_append, List.cons_append]
  refine wpIn_wide.2 ?_
  have hW0 : Hid (∀ W, Below ((w.alloc (.cells #[.int .i64 s.start, .int .i64 s.pages] 90)).alloc (.cells #[.int .i64 most] 3)).heap.size ((w.alloc (.cells #[.int .i64 s.start, .int .i64 s.pages] 90)).alloc (.cells #[.int .i64 most] 3)) W →
      Below w.heap.size w W ∧ w.heap.size + 2 ≤ W.heap.size ∧ W.cell? ⟨w.heap.size, 0, none⟩ = some (.int .i64 s.start) ∧ W.cell? ⟨w.heap.size, 1, none⟩ = some (.int .i64 s.pages) ∧ W.cell? ⟨w.heap.size + 1, 0, none⟩ = some (.int .i64 most)) := fun W hW => by
    have h1 := blk_alloc (blk_new w (.cells s.cells 90)) (.cells #[.int .i64 most] 3)
    have h2 := blk_new (w.alloc (.cells s.cells 90)) (.cells #[.int .i64 most] 3)
    rw [World.size_alloc] at h2
    have k1 := blk_below hW h1 (blk_lt h1)
    have k2 := blk_below hW h2 (blk_lt h2)
    have hb : Below w.heap.size w ((w.alloc (.cells #[.int .i64 s.start, .int .i64 s.pages] 90)).alloc (.cells #[.int .i64 most] 3)) := bl_alloc (bl_alloc (Below.refl _ w) _) _
    exact ⟨bl_then hb hb.size hW, by have := hW.size; simp at this; omega, (span_at k1).1, (span_at k1).2, by rw [blk_cell k2]; rfl⟩
  go_wp2_with fail
  refine (awake06_calls _).mono ?_
  rintro e w2 ⟨rfl, hb2⟩
  obtain ⟨q1, q2, q3, q4, q5⟩ := hW0.out w2 hb2
  have Q1 := Lib.hid q1
  have Q2 := Lib.hid q2
  have HB2 := Lib.hid hb2
  clear q1 q2 q3 q4 hb2
  rcases (Decidable.em ((100 : Int) < n)) with hn1 | hn1
  case' inl =>
    go_wp2
    exact ⟨_, by simp [results, Try.results14, go_sem], rfl, Q1.out⟩
  rcases (Decidable.em (most < 0)) with hl1 | hl1
  case' inl =>
    go_wp2
    exact ⟨_, by simp [results, Try.results14, go_sem], rfl, Q1.out⟩
  go_wp2_with fail
  refine (frB_new (Below.refl w2.heap.size w2) f n hf hn).mono ?_
  rintro e w3 ⟨g, rfl, h3⟩
  have H3 := Lib.hid h3
  obtain ⟨q1, q2, q3, q4, q5'⟩ := hW0.out w3 (HB2.out.trans (h3.bl.mono HB2.out.size))
  clear h3 q1 q2 q5'
  go_wp2_with fail
  refine (frB_claim H3.out s).mono ?_
  rintro e w4 ⟨rfl, h4⟩
  have H4 := Lib.hid h4
  generalize ((Fr.new f n).claim s).2 = D at *
  generalize ((Fr.new f n).claim s).1 = cl at *
  clear h4 H3 q3 q4 q5
  go_wp2_with fail
  refine (spans_calls _ _).mono ?_
  rintro e w6 ⟨rfl, hw6⟩
  rw [World.size_alloc]
  have hb0 : Below w4.heap.size w4 w6 := by rw [hw6]; exact bl_alloc (bl_alloc (Below.refl _ w4) _) _
  have hs0 : w6.heap.size = w4.heap.size + 2 := by rw [hw6]; simp
  have b0 : w6.heap[w4.heap.size]? = some (.cells #[.int .i64 0] 3 (0, 0)) := by rw [hw6]; exact blk_alloc (blk_new w4 _) _
  have b1 : w6.cell? ⟨w4.heap.size + 1, 0, none⟩ = some (.pointer (some ⟨g, 0, none⟩)) := by
    have h2 : w6.heap[w4.heap.size + 1]? = some (.cells #[.pointer (some ⟨g, 0, none⟩)] 83 (0, 0)) := by
      rw [hw6]
      have := blk_new (w4.alloc (.cells #[.int .i64 0] 3)) (.cells #[.pointer (some ⟨g, 0, none⟩)] 83)
      rw [World.size_alloc] at this
      exact this
    rw [blk_cell h2]
    rfl
  have HT : Hid (Tells w6 (some ⟨g, 0, none⟩) D.l) := by
    obtain ⟨F, h1, h2, h3⟩ := H4.out
    exact tells_set (h1.below hb0)
  have HC6 : Hid (∀ W, Below w4.heap.size w6 W → Below w.heap.size w W ∧ w.heap.size + 2 ≤ w4.heap.size ∧ W.cell? ⟨w.heap.size, 0, none⟩ = some (.int .i64 s.start) ∧ W.cell? ⟨w.heap.size, 1, none⟩ = some (.int .i64 s.pages) ∧ W.cell? ⟨w.heap.size + 1, 0, none⟩ = some (.int .i64 most) ∧ FrB w2 W g D) := fun W hW => by
    have hb4 := H4.out.bl
    have hbW : Below w4.heap.size w4 W := hb0.trans hW
    obtain ⟨q1, q2, q3, q4, q5⟩ := hW0.out W ((HB2.out.trans (hb4.mono HB2.out.size)).trans (hbW.mono (Nat.le_trans HB2.out.size hb4.size)))
    exact ⟨q1, by have := Q2.out; have := hb4.size; omega, q3, q4, q5, H4.out.below hbW⟩
  have hlen : D.l.length ≤ 16384 := H4.out.okD.len
  have hm0 : 0 ≤ most := by omega
  have hsz6 : w4.heap.size ≤ w6.heap.size := by omega
  have hlt6 : w.heap.size + 2 ≤ w4.heap.size := (HC6.out w6 (Below.refl _ _)).2.1
  clear hw6 hW0 H4 HB2 Q2
  go_wp2_with fail
  refine (wpIn_wide (n := 3)).1 ?_
  refine wpIn_rangeFunc_skip rfl (by omega) (gf := 107) (lb := #[.pointer (some ⟨w4.heap.size + 1, 0, none⟩)]) rfl trivial (enters_of Try.func107 (by kernel_rfl) rfl)
    (HT.out w6 (w4.heap.size + 1) (fun _ k => k = w4.heap.size) (Below.refl _ _) b1 (by omega) (fun _ _ _ _ _ h => h) (fun W hW k hk => by have := hW.size; omega)) (fun a b => KeptX.trans a b) (fun W q o o' h1 h2 h3 _ => KeptX.putObj (n₀ := 0) (fun _ _ _ _ _ h => h) W q o o' (Nat.zero_le _) (Nat.zero_le _) h2 h3) (Below.refl _ _) (fun _ => rfl)
    (NoneI w4 w6 most) (NoneX w4 w6 most) (noneI_own most hsz6) (noneX_own most hsz6) ⟨b0, hm0, Below.refl _ _⟩ ?body ?done ?stop (fun W => KeptX.refl _ W)
  case body =>
    rintro l pre x W ⟨hp, hq, hB⟩ hlt
    obtain ⟨-, -, -, -, y1, -⟩ := HC6.out W hB
    have y0 := blk_cell hp 0
    simp at y0
    have f0 := blk_free hp 0
    have HP := Lib.hid hp
    have HB := Lib.hid hB
    have hw1 : wrap64 ((pre.length : Int) + 1) = (pre.length : Int) + 1 := wrap64I (by omega)
    clear hp hB
    unfold spanA
    rcases (Decidable.em ((pre.length : Int) = most)) with he | he
    · have hl1 : Hid (((pre ++ [x]).length : Int) = most + 1) := by show _ = _; simp; omega
      rw [he] at y0 HP
      have HP := Lib.hid HP.out
      clear he hw1
      gi_wp2
      exact ⟨(KeepsOthers.refl W).from _, rfl, HP.out, hl1.out, HB.out⟩
    · have hl1 : Hid (((pre ++ [x]).length : Int) = (pre.length : Int) + 1) := by show _ = _; simp
      have hl2 : Hid ((pre.length : Int) + 1 ≤ most) := by show _ ≤ _; omega
      have heb : (((pre.length : Int)) == most) = false := by simpa using he
      clear he
      gi_wp2
      refine ⟨(KeepsOthers.of_grownBy (grown_set W w4.heap.size 0 _) (fun j o ej ho => by cases ej; rw [HP.out] at ho; cases ho; rfl)).from _, KeptX.one rfl, ?_, by rw [hl1.out]; exact hl2.out, HB.out.setCell (Nat.le_refl _) _⟩
      rw [hl1.out]
      exact blk_set' HP.out 0 _ rfl
  case' done =>
    rintro Df ys WE hD hys ⟨hp, hq, hB⟩ hKd
    subst hys
    obtain ⟨kv, hkv⟩ : ∃ kv : Int, kv = (D.l.length : Int) := ⟨_, rfl⟩
    have hkm : (kv == min most (D.l.length : Int)) = true := by rw [beq_iff_eq]; omega
    rw [← hkv] at hp
  case' stop =>
    rintro Df code pre WE hD hpre ⟨rfl, hp, hq, hB⟩ hKd
    obtain ⟨kv, hkv⟩ : ∃ kv : Int, kv = most := ⟨_, rfl⟩
    have hpl : pre.length ≤ D.l.length := by rw [hpre]; exact List.length_take_le' _ _
    have hkm : (kv == min most (D.l.length : Int)) = true := by rw [beq_iff_eq]; omega
    rw [← hkv] at hp
    refine wpIn_wide.2 ?_
  all_goals
    clear hkv
    have hKd := Lib.hid hKd
    have hDl := blk_lt hKd.out
    have hC : Hid (∀ V, Below WE.heap.size WE V → V.cell? ⟨w4.heap.size, 0, none⟩ = some (.int .i64 kv) ∧ V.cell? ⟨w.heap.size, 0, none⟩ = some (.int .i64 s.start) ∧ V.cell? ⟨w.heap.size, 1, none⟩ = some (.int .i64 s.pages) ∧ V.cell? ⟨w.heap.size + 1, 0, none⟩ = some (.int .i64 most)) := fun V hV => by
      have h1 := blk_below hV hp (blk_lt hp)
      obtain ⟨-, -, q3, q4, q5, -⟩ := HC6.out V (hB.trans (hV.mono (by have := hB.size; omega)))
      exact ⟨by rw [blk_cell h1]; rfl, q3, q4, q5⟩
    have hfr : Hid (∀ V, Below WE.heap.size WE V → FrB w2 V g D) := fun V hV => by
      obtain ⟨-, -, -, -, -, q⟩ := HC6.out V (hB.trans (hV.mono (by have := hB.size; omega)))
      exact q
    have hfin : Hid (∀ V, Below WE.heap.size WE V → V.heap[Df]? = some (.deferred (some [])) ∧ Below w.heap.size w (V.putObj Df (.deferred none))) := fun V hV => by
      obtain ⟨q1, -⟩ := HC6.out V (hB.trans (hV.mono (by have := hB.size; omega)))
      exact ⟨by rw [hV.block Df hDl]; exact hKd.out, q1.grown (grownBy_putObj' V Df (.deferred none)) q1.size (fun k ek => by cases ek; omega)⟩
    clear hp hB hD hq
    go_wp2_with fail
    refine (take_none _ 1).mono ?_
    rintro e v0 ⟨rfl, rfl⟩
    go_wp2_with fail
    have hb0 : Hid (Below WE.heap.size WE WE.drew) := (Below.refl _ WE).drew
    have cnt0 : cntW [] = 0 := rfl
    have max0 : maxL [] = 0 := rfl
    have len0 : Hid (([] : List Span).length ≤ 1000000) := by show _ ≤ _; simp
    have mi := run_min_n (D.l.length : Int) most
    refine wp_region_noPanic ?_
    refine wp_region_held_drew (S := fun V => Hid (Below WE.heap.size WE V)) (by kernel_rfl) (hb0) (fun hHeld => ?_)
    refine wpAnyH_take (i := 0) (oi := ⟨some 41, _, _, _, _, _⟩) (v := ?_) rfl (by kernel_rfl) (by kernel_rfl) (by kernel_rfl) (fun _ _ _ h => h) (Or.inl ⟨by rfl, ?_⟩) (by assumption) ?_
    rotate_left
    · (intro w hSw; (try dsimp only at hSw); obtain ⟨z0, z1, z2, z3⟩ := hC.out _ hSw.out; (go_simp <;> with_reducible rfl))
    try simp only [Act.put, List.setIfInBounds_toArray, List.set_cons_zero, List.set_cons_succ]
    refine wpAnyH_take (i := 1) (oi := ⟨some 42, _, _, _, _, _⟩) (v := ?_) rfl (by kernel_rfl) (by kernel_rfl) (by kernel_rfl) (fun _ _ _ h => h) (Or.inl ⟨by rfl, ?_⟩) (by assumption) ?_
    rotate_left
    · (intro w hSw; (try dsimp only at hSw); obtain ⟨z0, z1, z2, z3⟩ := hC.out _ hSw.out; (go_simp <;> with_reducible rfl))
    try simp only [Act.put, List.setIfInBounds_toArray, List.set_cons_zero, List.set_cons_succ]
    refine wpAnyH_take (i := 2) (oi := ⟨some 43, _, _, _, _, _⟩) (v := ?_) rfl (by kernel_rfl) (by kernel_rfl) (by kernel_rfl) (fun _ _ _ h => h) (Or.inl ⟨by rfl, ?_⟩) (by assumption) ?_
    rotate_left
    · (intro w hSw; (try dsimp only at hSw); obtain ⟨z0, z1, z2, z3⟩ := hC.out _ hSw.out; (go_simp <;> with_reducible rfl))
    try simp only [Act.put, List.setIfInBounds_toArray, List.set_cons_zero, List.set_cons_succ]
    refine wpAnyH_ready (rs := [3]) (by kernel_rfl) (by simp) ?_
    refine AllReadyH.cons rfl (fun K hK => ?_) AllReadyH.nil
    go_simp
    go_at_call 53
    refine (frB_rows (hfr.out _ hb0.out)).mono ?_
    rintro e v1 ⟨vv1, rfl, o1, b1⟩
    obtain ⟨A1, c1, rfl, -, -, -, -⟩ := o1.rd Span.ok
    have B1 : Hid (Below WE.heap.size WE v1) := bl_then hb0.out hb0.out.size b1
    clear o1 b1
    refine hK.out _ _ (by assumption) (fun _ => ?_)
    clear hK K
    try simp only [Act.put, List.setIfInBounds_toArray, List.set_cons_zero, List.set_cons_succ]
    refine wpAnyH_take (i := 4) (oi := ⟨some 45, _, _, _, _, _⟩) (v := ?_) rfl (by kernel_rfl) (by kernel_rfl) (by kernel_rfl) (fun _ _ _ h => h) (Or.inl ⟨by rfl, ?_⟩) (by assumption) ?_
    rotate_left
    · (intro w hSw; (try dsimp only at hSw); obtain ⟨z0, z1, z2, z3⟩ := hC.out _ hSw.out; (go_simp <;> with_reducible rfl))
    try simp only [Act.put, List.setIfInBounds_toArray, List.set_cons_zero, List.set_cons_succ]
    refine wpAnyH_take (i := 5) (oi := ⟨some 46, _, _, _, _, _⟩) (v := ?_) rfl (by kernel_rfl) (by kernel_rfl) (by kernel_rfl) (fun _ _ _ h => h) (Or.inl ⟨by rfl, ?_⟩) (by assumption) ?_
    rotate_left
    · (intro w hSw; (try dsimp only at hSw); obtain ⟨z0, z1, z2, z3⟩ := hC.out _ hSw.out; (go_simp <;> with_reducible rfl))
    try simp only [Act.put, List.setIfInBounds_toArray, List.set_cons_zero, List.set_cons_succ]
    refine wpAnyH_take (i := 6) (oi := ⟨some 47, _, _, _, _, _⟩) (v := ?_) rfl (by kernel_rfl) (by kernel_rfl) (by kernel_rfl) (fun _ _ _ h => h) (Or.inl ⟨by rfl, ?_⟩) (by assumption) ?_
    rotate_left
    · (intro w hSw; (try dsimp only at hSw); obtain ⟨z0, z1, z2, z3⟩ := hC.out _ hSw.out; (go_simp <;> with_reducible rfl))
    try simp only [Act.put, List.setIfInBounds_toArray, List.set_cons_zero, List.set_cons_succ]
    refine wpAnyH_take (i := 7) (oi := ⟨some 48, _, _, _, _, _⟩) (v := ?_) rfl (by kernel_rfl) (by kernel_rfl) (by kernel_rfl) (fun _ _ _ h => h) (Or.inl ⟨by rfl, ?_⟩) (by assumption) ?_
    rotate_left
    · (intro w hSw; (try dsimp only at hSw); obtain ⟨z0, z1, z2, z3⟩ := hC.out _ hSw.out; (go_simp <;> with_reducible rfl))
    try simp only [Act.put, List.setIfInBounds_toArray, List.set_cons_zero, List.set_cons_succ]
    refine wpAnyH_take (i := 8) (oi := ⟨some 49, _, _, _, _, _⟩) (v := ?_) rfl (by kernel_rfl) (by kernel_rfl) (by kernel_rfl) (fun _ _ _ h => h) (Or.inl ⟨by rfl, ?_⟩) (by assumption) ?_
    rotate_left
    · (intro w hSw; (try dsimp only at hSw); obtain ⟨z0, z1, z2, z3⟩ := hC.out _ hSw.out; (go_simp <;> with_reducible rfl))
    try simp only [Act.put, List.setIfInBounds_toArray, List.set_cons_zero, List.set_cons_succ]
    refine wpAnyH_take (i := 9) (oi := ⟨some 50, _, _, _, _, _⟩) (v := ?_) rfl (by kernel_rfl) (by kernel_rfl) (by kernel_rfl) (fun _ _ _ h => h) (Or.inl ⟨by rfl, ?_⟩) (by assumption) ?_
    rotate_left
    · (intro w hSw; (try dsimp only at hSw); obtain ⟨z0, z1, z2, z3⟩ := hC.out _ hSw.out; (go_simp <;> with_reducible rfl))
    try simp only [Act.put, List.setIfInBounds_toArray, List.set_cons_zero, List.set_cons_succ]
    refine wpAnyH_take (i := 10) (oi := ⟨some 51, _, _, _, _, _⟩) (v := ?_) rfl (by kernel_rfl) (by kernel_rfl) (by kernel_rfl) (fun _ _ _ h => h) (Or.inl ⟨by rfl, ?_⟩) (by assumption) ?_
    rotate_left
    · (intro w hSw; (try dsimp only at hSw); obtain ⟨z0, z1, z2, z3⟩ := hC.out _ hSw.out; (go_simp <;> with_reducible rfl))
    try simp only [Act.put, List.setIfInBounds_toArray, List.set_cons_zero, List.set_cons_succ]
    refine wpAnyH_take (i := 11) (oi := ⟨some 52, _, _, _, _, _⟩) (v := ?_) rfl (by kernel_rfl) (by kernel_rfl) (by kernel_rfl) (fun _ _ _ h => h) (Or.inl ⟨by rfl, ?_⟩) (by assumption) ?_
    rotate_left
    · (intro w hSw; (try dsimp only at hSw); obtain ⟨z0, z1, z2, z3⟩ := hC.out _ hSw.out; (go_simp <;> with_reducible rfl))
    try simp only [Act.put, List.setIfInBounds_toArray, List.set_cons_zero, List.set_cons_succ]
    refine wpAnyH_take (i := 12) (oi := ⟨some 53, _, _, _, _, _⟩) (v := ?_) rfl (by kernel_rfl) (by kernel_rfl) (by kernel_rfl) (fun _ _ _ h => h) (Or.inl ⟨by rfl, ?_⟩) (by assumption) ?_
    rotate_left
    · (intro w hSw; (try dsimp only at hSw); obtain ⟨z0, z1, z2, z3⟩ := hC.out _ hSw.out; (go_simp <;> with_reducible rfl))
    try simp only [Act.put, List.setIfInBounds_toArray, List.set_cons_zero, List.set_cons_succ]
    refine wpAnyH_take (i := 13) (oi := ⟨some 54, _, _, _, _, _⟩) (v := ?_) rfl (by kernel_rfl) (by kernel_rfl) (by kernel_rfl) (fun _ _ _ h => h) (Or.inl ⟨by rfl, ?_⟩) (by assumption) ?_
    rotate_left
    · (intro w hSw; (try dsimp only at hSw); obtain ⟨z0, z1, z2, z3⟩ := hC.out _ hSw.out; (go_simp <;> with_reducible rfl))
    try simp only [Act.put, List.setIfInBounds_toArray, List.set_cons_zero, List.set_cons_succ]
    refine wpAnyH_ready (rs := [14]) (by kernel_rfl) (by simp) ?_
    refine AllReadyH.cons rfl (fun K hK => ?_) AllReadyH.nil
    go_simp
    go_at_call 61
    refine (claim_none _ s).mono ?_
    rintro e v2 ⟨rfl, b2⟩
    have B2 : Hid (Below WE.heap.size WE v2) := bl_then B1.out B1.out.size b2
    clear b2
    refine hK.out _ _ (by assumption) (fun _ => ?_)
    clear hK K
    try simp only [Act.put, List.setIfInBounds_toArray, List.set_cons_zero, List.set_cons_succ]
    refine wpAnyH_take (i := 15) (oi := ⟨some 56, _, _, _, _, _⟩) (v := ?_) rfl (by kernel_rfl) (by kernel_rfl) (by kernel_rfl) (fun _ _ _ h => h) (Or.inl ⟨by rfl, ?_⟩) (by assumption) ?_
    rotate_left
    · (intro w hSw; (try dsimp only at hSw); obtain ⟨z0, z1, z2, z3⟩ := hC.out _ hSw.out; (go_simp <;> with_reducible rfl))
    try simp only [Act.put, List.setIfInBounds_toArray, List.set_cons_zero, List.set_cons_succ]
    refine wpAnyH_take (i := 16) (oi := ⟨some 57, _, _, _, _, _⟩) (v := ?_) rfl (by kernel_rfl) (by kernel_rfl) (by kernel_rfl) (fun _ _ _ h => h) (Or.inl ⟨by rfl, ?_⟩) (by assumption) ?_
    rotate_left
    · (intro w hSw; (try dsimp only at hSw); obtain ⟨z0, z1, z2, z3⟩ := hC.out _ hSw.out; (go_simp <;> with_reducible rfl))
    try simp only [Act.put, List.setIfInBounds_toArray, List.set_cons_zero, List.set_cons_succ]
    refine wpAnyH_take (i := 17) (oi := ⟨some 58, _, _, _, _, _⟩) (v := ?_) rfl (by kernel_rfl) (by kernel_rfl) (by kernel_rfl) (fun _ _ _ h => h) (Or.inl ⟨by rfl, ?_⟩) (by assumption) ?_
    rotate_left
    · (intro w hSw; (try dsimp only at hSw); obtain ⟨z0, z1, z2, z3⟩ := hC.out _ hSw.out; (go_simp <;> with_reducible rfl))
    try simp only [Act.put, List.setIfInBounds_toArray, List.set_cons_zero, List.set_cons_succ]
    refine wpAnyH_take (i := 18) (oi := ⟨some 59, _, _, _, _, _⟩) (v := ?_) rfl (by kernel_rfl) (by kernel_rfl) (by kernel_rfl) (fun _ _ _ h => h) (Or.inl ⟨by rfl, ?_⟩) (by assumption) ?_
    rotate_left
    · (intro w hSw; (try dsimp only at hSw); obtain ⟨z0, z1, z2, z3⟩ := hC.out _ hSw.out; (go_simp <;> with_reducible rfl))
    try simp only [Act.put, List.setIfInBounds_toArray, List.set_cons_zero, List.set_cons_succ]
    refine wpAnyH_take (i := 19) (oi := ⟨some 60, _, _, _, _, _⟩) (v := ?_) rfl (by kernel_rfl) (by kernel_rfl) (by kernel_rfl) (fun _ _ _ h => h) (Or.inl ⟨by rfl, ?_⟩) (by assumption) ?_
    rotate_left
    · (intro w hSw; (try dsimp only at hSw); obtain ⟨z0, z1, z2, z3⟩ := hC.out _ hSw.out; (go_simp <;> with_reducible rfl))
    try simp only [Act.put, List.setIfInBounds_toArray, List.set_cons_zero, List.set_cons_succ]
    refine wpAnyH_ready (rs := [20]) (by kernel_rfl) (by simp) ?_
    refine AllReadyH.cons rfl (fun K hK => ?_) AllReadyH.nil
    go_simp
    go_at_call 57
    refine (give_none _ s).mono ?_
    rintro e v3 ⟨rfl, b3⟩
    have B3 : Hid (Below WE.heap.size WE v3) := bl_then B2.out B2.out.size b3
    clear b3
    refine hK.out _ _ (by assumption) (fun _ => ?_)
    clear hK K
    try simp only [Act.put, List.setIfInBounds_toArray, List.set_cons_zero, List.set_cons_succ]
    refine wpAnyH_take (i := 21) (oi := ⟨some 62, _, _, _, _, _⟩) (v := ?_) rfl (by kernel_rfl) (by kernel_rfl) (by kernel_rfl) (fun _ _ _ h => h) (Or.inl ⟨by rfl, ?_⟩) (by assumption) ?_
    rotate_left
    · (intro w hSw; (try dsimp only at hSw); obtain ⟨z0, z1, z2, z3⟩ := hC.out _ hSw.out; (go_simp <;> with_reducible rfl))
    try simp only [Act.put, List.setIfInBounds_toArray, List.set_cons_zero, List.set_cons_succ]
    refine wpAnyH_take (i := 22) (oi := ⟨some 63, _, _, _, _, _⟩) (v := ?_) rfl (by kernel_rfl) (by kernel_rfl) (by kernel_rfl) (fun _ _ _ h => h) (Or.inl ⟨by rfl, ?_⟩) (by assumption) ?_
    rotate_left
    · (intro w hSw; (try dsimp only at hSw); obtain ⟨z0, z1, z2, z3⟩ := hC.out _ hSw.out; (go_simp <;> with_reducible rfl))
    try simp only [Act.put, List.setIfInBounds_toArray, List.set_cons_zero, List.set_cons_succ]
    refine wpAnyH_take (i := 23) (oi := ⟨some 64, _, _, _, _, _⟩) (v := ?_) rfl (by kernel_rfl) (by kernel_rfl) (by kernel_rfl) (fun _ _ _ h => h) (Or.inl ⟨by rfl, ?_⟩) (by assumption) ?_
    rotate_left
    · (intro w hSw; (try dsimp only at hSw); obtain ⟨z0, z1, z2, z3⟩ := hC.out _ hSw.out; (go_simp <;> with_reducible rfl))
    try simp only [Act.put, List.setIfInBounds_toArray, List.set_cons_zero, List.set_cons_succ]
    refine wpAnyH_take (i := 24) (oi := ⟨some 65, _, _, _, _, _⟩) (v := ?_) rfl (by kernel_rfl) (by kernel_rfl) (by kernel_rfl) (fun _ _ _ h => h) (Or.inl ⟨by rfl, ?_⟩) (by assumption) ?_
    rotate_left
    · (intro w hSw; (try dsimp only at hSw); obtain ⟨z0, z1, z2, z3⟩ := hC.out _ hSw.out; (go_simp <;> with_reducible rfl))
    try simp only [Act.put, List.setIfInBounds_toArray, List.set_cons_zero, List.set_cons_succ]
    refine wpAnyH_take (i := 25) (oi := ⟨some 66, _, _, _, _, _⟩) (v := ?_) rfl (by kernel_rfl) (by kernel_rfl) (by kernel_rfl) (fun _ _ _ h => h) (Or.inl ⟨by rfl, ?_⟩) (by assumption) ?_
    rotate_left
    · (intro w hSw; (try dsimp only at hSw); obtain ⟨z0, z1, z2, z3⟩ := hC.out _ hSw.out; (go_simp <;> with_reducible rfl))
    try simp only [Act.put, List.setIfInBounds_toArray, List.set_cons_zero, List.set_cons_succ]
    refine wpAnyH_ready (rs := [26]) (by kernel_rfl) (by simp) ?_
    refine AllReadyH.cons rfl (fun K hK => ?_) AllReadyH.nil
    go_simp
    go_at_call 56
    refine (fhas_none _ s).mono ?_
    rintro e v4 ⟨rfl, b4⟩
    have B4 : Hid (Below WE.heap.size WE v4) := bl_then B3.out B3.out.size b4
    clear b4
    refine hK.out _ _ (by assumption) (fun _ => ?_)
    clear hK K
    try simp only [Act.put, List.setIfInBounds_toArray, List.set_cons_zero, List.set_cons_succ]
    refine wpAnyH_take (i := 27) (oi := ⟨some 68, _, _, _, _, _⟩) (v := ?_) rfl (by kernel_rfl) (by kernel_rfl) (by kernel_rfl) (fun _ _ _ h => h) (Or.inl ⟨by rfl, ?_⟩) (by assumption) ?_
    rotate_left
    · (intro w hSw; (try dsimp only at hSw); obtain ⟨z0, z1, z2, z3⟩ := hC.out _ hSw.out; (go_simp <;> with_reducible rfl))
    try simp only [Act.put, List.setIfInBounds_toArray, List.set_cons_zero, List.set_cons_succ]
    refine wpAnyH_take (i := 28) (oi := ⟨some 69, _, _, _, _, _⟩) (v := ?_) rfl (by kernel_rfl) (by kernel_rfl) (by kernel_rfl) (fun _ _ _ h => h) (Or.inl ⟨by rfl, ?_⟩) (by assumption) ?_
    rotate_left
    · (intro w hSw; (try dsimp only at hSw); obtain ⟨z0, z1, z2, z3⟩ := hC.out _ hSw.out; (go_simp <;> with_reducible rfl))
    try simp only [Act.put, List.setIfInBounds_toArray, List.set_cons_zero, List.set_cons_succ]
    refine wpAnyH_take (i := 29) (oi := ⟨some 70, _, _, _, _, _⟩) (v := ?_) rfl (by kernel_rfl) (by kernel_rfl) (by kernel_rfl) (fun _ _ _ h => h) (Or.inl ⟨by rfl, ?_⟩) (by assumption) ?_
    rotate_left
    · (intro w hSw; (try dsimp only at hSw); obtain ⟨z0, z1, z2, z3⟩ := hC.out _ hSw.out; (go_simp <;> with_reducible rfl))
    try simp only [Act.put, List.setIfInBounds_toArray, List.set_cons_zero, List.set_cons_succ]
    refine wpAnyH_take (i := 30) (oi := ⟨some 71, _, _, _, _, _⟩) (v := ?_) rfl (by kernel_rfl) (by kernel_rfl) (by kernel_rfl) (fun _ _ _ h => h) (Or.inl ⟨by rfl, ?_⟩) (by assumption) ?_
    rotate_left
    · (intro w hSw; (try dsimp only at hSw); obtain ⟨z0, z1, z2, z3⟩ := hC.out _ hSw.out; (go_simp <;> with_reducible rfl))
    try simp only [Act.put, List.setIfInBounds_toArray, List.set_cons_zero, List.set_cons_succ]
    refine wpAnyH_ready (rs := [31]) (by kernel_rfl) (by simp) ?_
    refine AllReadyH.cons rfl (fun K hK => ?_) AllReadyH.nil
    go_simp
    go_at_call 68
    refine (count_of none [] (tells_none _)).mono ?_
    rintro e v5 ⟨rfl, b5⟩
    have B5 : Hid (Below WE.heap.size WE v5) := bl_then B4.out B4.out.size b5
    clear b5
    rw [cnt0]
    refine hK.out _ _ (by assumption) (fun _ => ?_)
    clear hK K
    try simp only [Act.put, List.setIfInBounds_toArray, List.set_cons_zero, List.set_cons_succ]
    refine wpAnyH_take (i := 32) (oi := ⟨some 73, _, _, _, _, _⟩) (v := ?_) rfl (by kernel_rfl) (by kernel_rfl) (by kernel_rfl) (fun _ _ _ h => h) (Or.inl ⟨by rfl, ?_⟩) (by assumption) ?_
    rotate_left
    · (intro w hSw; (try dsimp only at hSw); obtain ⟨z0, z1, z2, z3⟩ := hC.out _ hSw.out; (go_simp <;> with_reducible rfl))
    try simp only [Act.put, List.setIfInBounds_toArray, List.set_cons_zero, List.set_cons_succ]
    refine wpAnyH_take (i := 33) (oi := ⟨some 74, _, _, _, _, _⟩) (v := ?_) rfl (by kernel_rfl) (by kernel_rfl) (by kernel_rfl) (fun _ _ _ h => h) (Or.inl ⟨by rfl, ?_⟩) (by assumption) ?_
    rotate_left
    · (intro w hSw; (try dsimp only at hSw); obtain ⟨z0, z1, z2, z3⟩ := hC.out _ hSw.out; (go_simp <;> with_reducible rfl))
    try simp only [Act.put, List.setIfInBounds_toArray, List.set_cons_zero, List.set_cons_succ]
    refine wpAnyH_take (i := 34) (oi := ⟨some 75, _, _, _, _, _⟩) (v := ?_) rfl (by kernel_rfl) (by kernel_rfl) (by kernel_rfl) (fun _ _ _ h => h) (Or.inl ⟨by rfl, ?_⟩) (by assumption) ?_
    rotate_left
    · (intro w hSw; (try dsimp only at hSw); obtain ⟨z0, z1, z2, z3⟩ := hC.out _ hSw.out; (go_simp <;> with_reducible rfl))
    try simp only [Act.put, List.setIfInBounds_toArray, List.set_cons_zero, List.set_cons_succ]
    refine wpAnyH_take (i := 35) (oi := ⟨some 76, _, _, _, _, _⟩) (v := ?_) rfl (by kernel_rfl) (by kernel_rfl) (by kernel_rfl) (fun _ _ _ h => h) (Or.inl ⟨by rfl, ?_⟩) (by assumption) ?_
    rotate_left
    · (intro w hSw; (try dsimp only at hSw); obtain ⟨z0, z1, z2, z3⟩ := hC.out _ hSw.out; (go_simp <;> with_reducible rfl))
    try simp only [Act.put, List.setIfInBounds_toArray, List.set_cons_zero, List.set_cons_succ]
    refine wpAnyH_ready (rs := [36]) (by kernel_rfl) (by simp) ?_
    refine AllReadyH.cons rfl (fun K hK => ?_) AllReadyH.nil
    go_simp
    go_at_call 55
    refine (largest_of none [] (tells_none _)).mono ?_
    rintro e v6 ⟨rfl, b6⟩
    have B6 : Hid (Below WE.heap.size WE v6) := bl_then B5.out B5.out.size b6
    clear b6
    rw [max0]
    refine hK.out _ _ (by assumption) (fun _ => ?_)
    clear hK K
    try simp only [Act.put, List.setIfInBounds_toArray, List.set_cons_zero, List.set_cons_succ]
    refine wpAnyH_take (i := 37) (oi := ⟨some 78, _, _, _, _, _⟩) (v := ?_) rfl (by kernel_rfl) (by kernel_rfl) (by kernel_rfl) (fun _ _ _ h => h) (Or.inl ⟨by rfl, ?_⟩) (by assumption) ?_
    rotate_left
    · (intro w hSw; (try dsimp only at hSw); obtain ⟨z0, z1, z2, z3⟩ := hC.out _ hSw.out; (go_simp <;> with_reducible rfl))
    try simp only [Act.put, List.setIfInBounds_toArray, List.set_cons_zero, List.set_cons_succ]
    refine wpAnyH_take (i := 38) (oi := ⟨some 79, _, _, _, _, _⟩) (v := ?_) rfl (by kernel_rfl) (by kernel_rfl) (by kernel_rfl) (fun _ _ _ h => h) (Or.inl ⟨by rfl, ?_⟩) (by assumption) ?_
    rotate_left
    · (intro w hSw; (try dsimp only at hSw); obtain ⟨z0, z1, z2, z3⟩ := hC.out _ hSw.out; (go_simp <;> with_reducible rfl))
    try simp only [Act.put, List.setIfInBounds_toArray, List.set_cons_zero, List.set_cons_succ]
    refine wpAnyH_take (i := 39) (oi := ⟨some 80, _, _, _, _, _⟩) (v := ?_) rfl (by kernel_rfl) (by kernel_rfl) (by kernel_rfl) (fun _ _ _ h => h) (Or.inl ⟨by rfl, ?_⟩) (by assumption) ?_
    rotate_left
    · (intro w hSw; (try dsimp only at hSw); obtain ⟨z0, z1, z2, z3⟩ := hC.out _ hSw.out; (go_simp <;> with_reducible rfl))
    try simp only [Act.put, List.setIfInBounds_toArray, List.set_cons_zero, List.set_cons_succ]
    refine wpAnyH_take (i := 40) (oi := ⟨some 81, _, _, _, _, _⟩) (v := ?_) rfl (by kernel_rfl) (by kernel_rfl) (by kernel_rfl) (fun _ _ _ h => h) (Or.inl ⟨by rfl, ?_⟩) (by assumption) ?_
    rotate_left
    · (intro w hSw; (try dsimp only at hSw); obtain ⟨z0, z1, z2, z3⟩ := hC.out _ hSw.out; (go_simp <;> with_reducible rfl))
    try simp only [Act.put, List.setIfInBounds_toArray, List.set_cons_zero, List.set_cons_succ]
    refine wpAnyH_ready (rs := [41]) (by kernel_rfl) (by simp) ?_
    refine AllReadyH.cons rfl (fun K hK => ?_) AllReadyH.nil
    go_simp
    go_at_call 53
    refine (rows_of none [] (tells_none _) len0.out).mono ?_
    rintro e v7 ⟨vv7, rfl, o7, b7⟩
    obtain ⟨A7, c7, rfl, -, -, -, -⟩ := o7.rd Span.ok
    have B7 : Hid (Below WE.heap.size WE v7) := bl_then B6.out B6.out.size b7
    clear o7 b7
    refine hK.out _ _ (by assumption) (fun _ => ?_)
    clear hK K
    try simp only [Act.put, List.setIfInBounds_toArray, List.set_cons_zero, List.set_cons_succ]
    refine wpAnyH_take (i := 42) (oi := ⟨some 83, _, _, _, _, _⟩) (v := ?_) rfl (by kernel_rfl) (by kernel_rfl) (by kernel_rfl) (fun _ _ _ h => h) (Or.inl ⟨by rfl, ?_⟩) (by assumption) ?_
    rotate_left
    · (intro w hSw; (try dsimp only at hSw); obtain ⟨z0, z1, z2, z3⟩ := hC.out _ hSw.out; (go_simp <;> with_reducible rfl))
    try simp only [Act.put, List.setIfInBounds_toArray, List.set_cons_zero, List.set_cons_succ]
    refine wpAnyH_take (i := 43) (oi := ⟨some 84, _, _, _, _, _⟩) (v := ?_) rfl (by kernel_rfl) (by kernel_rfl) (by kernel_rfl) (fun _ _ _ h => h) (Or.inl ⟨by rfl, ?_⟩) (by assumption) ?_
    rotate_left
    · (intro w hSw; (try dsimp only at hSw); obtain ⟨z0, z1, z2, z3⟩ := hC.out _ hSw.out; (go_simp <;> with_reducible rfl))
    try simp only [Act.put, List.setIfInBounds_toArray, List.set_cons_zero, List.set_cons_succ]
    refine wpAnyH_take (i := 44) (oi := ⟨some 85, _, _, _, _, _⟩) (v := ?_) rfl (by kernel_rfl) (by kernel_rfl) (by kernel_rfl) (fun _ _ _ h => h) (Or.inl ⟨by rfl, ?_⟩) (by assumption) ?_
    rotate_left
    · (intro w hSw; (try dsimp only at hSw); obtain ⟨z0, z1, z2, z3⟩ := hC.out _ hSw.out; (go_simp <;> with_reducible rfl))
    try simp only [Act.put, List.setIfInBounds_toArray, List.set_cons_zero, List.set_cons_succ]
    refine wpAnyH_take (i := 45) (oi := ⟨some 86, _, _, _, _, _⟩) (v := ?_) rfl (by kernel_rfl) (by kernel_rfl) (by kernel_rfl) (fun _ _ _ h => h) (Or.inl ⟨by rfl, ?_⟩) (by assumption) ?_
    rotate_left
    · (intro w hSw; (try dsimp only at hSw); obtain ⟨z0, z1, z2, z3⟩ := hC.out _ hSw.out; (go_simp <;> with_reducible rfl))
    try simp only [Act.put, List.setIfInBounds_toArray, List.set_cons_zero, List.set_cons_succ]
    refine wpAnyH_take (i := 46) (oi := ⟨some 87, _, _, _, _, _⟩) (v := ?_) rfl (by kernel_rfl) (by kernel_rfl) (by kernel_rfl) (fun _ _ _ h => h) (Or.inl ⟨by rfl, ?_⟩) (by assumption) ?_
    rotate_left
    · (intro w hSw; (try dsimp only at hSw); obtain ⟨z0, z1, z2, z3⟩ := hC.out _ hSw.out; (go_simp <;> with_reducible rfl))
    try simp only [Act.put, List.setIfInBounds_toArray, List.set_cons_zero, List.set_cons_succ]
    refine wpAnyH_ready (rs := [47]) (by kernel_rfl) (by simp) ?_
    refine AllReadyH.cons rfl (fun K hK => ?_) AllReadyH.nil
    go_simp
    go_at_call 65
    refine (copyFr_none _).mono ?_
    rintro e v8 ⟨rfl, rfl⟩
    refine hK.out _ _ (by assumption) (fun _ => ?_)
    clear hK K
    try simp only [Act.put, List.setIfInBounds_toArray, List.set_cons_zero, List.set_cons_succ]
    refine wpAnyH_take (i := 48) (oi := ⟨some 89, _, _, _, _, _⟩) (v := ?_) rfl (by kernel_rfl) (by kernel_rfl) (by kernel_rfl) (fun _ _ _ h => h) (Or.inl ⟨by rfl, ?_⟩) (by assumption) ?_
    rotate_left
    · (intro w hSw; (try dsimp only at hSw); obtain ⟨z0, z1, z2, z3⟩ := hC.out _ hSw.out; (go_simp <;> with_reducible rfl))
    try simp only [Act.put, List.setIfInBounds_toArray, List.set_cons_zero, List.set_cons_succ]
    refine wpAnyH_take (i := 49) (oi := ⟨some 90, _, _, _, _, _⟩) (v := ?_) rfl (by kernel_rfl) (by kernel_rfl) (by kernel_rfl) (fun _ _ _ h => h) (Or.inl ⟨by rfl, ?_⟩) (by assumption) ?_
    rotate_left
    · (intro w hSw; (try dsimp only at hSw); obtain ⟨z0, z1, z2, z3⟩ := hC.out _ hSw.out; (go_simp <;> with_reducible rfl))
    try simp only [Act.put, List.setIfInBounds_toArray, List.set_cons_zero, List.set_cons_succ]
    refine wpAnyH_take (i := 50) (oi := ⟨some 8, _, _, _, _, _⟩) (v := ?_) rfl (by kernel_rfl) (by kernel_rfl) (by kernel_rfl) (fun _ _ _ h => h) (Or.inl ⟨by rfl, ?_⟩) (by assumption) ?_
    rotate_left
    · (intro w hSw; (try dsimp only at hSw); obtain ⟨z0, z1, z2, z3⟩ := hC.out _ hSw.out; (go_simp <;> with_reducible rfl))
    try simp only [Act.put, List.setIfInBounds_toArray, List.set_cons_zero, List.set_cons_succ]
    refine wpAnyH_done (by kernel_rfl) ?_ _
    refine NoPanic.normal ?_
    go_wp2
    refine ⟨by simp, .inl ⟨_, _, rfl, run_takeDeferred (hfin.out _ B7.out).1, ?_⟩⟩
    exact ⟨.bool true, by simp [results, Try.results14, go_sem], rfl, (hfin.out _ B7.out).2⟩
theorem extentNone_row (w : World) (v0 v1 v2 v3 : Value) (f n most : Int) (s : Span) (h0 : IntV v0 f) (h1 : IntV v1 n) (h2 : SpanV v2 s) (h3 : IntV v3 most) :
    Calls Try.prog 14 #[v0, v1, v2, v3] w fun e w' => e = .returned (.bool true) ∧ Below w.heap.size w w' := by
  obtain ⟨rfl, hf⟩ := h0
  obtain ⟨rfl, hn⟩ := h1
  obtain rfl := h2
  obtain ⟨rfl, hm⟩ := h3
  exact extentNone_calls w f n most s hf hn hm
end Go.Proofs.Ytglpckdmiohciaa
