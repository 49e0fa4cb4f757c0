/- (walker).walk. (walker).walk of a node above leaves. tree: gathered, List. -/
import Derived.Test.YtikgplhcadomcaaGreatKU
namespace Go.Proofs.YtikgplhcadomcaaGreat
open Go.RowKit
set_option linter.unusedVariables false
set_option linter.unusedSimpArgs false
section
variable {w0 w w' : World} {G F : Nat → Prop} {gg mm : Nat} {ue uk : Value} {E : List Entry} {K : List Kid} {L : List (Int × Bool)}
theorem GaX.chgd (h : GaX w0 G gg mm ue uk E K L w) : Chg G w0 w := by obtain ⟨G', a, b, c⟩ := h; exact b
theorem GaX.start (h : GaT G gg mm ue uk E K L w) : GaX w G gg mm ue uk E K L w := ⟨G, h, Chg.refl _ _, fun i hi => .inl hi⟩
/-- The same behind an earlier world. -/
theorem GaX.since {w1 : World} (h : GaX w1 G gg mm ue uk E K L w) (hb : Below w0.heap.size w0 w1) : GaX w0 G gg mm ue uk E K L w := by
  obtain ⟨G', a, b, c⟩ := h
  exact ⟨G', a, (Below.chg hb G).trans b (fun _ _ h => h), fun i hi => (c i hi).imp_right (Nat.le_trans hb.size)⟩
theorem GaX.trans {w1 : World} {G1 : Nat → Prop} {ue1 uk1 : Value} {E1 : List Entry} {K1 : List Kid} {L1 : List (Int × Bool)} (h : GaX w1 G1 gg mm ue1 uk1 E1 K1 L1 w) (c1 : Chg G w0 w1) (s1 : ∀ i, G1 i → G i ∨ w0.heap.size ≤ i) : GaX w0 G gg mm ue1 uk1 E1 K1 L1 w := by
  obtain ⟨G', a, b, c⟩ := h
  refine ⟨G', a, c1.trans b (fun i hi hf => ?_), fun i hi => ?_⟩
  · rcases s1 i hf with e | e
    · exact e
    · omega
  · rcases c i hi with e | e
    · exact s1 i e
    · exact .inr (Nat.le_trans c1.size e)
end
/-- Within walk: the walker at q3, the kid at q4, the node at q7. -/
def WkS (q3 q4 q7 s gg : Nat) (kl : Str) (ki : Int) (lv : Int) (a : NdA) (nE nK : Nat) (W : World) : Prop :=
  W.heap[q3]? = some (.cells #[.pointer (some ⟨s, 0, none⟩), .func (.func 149) #[.pointer (some ⟨gg, 0, none⟩)] #[]] 227 (0, 0)) ∧ W.heap[q4]? = some (.cells #[.string kl, .int .u64 ki] 109 (0, 0)) ∧ W.heap[q7]? = some (.cells #[.int .i64 lv, .slice a.A nE a.ca, .slice a.B nK a.cb] 98 (0, 0))
section
variable {q3 q4 q7 s gg : Nat} {kl : Str} {ki : Int} {lv : Int} {a : NdA} {nE nK : Nat} {W W' : World} {G : Nat → Prop}
theorem WkS.cells (h : WkS q3 q4 q7 s gg kl ki lv a nE nK W) : W.cell? ⟨q3, 0, none⟩ = some (.pointer (some ⟨s, 0, none⟩)) ∧ W.cell? ⟨q3, 1, none⟩ = some (.func (.func 149) #[.pointer (some ⟨gg, 0, none⟩)] #[]) ∧ q3 < W.heap.size ∧ W.cell? ⟨q4, 0, none⟩ = some (.string kl) ∧ W.cell? ⟨q4, 1, none⟩ = some (.int .u64 ki) ∧ q4 < W.heap.size ∧ W.cell? ⟨q7, 0, none⟩ = some (.int .i64 lv) ∧ W.cell? ⟨q7, 1, none⟩ = some (.slice a.A nE a.ca) ∧ W.cell? ⟨q7, 2, none⟩ = some (.slice a.B nK a.cb) ∧ q7 < W.heap.size := by
  obtain ⟨h1, h2, h3⟩ := h
  refine ⟨?_, ?_, blk_lt h1, ?_, ?_, blk_lt h2, ?_, ?_, ?_, blk_lt h3⟩
  · rw [blk_cell h1]; rfl
  · rw [blk_cell h1]; rfl
  · rw [blk_cell h2]; rfl
  · rw [blk_cell h2]; rfl
  · rw [blk_cell h3]; rfl
  · rw [blk_cell h3]; rfl
  · rw [blk_cell h3]; rfl
theorem WkS.below (h : WkS q3 q4 q7 s gg kl ki lv a nE nK W) (hb : Below W.heap.size W W') : WkS q3 q4 q7 s gg kl ki lv a nE nK W' := ⟨blk_below hb h.1 (blk_lt h.1), blk_below hb h.2.1 (blk_lt h.2.1), blk_below hb h.2.2 (blk_lt h.2.2)⟩
theorem WkS.chg (h : WkS q3 q4 q7 s gg kl ki lv a nE nK W) (hc : Chg G W W') (hq : ¬ G q3 ∧ ¬ G q4 ∧ ¬ G q7) : WkS q3 q4 q7 s gg kl ki lv a nE nK W' := ⟨hc.blk h.1 hq.1, hc.blk h.2.1 hq.2.1, hc.blk h.2.2 hq.2.2⟩
end
def WalkR (w w' : World) (G : Nat → Prop) (gg mm : Nat) (E : List Entry) (nK : Nat) (e : Ending) : Prop := e = .returned (.int .i64 0) ∧ ∃ ue uk K' L', GaX w G gg mm ue uk E K' L' w' ∧ K'.length ≤ nK
set_option maxRecDepth 100000 in
set_option maxHeartbeats 4000000 in
theorem walkLeaf_calls {s p g : Nat} {F : Nat → Prop} {C : List (List Int)} {gg mm : Nat}  (w : World) (G : Nat → Prop) (ue uk : Value) (E : List Entry) (KL : List Kid) (L : List (Int × Bool)) (k : Kid) (l : List Entry) (kl : Str) (lv : Int) (hs : SubT C 0 k l) (hT : TSt w s p g F C) (hG : GaT G gg mm ue uk E KL L w) (hFG : ∀ i, F i → ¬ G i) (hlv : lv < 0 ∨ (lv = 0 ∧ kl = k.last)) (hlE : E.length + l.length ≤ 100000) (hlK : KL.length + l.length ≤ 100000) :
    Calls Tryz.prog 150 #[.agg #[.pointer (some ⟨s, 0, none⟩), .func (.func 149) #[.pointer (some ⟨gg, 0, none⟩)] #[]], .agg #[.string kl, .int .u64 k.id], .int .i64 lv] w fun e w' => WalkR w w' G gg mm (E ++ l) (KL.length + l.length) e := by
  obtain ⟨hok, htell, hlast⟩ := hs
  obtain ⟨kL, ki⟩ := k
  dsimp only at htell hlast hlv ⊢
  have HKL : Hid (NodeP.last ⟨((0 : Nat) : Int), l, []⟩ = kL) := hlast.symm
  have HOK := Lib.hid hok
  obtain ⟨W1, hW1⟩ : ∃ W, w.alloc (.cells #[.pointer (some ⟨s, 0, none⟩), .func (.func 149) #[.pointer (some ⟨gg, 0, none⟩)] #[]] 227) = W := ⟨_, rfl⟩
  have hb1 : Below w.heap.size w W1 := by rw [← hW1]; exact bl_alloc (Below.refl _ w) _
  have hz1 : W1.heap[w.heap.size]? = some (.cells #[.pointer (some ⟨s, 0, none⟩), .func (.func 149) #[.pointer (some ⟨gg, 0, none⟩)] #[]] 227 (0, 0)) := by rw [← hW1]; exact blk_new w _
  obtain ⟨W2, hW2⟩ : ∃ W, W1.alloc (.cells #[.string kl, .int .u64 ki] 109) = W := ⟨_, rfl⟩
  have hb2 : Below W1.heap.size W1 W2 := by rw [← hW2]; exact bl_alloc (Below.refl _ W1) _
  have hz2 : W2.heap[W1.heap.size]? = some (.cells #[.string kl, .int .u64 ki] 109 (0, 0)) := by rw [← hW2]; exact blk_new W1 _
  have hz12 := blk_below hb2 hz1 (blk_lt hz1)
  obtain ⟨q3, hq3⟩ : ∃ q, w.heap.size = q := ⟨_, rfl⟩
  obtain ⟨q4, hq4⟩ : ∃ q, W1.heap.size = q := ⟨_, rfl⟩
  rw [hq3] at hz12
  rw [hq4] at hz2
  have c0 := blk_cell hz12 0
  have c1 := blk_cell hz12 1
  have cl := blk_lt hz12
  have d0 := blk_cell hz2 0
  have d1 := blk_cell hz2 1
  have dl := blk_lt hz2
  have Z12 := Lib.hid hz12
  have Z2 := Lib.hid hz2
  have B2 := Lib.hid (bl_then hb1 hb1.size hb2)
  have HT := Lib.hid hT
  have HG := Lib.hid hG
  have HFG := Lib.hid hFG
  have HLD := Lib.hid (treeLoad_calls (hT.below B2.out) ki ⟨((0 : Nat) : Int), l, []⟩ hok htell)
  have hq34 : q3 < q4 := by rw [← hq3, ← hq4]; have := blk_lt hz1; exact this
  have HW : Hid (w.heap.size ≤ q3 ∧ q3 < q4 ∧ q4 < W2.heap.size) := ⟨by rw [hq3]; exact Nat.le_refl _, hq34, dl⟩
  clear hb1 hz1 hb2 hz2 hz12 hT hG hFG hok htell hlast
  go_enter Tryz.func150, Tryz.ntmps150
  go_wp2_with fail
  refine HLD.out.mono ?_
  rintro e w3 ⟨a, rfl, hN3, hfrom, hb3⟩
  obtain ⟨W4, hW4⟩ : ∃ W, w3.alloc (.cells #[.int .i64 0, .slice a.A l.length a.ca, .slice a.B 0 a.cb] 98) = W := ⟨_, rfl⟩
  have hb4 : Below w3.heap.size w3 W4 := by rw [← hW4]; exact bl_alloc (Below.refl _ w3) _
  obtain ⟨q7, hq7⟩ : ∃ q, w3.heap.size = q := ⟨_, rfl⟩
  have hz4 : W4.heap[q7]? = some (.cells #[.int .i64 0, .slice a.A l.length a.ca, .slice a.B 0 a.cb] 98 (0, 0)) := by rw [← hW4, ← hq7]; exact blk_new w3 _
  have hb24 : Below W2.heap.size W2 W4 := bl_then hb3 hb3.size hb4
  have S4 : WkS q3 q4 q7 s gg kl ki 0 a l.length 0 W4 := ⟨blk_below hb24 Z12.out (blk_lt Z12.out), blk_below hb24 Z2.out (blk_lt Z2.out), hz4⟩
  have S4d : WkS q3 q4 q7 s gg kl ki 0 a l.length 0 W4.drew := S4.below (Below.refl W4.heap.size W4).drew
  have N4 : Hid (NdAt W4 a ⟨((0 : Nat) : Int), l, []⟩) := hN3.below hb4
  have N4d : Hid (NdAt W4.drew a ⟨((0 : Nat) : Int), l, []⟩) := (hN3.below hb4).below (Below.refl W4.heap.size W4).drew
  have B4 := Lib.hid (bl_then B2.out B2.out.size hb24)
  have HAG : Hid (∀ x, a.A = some x → ¬ G x.block) := fun x hx hg => by have h1 := hfrom.1 x hx; have h2 := HG.out.lt _ hg; have h3 := B2.out.size; omega
  have HBG : Hid (∀ x, a.B = some x → ¬ G x.block) := fun x hx hg => by have h1 := hfrom.2 x hx; have h2 := HG.out.lt _ hg; have h3 := B2.out.size; omega
  have hq27 : W2.heap.size ≤ q7 := by rw [← hq7]; exact hb3.size
  have HQG : Hid (¬ G q3 ∧ ¬ G q4 ∧ ¬ G q7) := ⟨fun hg => by have := HG.out.lt _ hg; have := HW.out; omega, fun hg => by have := HG.out.lt _ hg; have := HW.out; omega, fun hg => by have := HG.out.lt _ hg; have := HW.out; omega⟩
  have HNE : Hid (l ≠ []) := by show _ ≠ _; have := ok_ne HOK.out; simpa using this
  have hl100 := HOK.out.le
  dsimp only at hl100
  have hlE1 : E.length ≤ 1000000 := by omega
  have hlK1 : KL.length ≤ 1000000 := by omega
  obtain ⟨c0, c1, cl, d0, d1, dl, e0, e1, e2, el⟩ := S4.cells
  clear hN3 hfrom hb3 hb4 hz4 hb24 hW1 hW2 hq3 hq4 hq27 HLD
  have key : ∃ w5, Hid (WkS q3 q4 q7 s gg kl ki 0 a l.length 0 w5) ∧ Hid (Below W4.heap.size W4 w5) := ⟨W4, S4, Below.refl _ _⟩
  clear key
  rcases hlv with hlv | ⟨hlv, hkl⟩
  case' inl =>
    have hg0 : ¬ (0 : Int) ≤ lv := by omega
    have hd0 : decide ((0 : Int) ≤ lv) = false := decide_eq_false hg0
    go_upto_region 4 with fail
    refine wp_region_noPanic ?_
    refine wp_region_held_drew (S := WkS q3 q4 q7 s gg kl ki 0 a l.length 0) (by kernel_rfl) (S4d) (fun hHeld => ?_)
    refine wpAnyH_take (i := 0) (oi := ⟨some 22, _, _, _, _, _⟩) (v := ?_) rfl (by kernel_rfl) (by kernel_rfl) (by kernel_rfl) (fun _ _ _ h => h) (Or.inl ⟨by rfl, ?_⟩) (by assumption) ?_
    rotate_left
    · (intro w hSw; (try dsimp only at hSw); obtain ⟨kc0, kc1, klc, kd0, kd1, kld, ke0, ke1, ke2, kle⟩ := hSw.cells; (go_simp <;> with_reducible rfl))
    try simp only [Act.put, List.setIfInBounds_toArray, List.set_cons_zero, List.set_cons_succ]
    refine wpAnyH_take (i := 1) (oi := ⟨some 23, _, _, _, _, _⟩) (v := ?_) rfl (by kernel_rfl) (by kernel_rfl) (by kernel_rfl) (fun _ _ _ h => h) (Or.inl ⟨by rfl, ?_⟩) (by assumption) ?_
    rotate_left
    · (intro w hSw; (try dsimp only at hSw); obtain ⟨kc0, kc1, klc, kd0, kd1, kld, ke0, ke1, ke2, kle⟩ := hSw.cells; (go_simp <;> with_reducible rfl))
    try simp only [Act.put, List.setIfInBounds_toArray, List.set_cons_zero, List.set_cons_succ]
    refine wpAnyH_take (i := 2) (oi := ⟨some 24, _, _, _, _, _⟩) (v := ?_) rfl (by kernel_rfl) (by kernel_rfl) (by kernel_rfl) (fun _ _ _ h => h) (Or.inl ⟨by rfl, ?_⟩) (by assumption) ?_
    rotate_left
    · (intro w hSw; (try dsimp only at hSw); obtain ⟨kc0, kc1, klc, kd0, kd1, kld, ke0, ke1, ke2, kle⟩ := hSw.cells; (go_simp <;> with_reducible rfl))
    try simp only [Act.put, List.setIfInBounds_toArray, List.set_cons_zero, List.set_cons_succ]
    refine wpAnyH_take (i := 3) (oi := ⟨some 25, _, _, _, _, _⟩) rfl (by kernel_rfl) (by kernel_rfl) (by kernel_rfl) (fun _ _ _ h => h) (Or.inr ⟨by rfl, rfl⟩) (by assumption) ?_
    try simp only [Act.put, List.setIfInBounds_toArray, List.set_cons_zero, List.set_cons_succ]
    refine wpAnyH_take (i := 4) (oi := ⟨some 26, _, _, _, _, _⟩) rfl (by kernel_rfl) (by kernel_rfl) (by kernel_rfl) (fun _ _ _ h => h) (Or.inr ⟨by rfl, rfl⟩) (by assumption) ?_
    try simp only [Act.put, List.setIfInBounds_toArray, List.set_cons_zero, List.set_cons_succ]
    refine wpAnyH_take (i := 5) (oi := ⟨some 27, _, _, _, _, _⟩) rfl (by kernel_rfl) (by kernel_rfl) (by kernel_rfl) (fun _ _ _ h => h) (Or.inr ⟨by rfl, rfl⟩) (by assumption) ?_
    try simp only [Act.put, List.setIfInBounds_toArray, List.set_cons_zero, List.set_cons_succ]
    refine wpAnyH_take (i := 6) (oi := ⟨some 28, _, _, _, _, _⟩) rfl (by kernel_rfl) (by kernel_rfl) (by kernel_rfl) (fun _ _ _ h => h) (Or.inr ⟨by rfl, rfl⟩) (by assumption) ?_
    try simp only [Act.put, List.setIfInBounds_toArray, List.set_cons_zero, List.set_cons_succ]
    refine wpAnyH_take (i := 7) (oi := ⟨some 29, _, _, _, _, _⟩) rfl (by kernel_rfl) (by kernel_rfl) (by kernel_rfl) (fun _ _ _ h => h) (Or.inr ⟨by rfl, rfl⟩) (by assumption) ?_
    try simp only [Act.put, List.setIfInBounds_toArray, List.set_cons_zero, List.set_cons_succ]
    refine wpAnyH_take (i := 8) (oi := ⟨some 30, _, _, _, _, _⟩) rfl (by kernel_rfl) (by kernel_rfl) (by kernel_rfl) (fun _ _ _ h => h) (Or.inr ⟨by rfl, rfl⟩) (by assumption) ?_
    try simp only [Act.put, List.setIfInBounds_toArray, List.set_cons_zero, List.set_cons_succ]
    refine wpAnyH_take (i := 9) (oi := ⟨some 31, _, _, _, _, _⟩) rfl (by kernel_rfl) (by kernel_rfl) (by kernel_rfl) (fun _ _ _ h => h) (Or.inr ⟨by rfl, rfl⟩) (by assumption) ?_
    try simp only [Act.put, List.setIfInBounds_toArray, List.set_cons_zero, List.set_cons_succ]
    refine wpAnyH_take (i := 10) (oi := ⟨some 32, _, _, _, _, _⟩) rfl (by kernel_rfl) (by kernel_rfl) (by kernel_rfl) (fun _ _ _ h => h) (Or.inr ⟨by rfl, rfl⟩) (by assumption) ?_
    try simp only [Act.put, List.setIfInBounds_toArray, List.set_cons_zero, List.set_cons_succ]
    refine wpAnyH_take (i := 11) (oi := ⟨some 33, _, _, _, _, _⟩) rfl (by kernel_rfl) (by kernel_rfl) (by kernel_rfl) (fun _ _ _ h => h) (Or.inr ⟨by rfl, rfl⟩) (by assumption) ?_
    try simp only [Act.put, List.setIfInBounds_toArray, List.set_cons_zero, List.set_cons_succ]
    refine wpAnyH_take (i := 12) (oi := ⟨some 34, _, _, _, _, _⟩) rfl (by kernel_rfl) (by kernel_rfl) (by kernel_rfl) (fun _ _ _ h => h) (Or.inr ⟨by rfl, rfl⟩) (by assumption) ?_
    try simp only [Act.put, List.setIfInBounds_toArray, List.set_cons_zero, List.set_cons_succ]
    refine wpAnyH_take (i := 13) (oi := ⟨some 35, _, _, _, _, _⟩) rfl (by kernel_rfl) (by kernel_rfl) (by kernel_rfl) (fun _ _ _ h => h) (Or.inr ⟨by rfl, rfl⟩) (by assumption) ?_
    try simp only [Act.put, List.setIfInBounds_toArray, List.set_cons_zero, List.set_cons_succ]
    refine wpAnyH_take (i := 14) (oi := ⟨some 36, _, _, _, _, _⟩) (v := ?_) rfl (by kernel_rfl) (by kernel_rfl) (by kernel_rfl) (fun _ _ _ h => h) (Or.inl ⟨by rfl, ?_⟩) (by assumption) ?_
    rotate_left
    · (intro w hSw; (try dsimp only at hSw); obtain ⟨kc0, kc1, klc, kd0, kd1, kld, ke0, ke1, ke2, kle⟩ := hSw.cells; (go_simp <;> with_reducible rfl))
    try simp only [Act.put, List.setIfInBounds_toArray, List.set_cons_zero, List.set_cons_succ]
    refine wpAnyH_done (by kernel_rfl) ?_ _
    refine NoPanic.normal ?_
    obtain ⟨w5, hw5⟩ : ∃ w5, w5 = W4.drew := ⟨_, rfl⟩
    have S5 : WkS q3 q4 q7 s gg kl ki 0 a l.length 0 w5 := by rw [hw5]; exact S4d
    have B5 : Hid (Below W4.heap.size W4 w5) := by show Below _ _ _; rw [hw5]; exact (Below.refl W4.heap.size W4).drew
    rw [← hw5]
    clear hw5
  case' inr =>
    subst hkl
    have hg0 : (0 : Int) ≤ lv := by omega
    have hd0 : decide ((0 : Int) ≤ lv) = true := decide_eq_true hg0
    go_upto_region 4 with fail
    refine wp_region_noPanic ?_
    refine wp_region_held_drew (S := WkS q3 q4 q7 s gg kl ki 0 a l.length 0) (by kernel_rfl) (S4d) (fun hHeld => ?_)
    refine wpAnyH_take (i := 0) (oi := ⟨some 22, _, _, _, _, _⟩) (v := ?_) rfl (by kernel_rfl) (by kernel_rfl) (by kernel_rfl) (fun _ _ _ h => h) (Or.inl ⟨by rfl, ?_⟩) (by assumption) ?_
    rotate_left
    · (intro w hSw; (try dsimp only at hSw); obtain ⟨kc0, kc1, klc, kd0, kd1, kld, ke0, ke1, ke2, kle⟩ := hSw.cells; (go_simp <;> with_reducible rfl))
    try simp only [Act.put, List.setIfInBounds_toArray, List.set_cons_zero, List.set_cons_succ]
    refine wpAnyH_take (i := 1) (oi := ⟨some 23, _, _, _, _, _⟩) (v := ?_) rfl (by kernel_rfl) (by kernel_rfl) (by kernel_rfl) (fun _ _ _ h => h) (Or.inl ⟨by rfl, ?_⟩) (by assumption) ?_
    rotate_left
    · (intro w hSw; (try dsimp only at hSw); obtain ⟨kc0, kc1, klc, kd0, kd1, kld, ke0, ke1, ke2, kle⟩ := hSw.cells; (go_simp <;> with_reducible rfl))
    try simp only [Act.put, List.setIfInBounds_toArray, List.set_cons_zero, List.set_cons_succ]
    refine wpAnyH_take (i := 2) (oi := ⟨some 24, _, _, _, _, _⟩) (v := ?_) rfl (by kernel_rfl) (by kernel_rfl) (by kernel_rfl) (fun _ _ _ h => h) (Or.inl ⟨by rfl, ?_⟩) (by assumption) ?_
    rotate_left
    · (intro w hSw; (try dsimp only at hSw); obtain ⟨kc0, kc1, klc, kd0, kd1, kld, ke0, ke1, ke2, kle⟩ := hSw.cells; (go_simp <;> with_reducible rfl))
    try simp only [Act.put, List.setIfInBounds_toArray, List.set_cons_zero, List.set_cons_succ]
    refine wpAnyH_take (i := 3) (oi := ⟨some 25, _, _, _, _, _⟩) (v := ?_) rfl (by kernel_rfl) (by kernel_rfl) (by kernel_rfl) (fun _ _ _ h => h) (Or.inl ⟨by rfl, ?_⟩) (by assumption) ?_
    rotate_left
    · (intro w hSw; (try dsimp only at hSw); obtain ⟨kc0, kc1, klc, kd0, kd1, kld, ke0, ke1, ke2, kle⟩ := hSw.cells; (go_simp <;> with_reducible rfl))
    try simp only [Act.put, List.setIfInBounds_toArray, List.set_cons_zero, List.set_cons_succ]
    refine wpAnyH_take (i := 4) (oi := ⟨some 26, _, _, _, _, _⟩) (v := ?_) rfl (by kernel_rfl) (by kernel_rfl) (by kernel_rfl) (fun _ _ _ h => h) (Or.inl ⟨by rfl, ?_⟩) (by assumption) ?_
    rotate_left
    · (intro w hSw; (try dsimp only at hSw); obtain ⟨kc0, kc1, klc, kd0, kd1, kld, ke0, ke1, ke2, kle⟩ := hSw.cells; (go_simp <;> with_reducible rfl))
    try simp only [Act.put, List.setIfInBounds_toArray, List.set_cons_zero, List.set_cons_succ]
    refine wpAnyH_take (i := 5) (oi := ⟨some 27, _, _, _, _, _⟩) (v := ?_) rfl (by kernel_rfl) (by kernel_rfl) (by kernel_rfl) (fun _ _ _ h => h) (Or.inl ⟨by rfl, ?_⟩) (by assumption) ?_
    rotate_left
    · (intro w hSw; (try dsimp only at hSw); obtain ⟨kc0, kc1, klc, kd0, kd1, kld, ke0, ke1, ke2, kle⟩ := hSw.cells; (go_simp <;> with_reducible rfl))
    try simp only [Act.put, List.setIfInBounds_toArray, List.set_cons_zero, List.set_cons_succ]
    refine wpAnyH_take (i := 6) (oi := ⟨some 28, _, _, _, _, _⟩) (v := ?_) rfl (by kernel_rfl) (by kernel_rfl) (by kernel_rfl) (fun _ _ _ h => h) (Or.inl ⟨by rfl, ?_⟩) (by assumption) ?_
    rotate_left
    · (intro w hSw; (try dsimp only at hSw); obtain ⟨kc0, kc1, klc, kd0, kd1, kld, ke0, ke1, ke2, kle⟩ := hSw.cells; (go_simp <;> with_reducible rfl))
    try simp only [Act.put, List.setIfInBounds_toArray, List.set_cons_zero, List.set_cons_succ]
    refine wpAnyH_take (i := 7) (oi := ⟨some 29, _, _, _, _, _⟩) (v := ?_) rfl (by kernel_rfl) (by kernel_rfl) (by kernel_rfl) (fun _ _ _ h => h) (Or.inl ⟨by rfl, ?_⟩) (by assumption) ?_
    rotate_left
    · (intro w hSw; (try dsimp only at hSw); obtain ⟨kc0, kc1, klc, kd0, kd1, kld, ke0, ke1, ke2, kle⟩ := hSw.cells; (go_simp <;> with_reducible rfl))
    try simp only [Act.put, List.setIfInBounds_toArray, List.set_cons_zero, List.set_cons_succ]
    refine wpAnyH_take (i := 8) (oi := ⟨some 30, _, _, _, _, _⟩) (v := ?_) rfl (by kernel_rfl) (by kernel_rfl) (by kernel_rfl) (fun _ _ _ h => h) (Or.inl ⟨by rfl, ?_⟩) (by assumption) ?_
    rotate_left
    · (intro w hSw; (try dsimp only at hSw); obtain ⟨kc0, kc1, klc, kd0, kd1, kld, ke0, ke1, ke2, kle⟩ := hSw.cells; (go_simp <;> with_reducible rfl))
    try simp only [Act.put, List.setIfInBounds_toArray, List.set_cons_zero, List.set_cons_succ]
    refine wpAnyH_take (i := 10) (oi := ⟨some 32, _, _, _, _, _⟩) (v := ?_) rfl (by kernel_rfl) (by kernel_rfl) (by kernel_rfl) (fun _ _ _ h => h) (Or.inl ⟨by rfl, ?_⟩) (by assumption) ?_
    rotate_left
    · (intro w hSw; (try dsimp only at hSw); obtain ⟨kc0, kc1, klc, kd0, kd1, kld, ke0, ke1, ke2, kle⟩ := hSw.cells; (go_simp <;> with_reducible rfl))
    try simp only [Act.put, List.setIfInBounds_toArray, List.set_cons_zero, List.set_cons_succ]
    refine wpAnyH_take (i := 11) (oi := ⟨some 33, _, _, _, _, _⟩) (v := ?_) rfl (by kernel_rfl) (by kernel_rfl) (by kernel_rfl) (fun _ _ _ h => h) (Or.inl ⟨by rfl, ?_⟩) (by assumption) ?_
    rotate_left
    · (intro w hSw; (try dsimp only at hSw); obtain ⟨kc0, kc1, klc, kd0, kd1, kld, ke0, ke1, ke2, kle⟩ := hSw.cells; (go_simp <;> with_reducible rfl))
    try simp only [Act.put, List.setIfInBounds_toArray, List.set_cons_zero, List.set_cons_succ]
    refine wpAnyH_ready (rs := [9]) (by kernel_rfl) (by simp) ?_
    refine AllReadyH.cons rfl (fun K hK => ?_) AllReadyH.nil
    go_simp
    go_at_call 57
    refine (nodeLast_calls W4.drew a ⟨((0 : Nat) : Int), l, []⟩ N4d.out).mono ?_
    rintro e w5 ⟨rfl, hb5⟩
    rw [HKL.out]
    have S5 := S4d.below hb5
    have B5 := Lib.hid (bl_then (Below.refl W4.heap.size W4).drew (Nat.le_refl _) hb5)
    clear hb5
    refine hK.out _ _ (by assumption) (fun _ => ?_)
    clear hK K
    try simp only [Act.put, List.setIfInBounds_toArray, List.set_cons_zero, List.set_cons_succ]
    refine wpAnyH_take (i := 12) (oi := ⟨some 34, _, _, _, _, _⟩) (v := ?_) rfl (by kernel_rfl) (by kernel_rfl) (by kernel_rfl) (fun _ _ _ h => h) (Or.inl ⟨by rfl, ?_⟩) (by assumption) ?_
    rotate_left
    · (intro w hSw; (try dsimp only at hSw); obtain ⟨kc0, kc1, klc, kd0, kd1, kld, ke0, ke1, ke2, kle⟩ := hSw.cells; (go_simp <;> with_reducible rfl))
    try simp only [Act.put, List.setIfInBounds_toArray, List.set_cons_zero, List.set_cons_succ]
    refine wpAnyH_take (i := 13) (oi := ⟨some 35, _, _, _, _, _⟩) (v := ?_) rfl (by kernel_rfl) (by kernel_rfl) (by kernel_rfl) (fun _ _ _ h => h) (Or.inl ⟨by rfl, ?_⟩) (by assumption) ?_
    rotate_left
    · (intro w hSw; (try dsimp only at hSw); obtain ⟨kc0, kc1, klc, kd0, kd1, kld, ke0, ke1, ke2, kle⟩ := hSw.cells; (go_simp <;> with_reducible rfl))
    try simp only [Act.put, List.setIfInBounds_toArray, List.set_cons_zero, List.set_cons_succ]
    refine wpAnyH_take (i := 14) (oi := ⟨some 36, _, _, _, _, _⟩) (v := ?_) rfl (by kernel_rfl) (by kernel_rfl) (by kernel_rfl) (fun _ _ _ h => h) (Or.inl ⟨by rfl, ?_⟩) (by assumption) ?_
    rotate_left
    · (intro w hSw; (try dsimp only at hSw); obtain ⟨kc0, kc1, klc, kd0, kd1, kld, ke0, ke1, ke2, kle⟩ := hSw.cells; (go_simp <;> with_reducible rfl))
    try simp only [Act.put, List.setIfInBounds_toArray, List.set_cons_zero, List.set_cons_succ]
    refine wpAnyH_done (by kernel_rfl) ?_ _
    refine NoPanic.normal ?_
  all_goals
    have S5d : WkS q3 q4 q7 s gg kl ki 0 a l.length 0 w5.drew := S5.below (Below.refl w5.heap.size w5).drew
    have B5d : Hid (Below W4.heap.size W4 w5.drew) := bl_then B5.out B5.out.size (Below.refl w5.heap.size w5).drew
    have N5d := Lib.hid (N4.out.below B5d.out)
    have T5d := Lib.hid (HG.out.chg (Below.chg (bl_then B4.out B4.out.size B5d.out) fun _ => False) (fun _ _ h => h))
    obtain ⟨f0, f1, fl, i0, i1, il, j0, j1, j2, jl⟩ := S5.cells
    clear c0 c1 cl d0 d1 dl e0 e1 e2 el S4 S4d
    go_upto_region 6 with fail
    refine wp_region_noPanic ?_
    refine wp_region_held_drew (S := WkS q3 q4 q7 s gg kl ki 0 a l.length 0) (by kernel_rfl) (S5d) (fun hHeld => ?_)
    refine wpAnyH_take (i := 0) (oi := ⟨some 37, _, _, _, _, _⟩) (v := ?_) rfl (by kernel_rfl) (by kernel_rfl) (by kernel_rfl) (fun _ _ _ h => h) (Or.inl ⟨by rfl, ?_⟩) (by assumption) ?_
    rotate_left
    · (intro w hSw; (try dsimp only at hSw); obtain ⟨kc0, kc1, klc, kd0, kd1, kld, ke0, ke1, ke2, kle⟩ := hSw.cells; (go_simp <;> with_reducible rfl))
    try simp only [Act.put, List.setIfInBounds_toArray, List.set_cons_zero, List.set_cons_succ]
    refine wpAnyH_take (i := 1) (oi := ⟨some 38, _, _, _, _, _⟩) (v := ?_) rfl (by kernel_rfl) (by kernel_rfl) (by kernel_rfl) (fun _ _ _ h => h) (Or.inl ⟨by rfl, ?_⟩) (by assumption) ?_
    rotate_left
    · (intro w hSw; (try dsimp only at hSw); obtain ⟨kc0, kc1, klc, kd0, kd1, kld, ke0, ke1, ke2, kle⟩ := hSw.cells; (go_simp <;> with_reducible rfl))
    try simp only [Act.put, List.setIfInBounds_toArray, List.set_cons_zero, List.set_cons_succ]
    refine wpAnyH_take (i := 2) (oi := ⟨some 39, _, _, _, _, _⟩) (v := ?_) rfl (by kernel_rfl) (by kernel_rfl) (by kernel_rfl) (fun _ _ _ h => h) (Or.inl ⟨by rfl, ?_⟩) (by assumption) ?_
    rotate_left
    · (intro w hSw; (try dsimp only at hSw); obtain ⟨kc0, kc1, klc, kd0, kd1, kld, ke0, ke1, ke2, kle⟩ := hSw.cells; (go_simp <;> with_reducible rfl))
    try simp only [Act.put, List.setIfInBounds_toArray, List.set_cons_zero, List.set_cons_succ]
    refine wpAnyH_take (i := 4) (oi := ⟨some 41, _, _, _, _, _⟩) (v := ?_) rfl (by kernel_rfl) (by kernel_rfl) (by kernel_rfl) (fun _ _ _ h => h) (Or.inl ⟨by rfl, ?_⟩) (by assumption) ?_
    rotate_left
    · (intro w hSw; (try dsimp only at hSw); obtain ⟨kc0, kc1, klc, kd0, kd1, kld, ke0, ke1, ke2, kle⟩ := hSw.cells; (go_simp <;> with_reducible rfl))
    try simp only [Act.put, List.setIfInBounds_toArray, List.set_cons_zero, List.set_cons_succ]
    refine wpAnyH_take (i := 5) (oi := ⟨some 42, _, _, _, _, _⟩) (v := ?_) rfl (by kernel_rfl) (by kernel_rfl) (by kernel_rfl) (fun _ _ _ h => h) (Or.inl ⟨by rfl, ?_⟩) (by assumption) ?_
    rotate_left
    · (intro w hSw; (try dsimp only at hSw); obtain ⟨kc0, kc1, klc, kd0, kd1, kld, ke0, ke1, ke2, kle⟩ := hSw.cells; (go_simp <;> with_reducible rfl))
    try simp only [Act.put, List.setIfInBounds_toArray, List.set_cons_zero, List.set_cons_succ]
    refine wpAnyH_take (i := 7) (oi := ⟨some 44, _, _, _, _, _⟩) (v := ?_) rfl (by kernel_rfl) (by kernel_rfl) (by kernel_rfl) (fun _ _ _ h => h) (Or.inl ⟨by rfl, ?_⟩) (by assumption) ?_
    rotate_left
    · (intro w hSw; (try dsimp only at hSw); obtain ⟨kc0, kc1, klc, kd0, kd1, kld, ke0, ke1, ke2, kle⟩ := hSw.cells; (go_simp <;> with_reducible rfl))
    try simp only [Act.put, List.setIfInBounds_toArray, List.set_cons_zero, List.set_cons_succ]
    refine wpAnyH_ready (rs := [3]) (by kernel_rfl) (by simp) ?_
    refine AllReadyH.cons rfl (fun K hK => ?_) AllReadyH.nil
    go_simp
    go_at_call 57
    refine (nodeLast_calls w5.drew a ⟨((0 : Nat) : Int), l, []⟩ N5d.out).mono ?_
    rintro e w6 ⟨rfl, hb6⟩
    have S6 := S5d.below hb6
    have T6 := Lib.hid (T5d.out.chg (Below.chg hb6 fun _ => False) (fun _ _ h => h))
    have N6 := Lib.hid (N5d.out.below hb6)
    have B6 := Lib.hid (bl_then B5d.out B5d.out.size hb6)
    clear hb6
    refine hK.out _ _ (by assumption) (fun _ => ?_)
    clear hK K
    try simp only [Act.put, List.setIfInBounds_toArray, List.set_cons_zero, List.set_cons_succ]
    refine wpAnyH_take (i := 6) (oi := ⟨some 43, _, _, _, _, _⟩) (v := ?_) rfl (by kernel_rfl) (by kernel_rfl) (by kernel_rfl) (fun _ _ _ h => h) (Or.inl ⟨by rfl, ?_⟩) (by assumption) ?_
    rotate_left
    · (intro w hSw; (try dsimp only at hSw); obtain ⟨kc0, kc1, klc, kd0, kd1, kld, ke0, ke1, ke2, kle⟩ := hSw.cells; (go_simp <;> with_reducible rfl))
    try simp only [Act.put, List.setIfInBounds_toArray, List.set_cons_zero, List.set_cons_succ]
    refine wpAnyH_ready (rs := [8]) (by kernel_rfl) (by simp) ?_
    refine AllReadyH.cons rfl (fun K hK => ?_) AllReadyH.nil
    go_simp
    go_at_call 149
    refine (allLeaf_calls w6 G gg mm ue uk E KL L T6.out _ ki _ a l rfl HNE.out HAG.out hl100 hlE1 hlK1 N6.out).mono ?_
    rintro e w8 ⟨rfl, ue8, uk8, hx8⟩
    have X8 := Lib.hid hx8
    have S8 := S6.chg hx8.chgd HQG.out
    clear hx8
    refine hK.out _ _ (by assumption) (fun _ => ?_)
    clear hK K
    try simp only [Act.put, List.setIfInBounds_toArray, List.set_cons_zero, List.set_cons_succ]
    refine wpAnyH_done (by kernel_rfl) ?_ _
    refine NoPanic.normal ?_
    obtain ⟨c0, c1, cl, d0, d1, dl, e0, e1, e2, el⟩ := S8.cells
    clear f0 f1 fl i0 i1 il j0 j1 j2 jl S5 S5d S6
    go_wp2
    go_loopg [49] 0 (fun m i wr => i = .int .i64 0 ∧ wr = w8)
    case atStart => exact ⟨rfl, rfl⟩
    case round =>
      obtain ⟨rfl, rfl⟩ := hrel
      go_wp2
      go_ret
      have hl1 : 1 ≤ l.length := List.length_pos_iff.2 HNE.out
      exact ⟨rfl, ue8, uk8, _, _, X8.out.since (bl_then B4.out B4.out.size B6.out), by simp; omega⟩
end Go.Proofs.YtikgplhcadomcaaGreat

namespace Go.Proofs.YtikgplhcadomcaaGreat
open Go.RowKit
set_option linter.unusedVariables false
set_option linter.unusedSimpArgs false
set_option maxRecDepth 100000 in
set_option maxHeartbeats 4000000 in
theorem walkStep_calls {s p g : Nat} {F : Nat → Prop} {C : List (List Int)} {gg mm : Nat} (n : Nat) (ih : ∀ (w : World) (G : Nat → Prop) (ue uk : Value) (E : List Entry) (KL : List Kid) (L : List (Int × Bool)) (k : Kid) (l : List Entry) (kl : Str) (lv : Int), SubT C n k l → TSt w s p g F C → GaT G gg mm ue uk E KL L w → (∀ i, F i → ¬ G i) → (lv < 0 ∨ (lv = (n : Int) ∧ kl = k.last)) → E.length + l.length ≤ 100000 → KL.length + l.length ≤ 100000 →
      Calls Tryz.prog 150 #[.agg #[.pointer (some ⟨s, 0, none⟩), .func (.func 149) #[.pointer (some ⟨gg, 0, none⟩)] #[]], .agg #[.string kl, .int .u64 k.id], .int .i64 lv] w fun e w' => WalkR w w' G gg mm (E ++ l) (KL.length + l.length) e) (w : World) (G : Nat → Prop) (ue uk : Value) (E : List Entry) (KL : List Kid) (L : List (Int × Bool)) (k : Kid) (l : List Entry) (kl : Str) (lv : Int) (hs : SubT C (n + 1) k l) (hT : TSt w s p g F C) (hG : GaT G gg mm ue uk E KL L w) (hFG : ∀ i, F i → ¬ G i) (hlv : lv < 0 ∨ (lv = ((n + 1 : Nat) : Int) ∧ kl = k.last)) (hlE : E.length + l.length ≤ 100000) (hlK : KL.length + l.length ≤ 100000) :
    Calls Tryz.prog 150 #[.agg #[.pointer (some ⟨s, 0, none⟩), .func (.func 149) #[.pointer (some ⟨gg, 0, none⟩)] #[]], .agg #[.string kl, .int .u64 k.id], .int .i64 lv] w fun e w' => WalkR w w' G gg mm (E ++ l) (KL.length + l.length) e := by
  obtain ⟨ks, ps, hok, htell, hlast, hpl, hpf, hsub⟩ := hs
  have HPF := Lib.hid hpf
  have HSUB := Lib.hid hsub
  have HPL := Lib.hid hpl
  have HIH := Lib.hid ih
  clear hpf hsub hpl ih
  obtain ⟨kL, ki⟩ := k
  dsimp only at htell hlast hlv ⊢
  have HKL : Hid (NodeP.last ⟨((n + 1 : Nat) : Int), [], ks⟩ = kL) := hlast.symm
  have HOK := Lib.hid hok
  obtain ⟨W1, hW1⟩ : ∃ W, w.alloc (.cells #[.pointer (some ⟨s, 0, none⟩), .func (.func 149) #[.pointer (some ⟨gg, 0, none⟩)] #[]] 227) = W := ⟨_, rfl⟩
  have hb1 : Below w.heap.size w W1 := by rw [← hW1]; exact bl_alloc (Below.refl _ w) _
  have hz1 : W1.heap[w.heap.size]? = some (.cells #[.pointer (some ⟨s, 0, none⟩), .func (.func 149) #[.pointer (some ⟨gg, 0, none⟩)] #[]] 227 (0, 0)) := by rw [← hW1]; exact blk_new w _
  obtain ⟨W2, hW2⟩ : ∃ W, W1.alloc (.cells #[.string kl, .int .u64 ki] 109) = W := ⟨_, rfl⟩
  have hb2 : Below W1.heap.size W1 W2 := by rw [← hW2]; exact bl_alloc (Below.refl _ W1) _
  have hz2 : W2.heap[W1.heap.size]? = some (.cells #[.string kl, .int .u64 ki] 109 (0, 0)) := by rw [← hW2]; exact blk_new W1 _
  have hz12 := blk_below hb2 hz1 (blk_lt hz1)
  obtain ⟨q3, hq3⟩ : ∃ q, w.heap.size = q := ⟨_, rfl⟩
  obtain ⟨q4, hq4⟩ : ∃ q, W1.heap.size = q := ⟨_, rfl⟩
  rw [hq3] at hz12
  rw [hq4] at hz2
  have c0 := blk_cell hz12 0
  have c1 := blk_cell hz12 1
  have cl := blk_lt hz12
  have d0 := blk_cell hz2 0
  have d1 := blk_cell hz2 1
  have dl := blk_lt hz2
  have Z12 := Lib.hid hz12
  have Z2 := Lib.hid hz2
  have B2 := Lib.hid (bl_then hb1 hb1.size hb2)
  have HT := Lib.hid hT
  have HG := Lib.hid hG
  have HFG := Lib.hid hFG
  have HLD := Lib.hid (treeLoad_calls (hT.below B2.out) ki ⟨((n + 1 : Nat) : Int), [], ks⟩ hok htell)
  have hq34 : q3 < q4 := by rw [← hq3, ← hq4]; have := blk_lt hz1; exact this
  have HW : Hid (w.heap.size ≤ q3 ∧ q3 < q4 ∧ q4 < W2.heap.size) := ⟨by rw [hq3]; exact Nat.le_refl _, hq34, dl⟩
  clear hb1 hz1 hb2 hz2 hz12 hT hG hFG hok htell hlast
  go_enter Tryz.func150, Tryz.ntmps150
  go_wp2_with fail
  refine HLD.out.mono ?_
  rintro e w3 ⟨a, rfl, hN3, hfrom, hb3⟩
  obtain ⟨W4, hW4⟩ : ∃ W, w3.alloc (.cells #[.int .i64 ((n : Int) + 1), .slice a.A 0 a.ca, .slice a.B ks.length a.cb] 98) = W := ⟨_, rfl⟩
  have hb4 : Below w3.heap.size w3 W4 := by rw [← hW4]; exact bl_alloc (Below.refl _ w3) _
  obtain ⟨q7, hq7⟩ : ∃ q, w3.heap.size = q := ⟨_, rfl⟩
  have hz4 : W4.heap[q7]? = some (.cells #[.int .i64 ((n : Int) + 1), .slice a.A 0 a.ca, .slice a.B ks.length a.cb] 98 (0, 0)) := by rw [← hW4, ← hq7]; exact blk_new w3 _
  have hb24 : Below W2.heap.size W2 W4 := bl_then hb3 hb3.size hb4
  have S4 : WkS q3 q4 q7 s gg kl ki ((n : Int) + 1) a 0 ks.length W4 := ⟨blk_below hb24 Z12.out (blk_lt Z12.out), blk_below hb24 Z2.out (blk_lt Z2.out), hz4⟩
  have S4d : WkS q3 q4 q7 s gg kl ki ((n : Int) + 1) a 0 ks.length W4.drew := S4.below (Below.refl W4.heap.size W4).drew
  have N4 : Hid (NdAt W4 a ⟨((n + 1 : Nat) : Int), [], ks⟩) := hN3.below hb4
  have N4d : Hid (NdAt W4.drew a ⟨((n + 1 : Nat) : Int), [], ks⟩) := (hN3.below hb4).below (Below.refl W4.heap.size W4).drew
  have B4 := Lib.hid (bl_then B2.out B2.out.size hb24)
  have HAG : Hid (∀ x, a.A = some x → ¬ G x.block) := fun x hx hg => by have h1 := hfrom.1 x hx; have h2 := HG.out.lt _ hg; have h3 := B2.out.size; omega
  have HBG : Hid (∀ x, a.B = some x → ¬ G x.block) := fun x hx hg => by have h1 := hfrom.2 x hx; have h2 := HG.out.lt _ hg; have h3 := B2.out.size; omega
  have hq27 : W2.heap.size ≤ q7 := by rw [← hq7]; exact hb3.size
  have HQG : Hid (¬ G q3 ∧ ¬ G q4 ∧ ¬ G q7) := ⟨fun hg => by have := HG.out.lt _ hg; have := HW.out; omega, fun hg => by have := HG.out.lt _ hg; have := HW.out; omega, fun hg => by have := HG.out.lt _ hg; have := HW.out; omega⟩
  have hn1 : (1 : Int) ≤ ((n + 1 : Nat) : Int) := by omega
  have hk100 := HOK.out.lk
  have hn20 : n ≤ 20 := by have h1 := (right_zero HOK.out.right).2.2.1; dsimp only at h1; omega
  dsimp only at hk100
  obtain ⟨c0, c1, cl, d0, d1, dl, e0, e1, e2, el⟩ := S4.cells
  clear hN3 hfrom hb3 hb4 hz4 hb24 hW1 hW2 hq3 hq4 hq27 HLD
  have key : ∃ w5, Hid (WkS q3 q4 q7 s gg kl ki ((n : Int) + 1) a 0 ks.length w5) ∧ Hid (Below W4.heap.size W4 w5) := ⟨W4, S4, Below.refl _ _⟩
  clear key
  rcases hlv with hlv | ⟨hlv, hkl⟩
  case' inl =>
    have hg0 : ¬ (0 : Int) ≤ lv := by omega
    have hd0 : decide ((0 : Int) ≤ lv) = false := decide_eq_false hg0
    go_upto_region 4 with fail
    refine wp_region_noPanic ?_
    refine wp_region_held_drew (S := WkS q3 q4 q7 s gg kl ki ((n : Int) + 1) a 0 ks.length) (by kernel_rfl) (S4d) (fun hHeld => ?_)
    refine wpAnyH_take (i := 0) (oi := ⟨some 22, _, _, _, _, _⟩) (v := ?_) rfl (by kernel_rfl) (by kernel_rfl) (by kernel_rfl) (fun _ _ _ h => h) (Or.inl ⟨by rfl, ?_⟩) (by assumption) ?_
    rotate_left
    · (intro w hSw; (try dsimp only at hSw); obtain ⟨kc0, kc1, klc, kd0, kd1, kld, ke0, ke1, ke2, kle⟩ := hSw.cells; (go_simp <;> with_reducible rfl))
    try simp only [Act.put, List.setIfInBounds_toArray, List.set_cons_zero, List.set_cons_succ]
    refine wpAnyH_take (i := 1) (oi := ⟨some 23, _, _, _, _, _⟩) (v := ?_) rfl (by kernel_rfl) (by kernel_rfl) (by kernel_rfl) (fun _ _ _ h => h) (Or.inl ⟨by rfl, ?_⟩) (by assumption) ?_
    rotate_left
    · (intro w hSw; (try dsimp only at hSw); obtain ⟨kc0, kc1, klc, kd0, kd1, kld, ke0, ke1, ke2, kle⟩ := hSw.cells; (go_simp <;> with_reducible rfl))
    try simp only [Act.put, List.setIfInBounds_toArray, List.set_cons_zero, List.set_cons_succ]
    refine wpAnyH_take (i := 2) (oi := ⟨some 24, _, _, _, _, _⟩) (v := ?_) rfl (by kernel_rfl) (by kernel_rfl) (by kernel_rfl) (fun _ _ _ h => h) (Or.inl ⟨by rfl, ?_⟩) (by assumption) ?_
    rotate_left
    · (intro w hSw; (try dsimp only at hSw); obtain ⟨kc0, kc1, klc, kd0, kd1, kld, ke0, ke1, ke2, kle⟩ := hSw.cells; (go_simp <;> with_reducible rfl))
    try simp only [Act.put, List.setIfInBounds_toArray, List.set_cons_zero, List.set_cons_succ]
    refine wpAnyH_take (i := 3) (oi := ⟨some 25, _, _, _, _, _⟩) rfl (by kernel_rfl) (by kernel_rfl) (by kernel_rfl) (fun _ _ _ h => h) (Or.inr ⟨by rfl, rfl⟩) (by assumption) ?_
    try simp only [Act.put, List.setIfInBounds_toArray, List.set_cons_zero, List.set_cons_succ]
    refine wpAnyH_take (i := 4) (oi := ⟨some 26, _, _, _, _, _⟩) rfl (by kernel_rfl) (by kernel_rfl) (by kernel_rfl) (fun _ _ _ h => h) (Or.inr ⟨by rfl, rfl⟩) (by assumption) ?_
    try simp only [Act.put, List.setIfInBounds_toArray, List.set_cons_zero, List.set_cons_succ]
    refine wpAnyH_take (i := 5) (oi := ⟨some 27, _, _, _, _, _⟩) rfl (by kernel_rfl) (by kernel_rfl) (by kernel_rfl) (fun _ _ _ h => h) (Or.inr ⟨by rfl, rfl⟩) (by assumption) ?_
    try simp only [Act.put, List.setIfInBounds_toArray, List.set_cons_zero, List.set_cons_succ]
    refine wpAnyH_take (i := 6) (oi := ⟨some 28, _, _, _, _, _⟩) rfl (by kernel_rfl) (by kernel_rfl) (by kernel_rfl) (fun _ _ _ h => h) (Or.inr ⟨by rfl, rfl⟩) (by assumption) ?_
    try simp only [Act.put, List.setIfInBounds_toArray, List.set_cons_zero, List.set_cons_succ]
    refine wpAnyH_take (i := 7) (oi := ⟨some 29, _, _, _, _, _⟩) rfl (by kernel_rfl) (by kernel_rfl) (by kernel_rfl) (fun _ _ _ h => h) (Or.inr ⟨by rfl, rfl⟩) (by assumption) ?_
    try simp only [Act.put, List.setIfInBounds_toArray, List.set_cons_zero, List.set_cons_succ]
    refine wpAnyH_take (i := 8) (oi := ⟨some 30, _, _, _, _, _⟩) rfl (by kernel_rfl) (by kernel_rfl) (by kernel_rfl) (fun _ _ _ h => h) (Or.inr ⟨by rfl, rfl⟩) (by assumption) ?_
    try simp only [Act.put, List.setIfInBounds_toArray, List.set_cons_zero, List.set_cons_succ]
    refine wpAnyH_take (i := 9) (oi := ⟨some 31, _, _, _, _, _⟩) rfl (by kernel_rfl) (by kernel_rfl) (by kernel_rfl) (fun _ _ _ h => h) (Or.inr ⟨by rfl, rfl⟩) (by assumption) ?_
    try simp only [Act.put, List.setIfInBounds_toArray, List.set_cons_zero, List.set_cons_succ]
    refine wpAnyH_take (i := 10) (oi := ⟨some 32, _, _, _, _, _⟩) rfl (by kernel_rfl) (by kernel_rfl) (by kernel_rfl) (fun _ _ _ h => h) (Or.inr ⟨by rfl, rfl⟩) (by assumption) ?_
    try simp only [Act.put, List.setIfInBounds_toArray, List.set_cons_zero, List.set_cons_succ]
    refine wpAnyH_take (i := 11) (oi := ⟨some 33, _, _, _, _, _⟩) rfl (by kernel_rfl) (by kernel_rfl) (by kernel_rfl) (fun _ _ _ h => h) (Or.inr ⟨by rfl, rfl⟩) (by assumption) ?_
    try simp only [Act.put, List.setIfInBounds_toArray, List.set_cons_zero, List.set_cons_succ]
    refine wpAnyH_take (i := 12) (oi := ⟨some 34, _, _, _, _, _⟩) rfl (by kernel_rfl) (by kernel_rfl) (by kernel_rfl) (fun _ _ _ h => h) (Or.inr ⟨by rfl, rfl⟩) (by assumption) ?_
    try simp only [Act.put, List.setIfInBounds_toArray, List.set_cons_zero, List.set_cons_succ]
    refine wpAnyH_take (i := 13) (oi := ⟨some 35, _, _, _, _, _⟩) rfl (by kernel_rfl) (by kernel_rfl) (by kernel_rfl) (fun _ _ _ h => h) (Or.inr ⟨by rfl, rfl⟩) (by assumption) ?_
    try simp only [Act.put, List.setIfInBounds_toArray, List.set_cons_zero, List.set_cons_succ]
    refine wpAnyH_take (i := 14) (oi := ⟨some 36, _, _, _, _, _⟩) (v := ?_) rfl (by kernel_rfl) (by kernel_rfl) (by kernel_rfl) (fun _ _ _ h => h) (Or.inl ⟨by rfl, ?_⟩) (by assumption) ?_
    rotate_left
    · (intro w hSw; (try dsimp only at hSw); obtain ⟨kc0, kc1, klc, kd0, kd1, kld, ke0, ke1, ke2, kle⟩ := hSw.cells; (go_simp <;> with_reducible rfl))
    try simp only [Act.put, List.setIfInBounds_toArray, List.set_cons_zero, List.set_cons_succ]
    refine wpAnyH_done (by kernel_rfl) ?_ _
    refine NoPanic.normal ?_
    obtain ⟨w5, hw5⟩ : ∃ w5, w5 = W4.drew := ⟨_, rfl⟩
    have S5 : WkS q3 q4 q7 s gg kl ki ((n : Int) + 1) a 0 ks.length w5 := by rw [hw5]; exact S4d
    have B5 : Hid (Below W4.heap.size W4 w5) := by show Below _ _ _; rw [hw5]; exact (Below.refl W4.heap.size W4).drew
    rw [← hw5]
    clear hw5
  case' inr =>
    subst hkl
    have hg0 : (0 : Int) ≤ lv := by omega
    have hd0 : decide ((0 : Int) ≤ lv) = true := decide_eq_true hg0
    go_upto_region 4 with fail
    refine wp_region_noPanic ?_
    refine wp_region_held_drew (S := WkS q3 q4 q7 s gg kl ki ((n : Int) + 1) a 0 ks.length) (by kernel_rfl) (S4d) (fun hHeld => ?_)
    refine wpAnyH_take (i := 0) (oi := ⟨some 22, _, _, _, _, _⟩) (v := ?_) rfl (by kernel_rfl) (by kernel_rfl) (by kernel_rfl) (fun _ _ _ h => h) (Or.inl ⟨by rfl, ?_⟩) (by assumption) ?_
    rotate_left
    · (intro w hSw; (try dsimp only at hSw); obtain ⟨kc0, kc1, klc, kd0, kd1, kld, ke0, ke1, ke2, kle⟩ := hSw.cells; (go_simp <;> with_reducible rfl))
    try simp only [Act.put, List.setIfInBounds_toArray, List.set_cons_zero, List.set_cons_succ]
    refine wpAnyH_take (i := 1) (oi := ⟨some 23, _, _, _, _, _⟩) (v := ?_) rfl (by kernel_rfl) (by kernel_rfl) (by kernel_rfl) (fun _ _ _ h => h) (Or.inl ⟨by rfl, ?_⟩) (by assumption) ?_
    rotate_left
    · (intro w hSw; (try dsimp only at hSw); obtain ⟨kc0, kc1, klc, kd0, kd1, kld, ke0, ke1, ke2, kle⟩ := hSw.cells; (go_simp <;> with_reducible rfl))
    try simp only [Act.put, List.setIfInBounds_toArray, List.set_cons_zero, List.set_cons_succ]
    refine wpAnyH_take (i := 2) (oi := ⟨some 24, _, _, _, _, _⟩) (v := ?_) rfl (by kernel_rfl) (by kernel_rfl) (by kernel_rfl) (fun _ _ _ h => h) (Or.inl ⟨by rfl, ?_⟩) (by assumption) ?_
    rotate_left
    · (intro w hSw; (try dsimp only at hSw); obtain ⟨kc0, kc1, klc, kd0, kd1, kld, ke0, ke1, ke2, kle⟩ := hSw.cells; (go_simp <;> with_reducible rfl))
    try simp only [Act.put, List.setIfInBounds_toArray, List.set_cons_zero, List.set_cons_succ]
    refine wpAnyH_take (i := 3) (oi := ⟨some 25, _, _, _, _, _⟩) (v := ?_) rfl (by kernel_rfl) (by kernel_rfl) (by kernel_rfl) (fun _ _ _ h => h) (Or.inl ⟨by rfl, ?_⟩) (by assumption) ?_
    rotate_left
    · (intro w hSw; (try dsimp only at hSw); obtain ⟨kc0, kc1, klc, kd0, kd1, kld, ke0, ke1, ke2, kle⟩ := hSw.cells; (go_simp <;> with_reducible rfl))
    try simp only [Act.put, List.setIfInBounds_toArray, List.set_cons_zero, List.set_cons_succ]
    refine wpAnyH_take (i := 4) (oi := ⟨some 26, _, _, _, _, _⟩) (v := ?_) rfl (by kernel_rfl) (by kernel_rfl) (by kernel_rfl) (fun _ _ _ h => h) (Or.inl ⟨by rfl, ?_⟩) (by assumption) ?_
    rotate_left
    · (intro w hSw; (try dsimp only at hSw); obtain ⟨kc0, kc1, klc, kd0, kd1, kld, ke0, ke1, ke2, kle⟩ := hSw.cells; (go_simp <;> with_reducible rfl))
    try simp only [Act.put, List.setIfInBounds_toArray, List.set_cons_zero, List.set_cons_succ]
    refine wpAnyH_take (i := 5) (oi := ⟨some 27, _, _, _, _, _⟩) (v := ?_) rfl (by kernel_rfl) (by kernel_rfl) (by kernel_rfl) (fun _ _ _ h => h) (Or.inl ⟨by rfl, ?_⟩) (by assumption) ?_
    rotate_left
    · (intro w hSw; (try dsimp only at hSw); obtain ⟨kc0, kc1, klc, kd0, kd1, kld, ke0, ke1, ke2, kle⟩ := hSw.cells; (go_simp <;> with_reducible rfl))
    try simp only [Act.put, List.setIfInBounds_toArray, List.set_cons_zero, List.set_cons_succ]
    refine wpAnyH_take (i := 6) (oi := ⟨some 28, _, _, _, _, _⟩) (v := ?_) rfl (by kernel_rfl) (by kernel_rfl) (by kernel_rfl) (fun _ _ _ h => h) (Or.inl ⟨by rfl, ?_⟩) (by assumption) ?_
    rotate_left
    · (intro w hSw; (try dsimp only at hSw); obtain ⟨kc0, kc1, klc, kd0, kd1, kld, ke0, ke1, ke2, kle⟩ := hSw.cells; (go_simp <;> with_reducible rfl))
    try simp only [Act.put, List.setIfInBounds_toArray, List.set_cons_zero, List.set_cons_succ]
    refine wpAnyH_take (i := 7) (oi := ⟨some 29, _, _, _, _, _⟩) (v := ?_) rfl (by kernel_rfl) (by kernel_rfl) (by kernel_rfl) (fun _ _ _ h => h) (Or.inl ⟨by rfl, ?_⟩) (by assumption) ?_
    rotate_left
    · (intro w hSw; (try dsimp only at hSw); obtain ⟨kc0, kc1, klc, kd0, kd1, kld, ke0, ke1, ke2, kle⟩ := hSw.cells; (go_simp <;> with_reducible rfl))
    try simp only [Act.put, List.setIfInBounds_toArray, List.set_cons_zero, List.set_cons_succ]
    refine wpAnyH_take (i := 8) (oi := ⟨some 30, _, _, _, _, _⟩) (v := ?_) rfl (by kernel_rfl) (by kernel_rfl) (by kernel_rfl) (fun _ _ _ h => h) (Or.inl ⟨by rfl, ?_⟩) (by assumption) ?_
    rotate_left
    · (intro w hSw; (try dsimp only at hSw); obtain ⟨kc0, kc1, klc, kd0, kd1, kld, ke0, ke1, ke2, kle⟩ := hSw.cells; (go_simp <;> with_reducible rfl))
    try simp only [Act.put, List.setIfInBounds_toArray, List.set_cons_zero, List.set_cons_succ]
    refine wpAnyH_take (i := 10) (oi := ⟨some 32, _, _, _, _, _⟩) (v := ?_) rfl (by kernel_rfl) (by kernel_rfl) (by kernel_rfl) (fun _ _ _ h => h) (Or.inl ⟨by rfl, ?_⟩) (by assumption) ?_
    rotate_left
    · (intro w hSw; (try dsimp only at hSw); obtain ⟨kc0, kc1, klc, kd0, kd1, kld, ke0, ke1, ke2, kle⟩ := hSw.cells; (go_simp <;> with_reducible rfl))
    try simp only [Act.put, List.setIfInBounds_toArray, List.set_cons_zero, List.set_cons_succ]
    refine wpAnyH_take (i := 11) (oi := ⟨some 33, _, _, _, _, _⟩) (v := ?_) rfl (by kernel_rfl) (by kernel_rfl) (by kernel_rfl) (fun _ _ _ h => h) (Or.inl ⟨by rfl, ?_⟩) (by assumption) ?_
    rotate_left
    · (intro w hSw; (try dsimp only at hSw); obtain ⟨kc0, kc1, klc, kd0, kd1, kld, ke0, ke1, ke2, kle⟩ := hSw.cells; (go_simp <;> with_reducible rfl))
    try simp only [Act.put, List.setIfInBounds_toArray, List.set_cons_zero, List.set_cons_succ]
    refine wpAnyH_ready (rs := [9]) (by kernel_rfl) (by simp) ?_
    refine AllReadyH.cons rfl (fun K hK => ?_) AllReadyH.nil
    go_simp
    go_at_call 57
    refine (nodeLast_calls W4.drew a ⟨((n + 1 : Nat) : Int), [], ks⟩ N4d.out).mono ?_
    rintro e w5 ⟨rfl, hb5⟩
    rw [HKL.out]
    have S5 := S4d.below hb5
    have B5 := Lib.hid (bl_then (Below.refl W4.heap.size W4).drew (Nat.le_refl _) hb5)
    clear hb5
    refine hK.out _ _ (by assumption) (fun _ => ?_)
    clear hK K
    try simp only [Act.put, List.setIfInBounds_toArray, List.set_cons_zero, List.set_cons_succ]
    refine wpAnyH_take (i := 12) (oi := ⟨some 34, _, _, _, _, _⟩) (v := ?_) rfl (by kernel_rfl) (by kernel_rfl) (by kernel_rfl) (fun _ _ _ h => h) (Or.inl ⟨by rfl, ?_⟩) (by assumption) ?_
    rotate_left
    · (intro w hSw; (try dsimp only at hSw); obtain ⟨kc0, kc1, klc, kd0, kd1, kld, ke0, ke1, ke2, kle⟩ := hSw.cells; (go_simp <;> with_reducible rfl))
    try simp only [Act.put, List.setIfInBounds_toArray, List.set_cons_zero, List.set_cons_succ]
    refine wpAnyH_take (i := 13) (oi := ⟨some 35, _, _, _, _, _⟩) (v := ?_) rfl (by kernel_rfl) (by kernel_rfl) (by kernel_rfl) (fun _ _ _ h => h) (Or.inl ⟨by rfl, ?_⟩) (by assumption) ?_
    rotate_left
    · (intro w hSw; (try dsimp only at hSw); obtain ⟨kc0, kc1, klc, kd0, kd1, kld, ke0, ke1, ke2, kle⟩ := hSw.cells; (go_simp <;> with_reducible rfl))
    try simp only [Act.put, List.setIfInBounds_toArray, List.set_cons_zero, List.set_cons_succ]
    refine wpAnyH_take (i := 14) (oi := ⟨some 36, _, _, _, _, _⟩) (v := ?_) rfl (by kernel_rfl) (by kernel_rfl) (by kernel_rfl) (fun _ _ _ h => h) (Or.inl ⟨by rfl, ?_⟩) (by assumption) ?_
    rotate_left
    · (intro w hSw; (try dsimp only at hSw); obtain ⟨kc0, kc1, klc, kd0, kd1, kld, ke0, ke1, ke2, kle⟩ := hSw.cells; (go_simp <;> with_reducible rfl))
    try simp only [Act.put, List.setIfInBounds_toArray, List.set_cons_zero, List.set_cons_succ]
    refine wpAnyH_done (by kernel_rfl) ?_ _
    refine NoPanic.normal ?_
  all_goals
    have S5d : WkS q3 q4 q7 s gg kl ki ((n : Int) + 1) a 0 ks.length w5.drew := S5.below (Below.refl w5.heap.size w5).drew
    have B5d : Hid (Below W4.heap.size W4 w5.drew) := bl_then B5.out B5.out.size (Below.refl w5.heap.size w5).drew
    have N5d := Lib.hid (N4.out.below B5d.out)
    have T5d := Lib.hid (HG.out.chg (Below.chg (bl_then B4.out B4.out.size B5d.out) fun _ => False) (fun _ _ h => h))
    obtain ⟨f0, f1, fl, i0, i1, il, j0, j1, j2, jl⟩ := S5.cells
    clear c0 c1 cl d0 d1 dl e0 e1 e2 el S4 S4d
    go_upto_region 6 with fail
    refine wp_region_noPanic ?_
    refine wp_region_held_drew (S := WkS q3 q4 q7 s gg kl ki ((n : Int) + 1) a 0 ks.length) (by kernel_rfl) (S5d) (fun hHeld => ?_)
    refine wpAnyH_take (i := 0) (oi := ⟨some 37, _, _, _, _, _⟩) (v := ?_) rfl (by kernel_rfl) (by kernel_rfl) (by kernel_rfl) (fun _ _ _ h => h) (Or.inl ⟨by rfl, ?_⟩) (by assumption) ?_
    rotate_left
    · (intro w hSw; (try dsimp only at hSw); obtain ⟨kc0, kc1, klc, kd0, kd1, kld, ke0, ke1, ke2, kle⟩ := hSw.cells; (go_simp <;> with_reducible rfl))
    try simp only [Act.put, List.setIfInBounds_toArray, List.set_cons_zero, List.set_cons_succ]
    refine wpAnyH_take (i := 1) (oi := ⟨some 38, _, _, _, _, _⟩) (v := ?_) rfl (by kernel_rfl) (by kernel_rfl) (by kernel_rfl) (fun _ _ _ h => h) (Or.inl ⟨by rfl, ?_⟩) (by assumption) ?_
    rotate_left
    · (intro w hSw; (try dsimp only at hSw); obtain ⟨kc0, kc1, klc, kd0, kd1, kld, ke0, ke1, ke2, kle⟩ := hSw.cells; (go_simp <;> with_reducible rfl))
    try simp only [Act.put, List.setIfInBounds_toArray, List.set_cons_zero, List.set_cons_succ]
    refine wpAnyH_take (i := 2) (oi := ⟨some 39, _, _, _, _, _⟩) (v := ?_) rfl (by kernel_rfl) (by kernel_rfl) (by kernel_rfl) (fun _ _ _ h => h) (Or.inl ⟨by rfl, ?_⟩) (by assumption) ?_
    rotate_left
    · (intro w hSw; (try dsimp only at hSw); obtain ⟨kc0, kc1, klc, kd0, kd1, kld, ke0, ke1, ke2, kle⟩ := hSw.cells; (go_simp <;> with_reducible rfl))
    try simp only [Act.put, List.setIfInBounds_toArray, List.set_cons_zero, List.set_cons_succ]
    refine wpAnyH_take (i := 4) (oi := ⟨some 41, _, _, _, _, _⟩) (v := ?_) rfl (by kernel_rfl) (by kernel_rfl) (by kernel_rfl) (fun _ _ _ h => h) (Or.inl ⟨by rfl, ?_⟩) (by assumption) ?_
    rotate_left
    · (intro w hSw; (try dsimp only at hSw); obtain ⟨kc0, kc1, klc, kd0, kd1, kld, ke0, ke1, ke2, kle⟩ := hSw.cells; (go_simp <;> with_reducible rfl))
    try simp only [Act.put, List.setIfInBounds_toArray, List.set_cons_zero, List.set_cons_succ]
    refine wpAnyH_take (i := 5) (oi := ⟨some 42, _, _, _, _, _⟩) (v := ?_) rfl (by kernel_rfl) (by kernel_rfl) (by kernel_rfl) (fun _ _ _ h => h) (Or.inl ⟨by rfl, ?_⟩) (by assumption) ?_
    rotate_left
    · (intro w hSw; (try dsimp only at hSw); obtain ⟨kc0, kc1, klc, kd0, kd1, kld, ke0, ke1, ke2, kle⟩ := hSw.cells; (go_simp <;> with_reducible rfl))
    try simp only [Act.put, List.setIfInBounds_toArray, List.set_cons_zero, List.set_cons_succ]
    refine wpAnyH_take (i := 7) (oi := ⟨some 44, _, _, _, _, _⟩) (v := ?_) rfl (by kernel_rfl) (by kernel_rfl) (by kernel_rfl) (fun _ _ _ h => h) (Or.inl ⟨by rfl, ?_⟩) (by assumption) ?_
    rotate_left
    · (intro w hSw; (try dsimp only at hSw); obtain ⟨kc0, kc1, klc, kd0, kd1, kld, ke0, ke1, ke2, kle⟩ := hSw.cells; (go_simp <;> with_reducible rfl))
    try simp only [Act.put, List.setIfInBounds_toArray, List.set_cons_zero, List.set_cons_succ]
    refine wpAnyH_ready (rs := [3]) (by kernel_rfl) (by simp) ?_
    refine AllReadyH.cons rfl (fun K hK => ?_) AllReadyH.nil
    go_simp
    go_at_call 57
    refine (nodeLast_calls w5.drew a ⟨((n + 1 : Nat) : Int), [], ks⟩ N5d.out).mono ?_
    rintro e w6 ⟨rfl, hb6⟩
    have S6 := S5d.below hb6
    have T6 := Lib.hid (T5d.out.chg (Below.chg hb6 fun _ => False) (fun _ _ h => h))
    have N6 := Lib.hid (N5d.out.below hb6)
    have B6 := Lib.hid (bl_then B5d.out B5d.out.size hb6)
    clear hb6
    refine hK.out _ _ (by assumption) (fun _ => ?_)
    clear hK K
    try simp only [Act.put, List.setIfInBounds_toArray, List.set_cons_zero, List.set_cons_succ]
    refine wpAnyH_take (i := 6) (oi := ⟨some 43, _, _, _, _, _⟩) (v := ?_) rfl (by kernel_rfl) (by kernel_rfl) (by kernel_rfl) (fun _ _ _ h => h) (Or.inl ⟨by rfl, ?_⟩) (by assumption) ?_
    rotate_left
    · (intro w hSw; (try dsimp only at hSw); obtain ⟨kc0, kc1, klc, kd0, kd1, kld, ke0, ke1, ke2, kle⟩ := hSw.cells; (go_simp <;> with_reducible rfl))
    try simp only [Act.put, List.setIfInBounds_toArray, List.set_cons_zero, List.set_cons_succ]
    refine wpAnyH_ready (rs := [8]) (by kernel_rfl) (by simp) ?_
    refine AllReadyH.cons rfl (fun K hK => ?_) AllReadyH.nil
    go_simp
    go_at_call 149
    refine (allInner_calls w6 G gg mm ue uk E KL L T6.out _ ki _ a ks hn1 N6.out).mono ?_
    rintro e w8 ⟨rfl, ue8, uk8, hx8⟩
    have X8 := Lib.hid hx8
    have S8 := S6.chg hx8.chgd HQG.out
    clear hx8
    refine hK.out _ _ (by assumption) (fun _ => ?_)
    clear hK K
    try simp only [Act.put, List.setIfInBounds_toArray, List.set_cons_zero, List.set_cons_succ]
    refine wpAnyH_done (by kernel_rfl) ?_ _
    refine NoPanic.normal ?_
    have T6' := Lib.hid (HT.out.below (bl_then B4.out B4.out.size B6.out))
    have S6' := Lib.hid S6
    have B66 := Lib.hid (bl_then B4.out B4.out.size B6.out)
    obtain ⟨c0, c1, cl, d0, d1, dl, e0, e1, e2, el⟩ := S8.cells
    clear f0 f1 fl i0 i1 il j0 j1 j2 jl S5 S5d S6 S8
    rcases N6.out.hK with h0 | ⟨bb, off, hAB, -, -⟩
    · have := ok_ne HOK.out
      dsimp only at h0 this
      rw [h0] at this
      simp at this
    rw [hAB]
    go_wp2
    clear c0 c1 cl d0 d1 dl e0 e1 e2 el
    go_loopg [49] ks.length (fun m i wr => ∃ (j : Nat) (ue uk : Value) (K' : List Kid) (L' : List (Int × Bool)), i = .int .i64 j ∧ j + m = ks.length ∧ Hid (GaX w6 G gg mm ue uk (E ++ (ps.take j).flatten) K' L' wr) ∧ Hid (K'.length ≤ KL.length + (ps.take j).flatten.length))
    case atStart => exact ⟨0, ue8, uk8, KL, _, rfl, by omega, by show GaX _ _ _ _ _ _ _ _ _ _; simpa using X8.out, by show _ ≤ _; simp⟩
    case round =>
      clear X8
      obtain ⟨j, ue9, uk9, K9, L9, rfl, hj, hx, hk9⟩ := hrel
      by_cases hjn : j < ks.length
      · obtain ⟨m', hm'⟩ : ∃ m', gk = m' + 1 := ⟨gk - 1, by omega⟩
        subst hm'
        have hji : (j : Int) < (ks.length : Int) := by omega
        have hjz : (0 : Int) ≤ (j : Int) := by omega
        rcases N6.out.hK.chg hx.out.chgd HBG.out with h0 | ⟨bb2, off2, hAB2, hlt, hcell⟩
        · dsimp only at h0; rw [h0] at hjn; simp at hjn
        rw [hAB] at hAB2
        obtain ⟨rfl, rfl⟩ : bb = bb2 ∧ off = off2 := by injection hAB2 with e; injection e with e1 e2; exact ⟨e1, e2⟩
        have hxk : ks[j]? = some ks[j] := List.getElem?_eq_getElem hjn
        have hpj : j < ps.length := by rw [← HPL.out]; exact hjn
        have hpk : ps[j]? = some ps[j] := List.getElem?_eq_getElem hpj
        have z0 := hcell j _ hxk 0 _ rfl
        have z1 := hcell j _ hxk 1 _ rfl
        have hsubj := HSUB.out j _ _ hxk hpk
        have htk : Hid (E ++ (ps.take j).flatten ++ ps[j] = E ++ (ps.take (j + 1)).flatten) := by
          show _ = _
          rw [List.take_add_one, hpk, List.flatten_append]
          simp only [Option.toList_some, List.flatten_cons, List.flatten_nil, List.append_nil, List.append_assoc]
        have hfl : (ps.take j).flatten.length + ps[j].length ≤ l.length := by
          have h1 : (ps.take (j + 1)).flatten.length + (ps.drop (j + 1)).flatten.length = l.length := by rw [← List.length_append, ← List.flatten_append, List.take_append_drop, HPF.out]
          have h2 := congrArg List.length htk.out
          simp only [List.length_append] at h2
          omega
        have htl : Hid ((ps.take (j + 1)).flatten.length = (ps.take j).flatten.length + ps[j].length) := by
          show _ = _
          have h2 := congrArg List.length htk.out
          simp only [List.length_append] at h2
          omega
        obtain ⟨tj, htj⟩ : ∃ tj, (ps.take j).flatten.length = tj := ⟨_, rfl⟩
        rw [htj] at hfl htl hk9
        generalize ps[j] = p at *
        generalize ks[j] = x at *
        simp only [Nat.add_zero] at z0
        obtain ⟨W9, hW9⟩ : ∃ W, wr.alloc (.cells #[.string x.last, .int .u64 x.id] 109) = W := ⟨_, rfl⟩
        have hb9 : Below wr.heap.size wr W9 := by rw [← hW9]; exact bl_alloc (Below.refl _ wr) _
        have hz9 : W9.heap[wr.heap.size]? = some (.cells #[.string x.last, .int .u64 x.id] 109 (0, 0)) := by rw [← hW9]; exact blk_new wr _
        have y0 := blk_cell hz9 0
        have y1 := blk_cell hz9 1
        have yl := blk_lt hz9
        have X9 := Lib.hid (hx.out.below hb9)
        have S9 := S6'.out.chg X9.out.chgd HQG.out
        obtain ⟨c0, c1, cl, d0, d1, dl, e0, e1, e2, el⟩ := S9.cells
        obtain ⟨S9r0, S9r1, S9rl, -, -, -, S9e0, S9e1, S9e2, S9el⟩ := (S6'.out.chg hx.out.chgd HQG.out).cells
        have T9 := Lib.hid (T6'.out.chg X9.out.chgd HFG.out)
        obtain ⟨G9, ga, gb, gc⟩ := X9.out
        have GA := Lib.hid ga
        have GB := Lib.hid gb
        have GC := Lib.hid gc
        have HF9 : Hid (∀ i, F i → ¬ G9 i) := fun i hi hg => by
          rcases gc i hg with q | q
          · exact HFG.out i hi q
          · have h1 := HT.out.lt i hi; have h2 := B66.out.size; omega
        have hk9' := hk9.out
        have hsz : (E ++ (ps.take j).flatten).length + p.length ≤ 100000 := by rw [List.length_append, htj]; omega
        have HC := Lib.hid (HIH.out W9 G9 ue9 uk9 (E ++ (ps.take j).flatten) K9 L9 x p x.last n hsubj T9.out GA.out HF9.out (.inr ⟨rfl, rfl⟩) hsz (by omega))
        have hbl : bb < wr.heap.size := hlt
        clear hcell hlt hxk hpj hpk hsubj hfl hb9 hz9 ga gb gc hsz hx X9 S9 S9r0 S9r1 S9rl S9e0 S9e1 T9
        go_wp2_with fail
        refine HC.out.mono ?_
        rintro e w10 ⟨rfl, ue2, uk2, K2, L2, hx2, hk2⟩
        have X10 := Lib.hid (hx2.trans GB.out GC.out)
        rw [htk.out] at X10
        have HK2 : Hid (K2.length ≤ KL.length + (ps.take (j + 1)).flatten.length) := by
          show _ ≤ _
          have h1 := htl.out
          omega
        clear hx2 hk2 hk9 hk9' HC GA GB GC HF9 c0 c1 cl d0 d1 dl e0 e1 e2 el y0 y1 yl z0 z1 hbl
        go_wp2
        go_roundg m'
        case measure => omega
        case rel => exact ⟨j + 1, ue2, uk2, K2, L2, by go_num, by omega, X10.out, HK2.out⟩
      · have hjj : ¬ (j : Int) < (ks.length : Int) := by omega
        have hfull : Hid ((ps.take j).flatten = l) := by show _ = _; rw [List.take_of_length_le (by rw [← HPL.out]; omega), HPF.out]
        have XF := Lib.hid hx.out
        have KF := Lib.hid hk9.out
        rw [hfull.out] at XF KF
        clear hx hk9 hjn
        go_wp2
        go_ret
        exact ⟨rfl, ue9, uk9, K9, L9, XF.out.since B66.out, KF.out⟩
theorem walk_calls {s p g : Nat} {F : Nat → Prop} {C : List (List Int)} {gg mm : Nat} : ∀ (n : Nat) (w : World) (G : Nat → Prop) (ue uk : Value) (E : List Entry) (KL : List Kid) (L : List (Int × Bool)) (k : Kid) (l : List Entry) (kl : Str) (lv : Int), SubT C n k l → TSt w s p g F C → GaT G gg mm ue uk E KL L w → (∀ i, F i → ¬ G i) → (lv < 0 ∨ (lv = (n : Int) ∧ kl = k.last)) → E.length + l.length ≤ 100000 → KL.length + l.length ≤ 100000 →
    Calls Tryz.prog 150 #[.agg #[.pointer (some ⟨s, 0, none⟩), .func (.func 149) #[.pointer (some ⟨gg, 0, none⟩)] #[]], .agg #[.string kl, .int .u64 k.id], .int .i64 lv] w fun e w' => WalkR w w' G gg mm (E ++ l) (KL.length + l.length) e
  | 0, w, G, ue, uk, E, KL, L, k, l, kl, lv, hs, hT, hG, hF, hlv, h1, h2 => walkLeaf_calls w G ue uk E KL L k l kl lv hs hT hG hF hlv h1 h2
  | n + 1, w, G, ue, uk, E, KL, L, k, l, kl, lv, hs, hT, hG, hF, hlv, h1, h2 => walkStep_calls n (walk_calls n) w G ue uk E KL L k l kl lv hs hT hG hF hlv h1 h2
end Go.Proofs.YtikgplhcadomcaaGreat

namespace Go.Proofs.YtikgplhcadomcaaGreat
open Go.RowKit
set_option linter.unusedVariables false
set_option linter.unusedSimpArgs false
theorem gaT_new (w : World) : ∃ G : Nat → Prop, GaT G (w.heap.size + 1) w.heap.size (.slice none 0 0) (.slice none 0 0) [] [] [] ((w.alloc (.map #[] 0)).alloc (.cells #[.slice none 0 0, .slice none 0 0, .map (some w.heap.size)] 181)) ∧ ∀ i, G i → w.heap.size ≤ i := by
  have h1 := blk_new w (.map #[] 0)
  have h2 := blk_new (w.alloc (.map #[] 0)) (.cells #[.slice none 0 0, .slice none 0 0, .map (some w.heap.size)] 181)
  have e : (w.alloc (.map #[] 0)).heap.size = w.heap.size + 1 := by simp
  rw [e] at h2
  refine ⟨fun i => i = w.heap.size ∨ i = w.heap.size + 1, ⟨h2, Own.nil, Own.nil, ?_, by omega, (fun k hk => by cases hk), (fun k hk => by cases hk), ⟨.inr rfl, .inl rfl⟩, fun i hi => by simp; omega⟩, fun i hi => by omega⟩
  exact ⟨#[], 0, blk_alloc h1 _, rfl, List.nodup_nil⟩
def GadR (w w' : World) (E : List Entry) (e : Ending) : Prop := ∃ gg mm ue uk K L G, e = .returned (.tuple #[.pointer (some ⟨gg, 0, none⟩), .int .i64 0]) ∧ GaT G gg mm ue uk E K L w' ∧ Below w.heap.size w w'
section
variable {w w2 : World} {s p g : Nat} {F : Nat → Prop} {C : List (List Int)}
set_option maxRecDepth 100000 in
set_option maxHeartbeats 4000000 in
theorem gathered_calls {E : List Entry} {root most : Int} (hm : MapOk E) (h : BuiltR F w w2 s p g C E root most) : Calls Tryz.prog 102 #[.pointer (some ⟨s, 0, none⟩), .int .u64 root] w2 fun e w' => GadR w2 w' E e := by
  obtain ⟨F', C', h1, h2, h3, h4, h5, h6⟩ := h
  obtain ⟨G, hG, hGw⟩ := gaT_new w2
  have HG := Lib.hid hG
  have HGW := Lib.hid hGw
  have hb : Below w2.heap.size w2 ((w2.alloc (.map #[] 0)).alloc (.cells #[.slice none 0 0, .slice none 0 0, .map (some w2.heap.size)] 181)) := bl_alloc (bl_alloc (Below.refl _ w2) _) _
  have B2 := Lib.hid hb
  have hmm := @run_makeMap Tryz.prog
  rcases h6 with ⟨rfl, rfl⟩ | ⟨k, T, rfl, t1, t2, t3⟩
  · clear hb hG hGw h1 h2 h3 h4 h5
    go_enter Tryz.func102, Tryz.ntmps102
    go_wp2
    go_ret2
    exact ⟨_, _, _, _, _, _, _, rfl, HG.out, B2.out⟩
  · have hid1 := (tower_ids t1 k (by simp)).1
    have hid0 : (k.id == 0) = false := by rw [beq_eq_false_iff_ne]; omega
    have HW := Lib.hid (walk_calls T.length _ G _ _ [] [] [] k E ⟨#[]⟩ (-1) (tower_sub hm h1.len t1 t2) (h1.below hb) hG (fun i hi hg => by have := h1.lt i hi; have := hGw i hg; omega) (.inl (by omega)) (by have := hm.len; simp; omega) (by have := hm.len; simp; omega))
    clear hb hG hGw h1 h2 h3 h4 h5 t1 t2 t3 hid1
    go_enter Tryz.func102, Tryz.ntmps102
    go_wp2_with fail
    refine HW.out.mono ?_
    rintro e w3 ⟨rfl, ue, uk, K', L', hx, -⟩
    have X3 := Lib.hid hx
    clear hx HW
    go_wp2
    go_ret2
    obtain ⟨G', ga, gb, gc⟩ := X3.out
    rw [List.nil_append] at ga
    refine ⟨_, _, _, _, _, _, _, rfl, ga, ?_⟩
    have hk := gb.below B2.out.size HGW.out
    have hB := B2.out
    exact ⟨hk.os.trans hB.os, hk.tape.trans hB.tape, hk.output.trans hB.output, Nat.le_trans hB.size hk.size, fun i hi => (hk.block i hi).trans (hB.block i hi)⟩
def ListR (w w' : World) (E : List Entry) (e : Ending) : Prop := ∃ A c, e = .returned (.tuple #[.slice A E.length c, .int .i64 0]) ∧ E.length ≤ c ∧ Rd Entry.enc 2 w' A E ∧ Below w.heap.size w w'
set_option maxRecDepth 100000 in
theorem list_calls {E : List Entry} {root most : Int} (hm : MapOk E) (h : BuiltR F w w2 s p g C E root most) : Calls Tryz.prog 75 #[.pointer (some ⟨s, 0, none⟩), .int .u64 root] w2 fun e w' => ListR w2 w' E e := by
  have H := Lib.hid (gathered_calls hm h)
  clear h
  go_enter Tryz.func75, Tryz.ntmps75
  go_wp2_with fail
  refine H.out.mono ?_
  rintro e w3 ⟨gg, mm, ue, uk, K, L, G, rfl, hg, hb⟩
  obtain ⟨A, c, rfl, i1, -, hr, -⟩ := hg.oe.rd Entry.ok
  have R := Lib.hid hr
  have B := Lib.hid hb
  have c0 := blk_cell hg.blk 0
  have cl := blk_lt hg.blk
  clear hg hr hb H
  go_wp2
  go_ret2
  exact ⟨A, c, rfl, i1, R.out, B.out⟩
end
end Go.Proofs.YtikgplhcadomcaaGreat
