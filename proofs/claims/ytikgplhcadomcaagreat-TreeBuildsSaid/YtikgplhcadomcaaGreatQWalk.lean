/- (walker).walk -/
import Derived.Test.YtikgplhcadomcaaGreatQGather
import Derived.Test.YtikgplhcadomcaaGreatQSubP
namespace Go.Proofs.YtikgplhcadomcaaGreat
open Go.RowKit
set_option linter.unusedVariables false
set_option linter.unusedSimpArgs false
section
variable {w0 w w' : World} {G F : Nat → Prop} {gg mm : Nat} {ue uk : Value} {E : List Entry} {K : List Kid} {L : List (Int × Bool)}
theorem GaX.chgd (h : GaX w0 G gg mm ue uk E K L w) : Chg G w0 w := by obtain ⟨G', a, b, c⟩ := h; exact b
theorem GaX.start (h : GaT G gg mm ue uk E K L w) : GaX w G gg mm ue uk E K L w := ⟨G, h, Chg.refl _ _, fun i hi => .inl hi⟩
/-- The same behind an earlier world. -/
theorem GaX.since {w1 : World} (h : GaX w1 G gg mm ue uk E K L w) (hb : Below w0.heap.size w0 w1) : GaX w0 G gg mm ue uk E K L w := by
  obtain ⟨G', a, b, c⟩ := h
  exact ⟨G', a, (Below.chg hb G).trans b (fun _ _ h => h), fun i hi => (c i hi).imp_right (Nat.le_trans hb.size)⟩
theorem GaX.trans {w1 : World} {G1 : Nat → Prop} {ue1 uk1 : Value} {E1 : List Entry} {K1 : List Kid} {L1 : List (Int × Bool)} (h : GaX w1 G1 gg mm ue1 uk1 E1 K1 L1 w) (c1 : Chg G w0 w1) (s1 : ∀ i, G1 i → G i ∨ w0.heap.size ≤ i) : GaX w0 G gg mm ue1 uk1 E1 K1 L1 w := by
  obtain ⟨G', a, b, c⟩ := h
  refine ⟨G', a, c1.trans b (fun i hi hf => ?_), fun i hi => ?_⟩
  · rcases s1 i hf with e | e
    · exact e
    · omega
  · rcases c i hi with e | e
    · exact s1 i e
    · exact .inr (Nat.le_trans c1.size e)
end
/-- Within walk: the walker at q3, the kid at q4, the node at q7. -/
def WkS (q3 q4 q7 s gg : Nat) (kl : Str) (ki : Int) (lv : Int) (a : NdA) (nE nK : Nat) (W : World) : Prop :=
  W.heap[q3]? = some (.cells #[.pointer (some ⟨s, 0, none⟩), .func (.func 149) #[.pointer (some ⟨gg, 0, none⟩)] #[]] 227 (0, 0)) ∧ W.heap[q4]? = some (.cells #[.string kl, .int .u64 ki] 109 (0, 0)) ∧ W.heap[q7]? = some (.cells #[.int .i64 lv, .slice a.A nE a.ca, .slice a.B nK a.cb] 98 (0, 0))
section
variable {q3 q4 q7 s gg : Nat} {kl : Str} {ki : Int} {lv : Int} {a : NdA} {nE nK : Nat} {W W' : World} {G : Nat → Prop}
theorem WkS.cells (h : WkS q3 q4 q7 s gg kl ki lv a nE nK W) : W.cell? ⟨q3, 0, none⟩ = some (.pointer (some ⟨s, 0, none⟩)) ∧ W.cell? ⟨q3, 1, none⟩ = some (.func (.func 149) #[.pointer (some ⟨gg, 0, none⟩)] #[]) ∧ q3 < W.heap.size ∧ W.cell? ⟨q4, 0, none⟩ = some (.string kl) ∧ W.cell? ⟨q4, 1, none⟩ = some (.int .u64 ki) ∧ q4 < W.heap.size ∧ W.cell? ⟨q7, 0, none⟩ = some (.int .i64 lv) ∧ W.cell? ⟨q7, 1, none⟩ = some (.slice a.A nE a.ca) ∧ W.cell? ⟨q7, 2, none⟩ = some (.slice a.B nK a.cb) ∧ q7 < W.heap.size := by
  obtain ⟨h1, h2, h3⟩ := h
  refine ⟨?_, ?_, blk_lt h1, ?_, ?_, blk_lt h2, ?_, ?_, ?_, blk_lt h3⟩
  · rw [blk_cell h1]; rfl
  · rw [blk_cell h1]; rfl
  · rw [blk_cell h2]; rfl
  · rw [blk_cell h2]; rfl
  · rw [blk_cell h3]; rfl
  · rw [blk_cell h3]; rfl
  · rw [blk_cell h3]; rfl
theorem WkS.below (h : WkS q3 q4 q7 s gg kl ki lv a nE nK W) (hb : Below W.heap.size W W') : WkS q3 q4 q7 s gg kl ki lv a nE nK W' := ⟨blk_below hb h.1 (blk_lt h.1), blk_below hb h.2.1 (blk_lt h.2.1), blk_below hb h.2.2 (blk_lt h.2.2)⟩
theorem WkS.chg (h : WkS q3 q4 q7 s gg kl ki lv a nE nK W) (hc : Chg G W W') (hq : ¬ G q3 ∧ ¬ G q4 ∧ ¬ G q7) : WkS q3 q4 q7 s gg kl ki lv a nE nK W' := ⟨hc.blk h.1 hq.1, hc.blk h.2.1 hq.2.1, hc.blk h.2.2 hq.2.2⟩
end
def WalkR (w w' : World) (G : Nat → Prop) (gg mm : Nat) (E : List Entry) (nK : Nat) (e : Ending) : Prop := e = .returned (.int .i64 0) ∧ ∃ ue uk K' L', GaX w G gg mm ue uk E K' L' w' ∧ K'.length ≤ nK
set_option maxRecDepth 100000 in
set_option maxHeartbeats 4000000 in
theorem walkLeaf_calls {s p g : Nat} {F : Nat → Prop} {C : List (List Int)} {gg mm : Nat}  (w : World) (G : Nat → Prop) (ue uk : Value) (E : List Entry) (KL : List Kid) (L : List (Int × Bool)) (k : Kid) (l : List Entry) (kl : Str) (lv : Int) (hs : SubT C 0 k l) (hT : TSt w s p g F C) (hG : GaT G gg mm ue uk E KL L w) (hFG : ∀ i, F i → ¬ G i) (hlv : lv < 0 ∨ (lv = 0 ∧ kl = k.last)) (hlE : E.length + l.length ≤ 100000) (hlK : KL.length + l.length ≤ 100000) :
    Calls Tryz.prog 150 #[.agg #[.pointer (some ⟨s, 0, none⟩), .func (.func 149) #[.pointer (some ⟨gg, 0, none⟩)] #[]], .agg #[.string kl, .int .u64 k.id], .int .i64 lv] w fun e w' => WalkR w w' G gg mm (E ++ l) (KL.length + l.length) e := by
  obtain ⟨hok, htell, hlast⟩ := hs
  obtain ⟨kL, ki⟩ := k
  dsimp only at htell hlast hlv ⊢
  have HKL : Hid (NodeP.last ⟨((0 : Nat) : Int), l, []⟩ = kL) := hlast.symm
  have HOK := Lib.hid hok
  obtain ⟨W1, hW1⟩ : ∃ W, w.alloc (.cells #[.pointer (some ⟨s, 0, none⟩), .func (.func 149) #[.pointer (some ⟨gg, 0, none⟩)] #[]] 227) = W := ⟨_, rfl⟩
  have hb1 : Below w.heap.size w W1 := by rw [← hW1]; exact bl_alloc (Below.refl _ w) _
  have hz1 : W1.heap[w.heap.size]? = some (.cells #[.pointer (some ⟨s, 0, none⟩), .func (.func 149) #[.pointer (some ⟨gg, 0, none⟩)] #[]] 227 (0, 0)) := by rw [← hW1]; exact blk_new w _
  obtain ⟨W2, hW2⟩ : ∃ W, W1.alloc (.cells #[.string kl, .int .u64 ki] 109) = W := ⟨_, rfl⟩
  have hb2 : Below W1.heap.size W1 W2 := by rw [← hW2]; exact bl_alloc (Below.refl _ W1) _
  have hz2 : W2.heap[W1.heap.size]? = some (.cells #[.string kl, .int .u64 ki] 109 (0, 0)) := by rw [← hW2]; exact blk_new W1 _
  have hz12 := blk_below hb2 hz1 (blk_lt hz1)
  obtain ⟨q3, hq3⟩ : ∃ q, w.heap.size = q := ⟨_, rfl⟩
  obtain ⟨q4, hq4⟩ : ∃ q, W1.heap.size = q := ⟨_, rfl⟩
  rw [hq3] at hz12
  rw [hq4] at hz2
  have c0 := blk_cell hz12 0
  have c1 := blk_cell hz12 1
  have cl := blk_lt hz12
  have d0 := blk_cell hz2 0
  have d1 := blk_cell hz2 1
  have dl := blk_lt hz2
  have Z12 := Lib.hid hz12
  have Z2 := Lib.hid hz2
  have B2 := Lib.hid (bl_then hb1 hb1.size hb2)
  have HT := Lib.hid hT
  have HG := Lib.hid hG
  have HFG := Lib.hid hFG
  have HLD := Lib.hid (treeLoad_calls (hT.below B2.out) ki ⟨((0 : Nat) : Int), l, []⟩ hok htell)
  have hq34 : q3 < q4 := by rw [← hq3, ← hq4]; have := blk_lt hz1; exact this
  have HW : Hid (w.heap.size ≤ q3 ∧ q3 < q4 ∧ q4 < W2.heap.size) := ⟨by rw [hq3]; exact Nat.le_refl _, hq34, dl⟩
  clear hb1 hz1 hb2 hz2 hz12 hT hG hFG hok htell hlast
  go_enter Tryz.func150, Tryz.ntmps150
  go_wp2_with fail
  refine HLD.out.mono ?_
  rintro e w3 ⟨a, rfl, hN3, hfrom, hb3⟩
  obtain ⟨W4, hW4⟩ : ∃ W, w3.alloc (.cells #[.int .i64 0, .slice a.A l.length a.ca, .slice a.B 0 a.cb] 98) = W := ⟨_, rfl⟩
  have hb4 : Below w3.heap.size w3 W4 := by rw [← hW4]; exact bl_alloc (Below.refl _ w3) _
  obtain ⟨q7, hq7⟩ : ∃ q, w3.heap.size = q := ⟨_, rfl⟩
  have hz4 : W4.heap[q7]? = some (.cells #[.int .i64 0, .slice a.A l.length a.ca, .slice a.B 0 a.cb] 98 (0, 0)) := by rw [← hW4, ← hq7]; exact blk_new w3 _
  have hb24 : Below W2.heap.size W2 W4 := bl_then hb3 hb3.size hb4
  have S4 : WkS q3 q4 q7 s gg kl ki 0 a l.length 0 W4 := ⟨blk_below hb24 Z12.out (blk_lt Z12.out), blk_below hb24 Z2.out (blk_lt Z2.out), hz4⟩
  have S4d : WkS q3 q4 q7 s gg kl ki 0 a l.length 0 W4.drew := S4.below (Below.refl W4.heap.size W4).drew
  have N4 : Hid (NdAt W4 a ⟨((0 : Nat) : Int), l, []⟩) := hN3.below hb4
  have N4d : Hid (NdAt W4.drew a ⟨((0 : Nat) : Int), l, []⟩) := (hN3.below hb4).below (Below.refl W4.heap.size W4).drew
  have B4 := Lib.hid (bl_then B2.out B2.out.size hb24)
  have HAG : Hid (∀ x, a.A = some x → ¬ G x.block) := fun x hx hg => by have h1 := hfrom.1 x hx; have h2 := HG.out.lt _ hg; have h3 := B2.out.size; omega
  have HBG : Hid (∀ x, a.B = some x → ¬ G x.block) := fun x hx hg => by have h1 := hfrom.2 x hx; have h2 := HG.out.lt _ hg; have h3 := B2.out.size; omega
  have hq27 : W2.heap.size ≤ q7 := by rw [← hq7]; exact hb3.size
  have HQG : Hid (¬ G q3 ∧ ¬ G q4 ∧ ¬ G q7) := ⟨fun hg => by have := HG.out.lt _ hg; have := HW.out; omega, fun hg => by have := HG.out.lt _ hg; have := HW.out; omega, fun hg => by have := HG.out.lt _ hg; have := HW.out; omega⟩
  have HNE : Hid (l ≠ []) := by show _ ≠ _; have := ok_ne HOK.out; simpa using this
  have hl100 := HOK.out.le
  dsimp only at hl100
  have hlE1 : E.length ≤ 1000000 := by omega
  have hlK1 : KL.length ≤ 1000000 := by omega
  obtain ⟨c0, c1, cl, d0, d1, dl, e0, e1, e2, el⟩ := S4.cells
  clear hN3 hfrom hb3 hb4 hz4 hb24 hW1 hW2 hq3 hq4 hq27 HLD
  have key : ∃ w5, Hid (WkS q3 q4 q7 s gg kl ki 0 a l.length 0 w5) ∧ Hid (Below W4.heap.size W4 w5) := ⟨W4, S4, Below.refl _ _⟩
  clear key
  rcases hlv with hlv | ⟨hlv, hkl⟩
  case' inl =>
    have hg0 : ¬ (0 : Int) ≤ lv := by omega
    have hd0 : decide ((0 : Int) ≤ lv) = false := decide_eq_false hg0
    go_upto_region 4 with fail
    refine wp_region_noPanic ?_
    refine wp_region_held_drew (S := WkS q3 q4 q7 s gg kl ki 0 a l.length 0) (by kernel_rfl) (S4d) (fun hHeld => ?_)
    refine wpAnyH_take (i := 0) (oi := ⟨some 22, _, _, _, _, _⟩) (v := ?_) rfl (by kernel_rfl) (by kernel_rfl) (by kernel_rfl) (fun _ _ _ h => h) (Or.inl ⟨by rfl, ?_⟩) (by assumption) ?_
    rotate_left
    · (intro w hSw; (try dsimp only at hSw); obtain ⟨kc0, kc1, klc, kd0, kd1, kld, ke0, ke1, ke2, kle⟩ := hSw.cells; (go_simp <;> with_reducible rfl))
    try simp only [Act.put, List.setIfInBounds_toArray, List.set_cons_zero, List.set_cons_succ]
    refine wpAnyH_take (i := 1) (oi := ⟨some 23, _, _, _, _, _⟩) (v := ?_) rfl (by kernel_rfl) (by kernel_rfl) (by kernel_rfl) (fun _ _ _ h => h) (Or.inl ⟨by rfl, ?_⟩) (by assumption) ?_
    rotate_left
    · (intro w hSw; (try dsimp only at hSw); obtain ⟨kc0, kc1, klc, kd0, kd1, kld, ke0, ke1, ke2, kle⟩ := hSw.cells; (go_simp <;> with_reducible rfl))
    try simp only [Act.put, List.setIfInBounds_toArray, List.set_cons_zero, List.set_cons_succ]
    refine wpAnyH_take (i := 2) (oi := ⟨some 24, _, _, _, _, _⟩) (v := ?_) rfl (by kernel_rfl) (by kernel_rfl) (by kernel_rfl) (fun _ _ _ h => h) (Or.inl ⟨by rfl, ?_⟩) (by assumption) ?_
    rotate_left
    · (intro w hSw; (try dsimp only at hSw); obtain ⟨kc0, kc1, klc, kd0, kd1, kld, ke0, ke1, ke2, kle⟩ := hSw.cells; (go_simp <;> with_reducible rfl))
    try simp only [Act.put, List.setIfInBounds_toArray, List.set_cons_zero, List.set_cons_succ]
    refine wpAnyH_take (i := 3) (oi := ⟨some 25, _, _, _, _, _⟩) rfl (by kernel_rfl) (by kernel_rfl) (by kernel_rfl) (fun _ _ _ h => h) (Or.inr ⟨by rfl, rfl⟩) (by assumption) ?_
    try simp only [Act.put, List.setIfInBounds_toArray, List.set_cons_zero, List.set_cons_succ]
    refine wpAnyH_take (i := 4) (oi := ⟨some 26, _, _, _, _, _⟩) rfl (by kernel_rfl) (by kernel_rfl) (by kernel_rfl) (fun _ _ _ h => h) (Or.inr ⟨by rfl, rfl⟩) (by assumption) ?_
    try simp only [Act.put, List.setIfInBounds_toArray, List.set_cons_zero, List.set_cons_succ]
    refine wpAnyH_take (i := 5) (oi := ⟨some 27, _, _, _, _, _⟩) rfl (by kernel_rfl) (by kernel_rfl) (by kernel_rfl) (fun _ _ _ h => h) (Or.inr ⟨by rfl, rfl⟩) (by assumption) ?_
    try simp only [Act.put, List.setIfInBounds_toArray, List.set_cons_zero, List.set_cons_succ]
    refine wpAnyH_take (i := 6) (oi := ⟨some 28, _, _, _, _, _⟩) rfl (by kernel_rfl) (by kernel_rfl) (by kernel_rfl) (fun _ _ _ h => h) (Or.inr ⟨by rfl, rfl⟩) (by assumption) ?_
    try simp only [Act.put, List.setIfInBounds_toArray, List.set_cons_zero, List.set_cons_succ]
    refine wpAnyH_take (i := 7) (oi := ⟨some 29, _, _, _, _, _⟩) rfl (by kernel_rfl) (by kernel_rfl) (by kernel_rfl) (fun _ _ _ h => h) (Or.inr ⟨by rfl, rfl⟩) (by assumption) ?_
    try simp only [Act.put, List.setIfInBounds_toArray, List.set_cons_zero, List.set_cons_succ]
    refine wpAnyH_take (i := 8) (oi := ⟨some 30, _, _, _, _, _⟩) rfl (by kernel_rfl) (by kernel_rfl) (by kernel_rfl) (fun _ _ _ h => h) (Or.inr ⟨by rfl, rfl⟩) (by assumption) ?_
    try simp only [Act.put, List.setIfInBounds_toArray, List.set_cons_zero, List.set_cons_succ]
    refine wpAnyH_take (i := 9) (oi := ⟨some 31, _, _, _, _, _⟩) rfl (by kernel_rfl) (by kernel_rfl) (by kernel_rfl) (fun _ _ _ h => h) (Or.inr ⟨by rfl, rfl⟩) (by assumption) ?_
    try simp only [Act.put, List.setIfInBounds_toArray, List.set_cons_zero, List.set_cons_succ]
    refine wpAnyH_take (i := 10) (oi := ⟨some 32, _, _, _, _, _⟩) rfl (by kernel_rfl) (by kernel_rfl) (by kernel_rfl) (fun _ _ _ h => h) (Or.inr ⟨by rfl, rfl⟩) (by assumption) ?_
    try simp only [Act.put, List.setIfInBounds_toArray, List.set_cons_zero, List.set_cons_succ]
    refine wpAnyH_take (i := 11) (oi := ⟨some 33, _, _, _, _, _⟩) rfl (by kernel_rfl) (by kernel_rfl) (by kernel_rfl) (fun _ _ _ h => h) (Or.inr ⟨by rfl, rfl⟩) (by assumption) ?_
    try simp only [Act.put, List.setIfInBounds_toArray, List.set_cons_zero, List.set_cons_succ]
    refine wpAnyH_take (i := 12) (oi := ⟨some 34, _, _, _, _, _⟩) rfl (by kernel_rfl) (by kernel_rfl) (by kernel_rfl) (fun _ _ _ h => h) (Or.inr ⟨by rfl, rfl⟩) (by assumption) ?_
    try simp only [Act.put, List.setIfInBounds_toArray, List.set_cons_zero, List.set_cons_succ]
    refine wpAnyH_take (i := 13) (oi := ⟨some 35, _, _, _, _, _⟩) rfl (by kernel_rfl) (by kernel_rfl) (by kernel_rfl) (fun _ _ _ h => h) (Or.inr ⟨by rfl, rfl⟩) (by assumption) ?_
    try simp only [Act.put, List.setIfInBounds_toArray, List.set_cons_zero, List.set_cons_succ]
    refine wpAnyH_take (i := 14) (oi := ⟨some 36, _, _, _, _, _⟩) (v := ?_) rfl (by kernel_rfl) (by kernel_rfl) (by kernel_rfl) (fun _ _ _ h => h) (Or.inl ⟨by rfl, ?_⟩) (by assumption) ?_
    rotate_left
    · (intro w hSw; (try dsimp only at hSw); obtain ⟨kc0, kc1, klc, kd0, kd1, kld, ke0, ke1, ke2, kle⟩ := hSw.cells; (go_simp <;> with_reducible rfl))
    try simp only [Act.put, List.setIfInBounds_toArray, List.set_cons_zero, List.set_cons_succ]
    refine wpAnyH_done (by kernel_rfl) ?_ _
    refine NoPanic.normal ?_
    obtain ⟨w5, hw5⟩ : ∃ w5, w5 = W4.drew := ⟨_, rfl⟩
    have S5 : WkS q3 q4 q7 s gg kl ki 0 a l.length 0 w5 := by rw [hw5]; exact S4d
    have B5 : Hid (Below W4.heap.size W4 w5) := by show Below _ _ _; rw [hw5]; exact (Below.refl W4.heap.size W4).drew
    rw [← hw5]
    clear hw5
  case' inr =>
    subst hkl
    have hg0 : (0 : Int) ≤ lv := by omega
    have hd0 : decide ((0 : Int) ≤ lv) = true := decide_eq_true hg0
    go_upto_region 4 with fail
    refine wp_region_noPanic ?_
    refine wp_region_held_drew (S := WkS q3 q4 q7 s gg kl ki 0 a l.length 0) (by kernel_rfl) (S4d) (fun hHeld => ?_)
    refine wpAnyH_take (i := 0) (oi := ⟨some 22, _, _, _, _, _⟩) (v := ?_) rfl (by kernel_rfl) (by kernel_rfl) (by kernel_rfl) (fun _ _ _ h => h) (Or.inl ⟨by rfl, ?_⟩) (by assumption) ?_
    rotate_left
    · (intro w hSw; (try dsimp only at hSw); obtain ⟨kc0, kc1, klc, kd0, kd1, kld, ke0, ke1, ke2, kle⟩ := hSw.cells; (go_simp <;> with_reducible rfl))
    try simp only [Act.put, List.setIfInBounds_toArray, List.set_cons_zero, List.set_cons_succ]
    refine wpAnyH_take (i := 1) (oi := ⟨some 23, _, _, _, _, _⟩) (v := ?_) rfl (by kernel_rfl) (by kernel_rfl) (by kernel_rfl) (fun _ _ _ h => h) (Or.inl ⟨by rfl, ?_⟩) (by assumption) ?_
    rotate_left
    · (intro w hSw; (try dsimp only at hSw); obtain ⟨kc0, kc1, klc, kd0, kd1, kld, ke0, ke1, ke2, kle⟩ := hSw.cells; (go_simp <;> with_reducible rfl))
    try simp only [Act.put, List.setIfInBounds_toArray, List.set_cons_zero, List.set_cons_succ]
    refine wpAnyH_take (i := 2) (oi := ⟨some 24, _, _, _, _, _⟩) (v := ?_) rfl (by kernel_rfl) (by kernel_rfl) (by kernel_rfl) (fun _ _ _ h => h) (Or.inl ⟨by rfl, ?_⟩) (by assumption) ?_
    rotate_left
    · (intro w hSw; (try dsimp only at hSw); obtain ⟨kc0, kc1, klc, kd0, kd1, kld, ke0, ke1, ke2, kle⟩ := hSw.cells; (go_simp <;> with_reducible rfl))
    try simp only [Act.put, List.setIfInBounds_toArray, List.set_cons_zero, List.set_cons_succ]
    refine wpAnyH_take (i := 3) (oi := ⟨some 25, _, _, _, _, _⟩) (v := ?_) rfl (by kernel_rfl) (by kernel_rfl) (by kernel_rfl) (fun _ _ _ h => h) (Or.inl ⟨by rfl, ?_⟩) (by assumption) ?_
    rotate_left
    · (intro w hSw; (try dsimp only at hSw); obtain ⟨kc0, kc1, klc, kd0, kd1, kld, ke0, ke1, ke2, kle⟩ := hSw.cells; (go_simp <;> with_reducible rfl))
    try simp only [Act.put, List.setIfInBounds_toArray, List.set_cons_zero, List.set_cons_succ]
    refine wpAnyH_take (i := 4) (oi := ⟨some 26, _, _, _, _, _⟩) (v := ?_) rfl (by kernel_rfl) (by kernel_rfl) (by kernel_rfl) (fun _ _ _ h => h) (Or.inl ⟨by rfl, ?_⟩) (by assumption) ?_
    rotate_left
    · (intro w hSw; (try dsimp only at hSw); obtain ⟨kc0, kc1, klc, kd0, kd1, kld, ke0, ke1, ke2, kle⟩ := hSw.cells; (go_simp <;> with_reducible rfl))
    try simp only [Act.put, List.setIfInBounds_toArray, List.set_cons_zero, List.set_cons_succ]
    refine wpAnyH_take (i := 5) (oi := ⟨some 27, _, _, _, _, _⟩) (v := ?_) rfl (by kernel_rfl) (by kernel_rfl) (by kernel_rfl) (fun _ _ _ h => h) (Or.inl ⟨by rfl, ?_⟩) (by assumption) ?_
    rotate_left
    · (intro w hSw; (try dsimp only at hSw); obtain ⟨kc0, kc1, klc, kd0, kd1, kld, ke0, ke1, ke2, kle⟩ := hSw.cells; (go_simp <;> with_reducible rfl))
    try simp only [Act.put, List.setIfInBounds_toArray, List.set_cons_zero, List.set_cons_succ]
    refine wpAnyH_take (i := 6) (oi := ⟨some 28, _, _, _, _, _⟩) (v := ?_) rfl (by kernel_rfl) (by kernel_rfl) (by kernel_rfl) (fun _ _ _ h => h) (Or.inl ⟨by rfl, ?_⟩) (by assumption) ?_
    rotate_left
    · (intro w hSw; (try dsimp only at hSw); obtain ⟨kc0, kc1, klc, kd0, kd1, kld, ke0, ke1, ke2, kle⟩ := hSw.cells; (go_simp <;> with_reducible rfl))
    try simp only [Act.put, List.setIfInBounds_toArray, List.set_cons_zero, List.set_cons_succ]
    refine wpAnyH_take (i := 7) (oi := ⟨some 29, _, _, _, _, _⟩) (v := ?_) rfl (by kernel_rfl) (by kernel_rfl) (by kernel_rfl) (fun _ _ _ h => h) (Or.inl ⟨by rfl, ?_⟩) (by assumption) ?_
    rotate_left
    · (intro w hSw; (try dsimp only at hSw); obtain ⟨kc0, kc1, klc, kd0, kd1, kld, ke0, ke1, ke2, kle⟩ := hSw.cells; (go_simp <;> with_reducible rfl))
    try simp only [Act.put, List.setIfInBounds_toArray, List.set_cons_zero, List.set_cons_succ]
    refine wpAnyH_take (i := 8) (oi := ⟨some 30, _, _, _, _, _⟩) (v := ?_) rfl (by kernel_rfl) (by kernel_rfl) (by kernel_rfl) (fun _ _ _ h => h) (Or.inl ⟨by rfl, ?_⟩) (by assumption) ?_
    rotate_left
    · (intro w hSw; (try dsimp only at hSw); obtain ⟨kc0, kc1, klc, kd0, kd1, kld, ke0, ke1, ke2, kle⟩ := hSw.cells; (go_simp <;> with_reducible rfl))
    try simp only [Act.put, List.setIfInBounds_toArray, List.set_cons_zero, List.set_cons_succ]
    refine wpAnyH_take (i := 10) (oi := ⟨some 32, _, _, _, _, _⟩) (v := ?_) rfl (by kernel_rfl) (by kernel_rfl) (by kernel_rfl) (fun _ _ _ h => h) (Or.inl ⟨by rfl, ?_⟩) (by assumption) ?_
    rotate_left
    · (intro w hSw; (try dsimp only at hSw); obtain ⟨kc0, kc1, klc, kd0, kd1, kld, ke0, ke1, ke2, kle⟩ := hSw.cells; (go_simp <;> with_reducible rfl))
    try simp only [Act.put, List.setIfInBounds_toArray, List.set_cons_zero, List.set_cons_succ]
    refine wpAnyH_take (i := 11) (oi := ⟨some 33, _, _, _, _, _⟩) (v := ?_) rfl (by kernel_rfl) (by kernel_rfl) (by kernel_rfl) (fun _ _ _ h => h) (Or.inl ⟨by rfl, ?_⟩) (by assumption) ?_
    rotate_left
    · (intro w hSw; (try dsimp only at hSw); obtain ⟨kc0, kc1, klc, kd0, kd1, kld, ke0, ke1, ke2, kle⟩ := hSw.cells; (go_simp <;> with_reducible rfl))
    try simp only [Act.put, List.setIfInBounds_toArray, List.set_cons_zero, List.set_cons_succ]
    refine wpAnyH_ready (rs := [9]) (by kernel_rfl) (by simp) ?_
    refine AllReadyH.cons rfl (fun K hK => ?_) AllReadyH.nil
    go_simp
    go_at_call 57
    refine (nodeLast_calls W4.drew a ⟨((0 : Nat) : Int), l, []⟩ N4d.out).mono ?_
    rintro e w5 ⟨rfl, hb5⟩
    rw [HKL.out]
    have S5 := S4d.below hb5
    have B5 := Lib.hid (bl_then (Below.refl W4.heap.size W4).drew (Nat.le_refl _) hb5)
    clear hb5
    refine hK.out _ _ (by assumption) (fun _ => ?_)
    clear hK K
    try simp only [Act.put, List.setIfInBounds_toArray, List.set_cons_zero, List.set_cons_succ]
    refine wpAnyH_take (i := 12) (oi := ⟨some 34, _, _, _, _, _⟩) (v := ?_) rfl (by kernel_rfl) (by kernel_rfl) (by kernel_rfl) (fun _ _ _ h => h) (Or.inl ⟨by rfl, ?_⟩) (by assumption) ?_
    rotate_left
    · (intro w hSw; (try dsimp only at hSw); obtain ⟨kc0, kc1, klc, kd0, kd1, kld, ke0, ke1, ke2, kle⟩ := hSw.cells; (go_simp <;> with_reducible rfl))
    try simp only [Act.put, List.setIfInBounds_toArray, List.set_cons_zero, List.set_cons_succ]
    refine wpAnyH_take (i := 13) (oi := ⟨some 35, _, _, _, _, _⟩) (v := ?_) rfl (by kernel_rfl) (by kernel_rfl) (by kernel_rfl) (fun _ _ _ h => h) (Or.inl ⟨by rfl, ?_⟩) (by assumption) ?_
    rotate_left
    · (intro w hSw; (try dsimp only at hSw); obtain ⟨kc0, kc1, klc, kd0, kd1, kld, ke0, ke1, ke2, kle⟩ := hSw.cells; (go_simp <;> with_reducible rfl))
    try simp only [Act.put, List.setIfInBounds_toArray, List.set_cons_zero, List.set_cons_succ]
    refine wpAnyH_take (i := 14) (oi := ⟨some 36, _, _, _, _, _⟩) (v := ?_) rfl (by kernel_rfl) (by kernel_rfl) (by kernel_rfl) (fun _ _ _ h => h) (Or.inl ⟨by rfl, ?_⟩) (by assumption) ?_
    rotate_left
    · (intro w hSw; (try dsimp only at hSw); obtain ⟨kc0, kc1, klc, kd0, kd1, kld, ke0, ke1, ke2, kle⟩ := hSw.cells; (go_simp <;> with_reducible rfl))
    try simp only [Act.put, List.setIfInBounds_toArray, List.set_cons_zero, List.set_cons_succ]
    refine wpAnyH_done (by kernel_rfl) ?_ _
    refine NoPanic.normal ?_
  all_goals
    have S5d : WkS q3 q4 q7 s gg kl ki 0 a l.length 0 w5.drew := S5.below (Below.refl w5.heap.size w5).drew
    have B5d : Hid (Below W4.heap.size W4 w5.drew) := bl_then B5.out B5.out.size (Below.refl w5.heap.size w5).drew
    have N5d := Lib.hid (N4.out.below B5d.out)
    have T5d := Lib.hid (HG.out.chg (Below.chg (bl_then B4.out B4.out.size B5d.out) fun _ => False) (fun _ _ h => h))
    obtain ⟨f0, f1, fl, i0, i1, il, j0, j1, j2, jl⟩ := S5.cells
    clear c0 c1 cl d0 d1 dl e0 e1 e2 el S4 S4d
    go_upto_region 6 with fail
    refine wp_region_noPanic ?_
    refine wp_region_held_drew (S := WkS q3 q4 q7 s gg kl ki 0 a l.length 0) (by kernel_rfl) (S5d) (fun hHeld => ?_)
    refine wpAnyH_take (i := 0) (oi := ⟨some 37, _, _, _, _, _⟩) (v := ?_) rfl (by kernel_rfl) (by kernel_rfl) (by kernel_rfl) (fun _ _ _ h => h) (Or.inl ⟨by rfl, ?_⟩) (by assumption) ?_
    rotate_left
    · (intro w hSw; (try dsimp only at hSw); obtain ⟨kc0, kc1, klc, kd0, kd1, kld, ke0, ke1, ke2, kle⟩ := hSw.cells; (go_simp <;> with_reducible rfl))
    try simp only [Act.put, List.setIfInBounds_toArray, List.set_cons_zero, List.set_cons_succ]
    refine wpAnyH_take (i := 1) (oi := ⟨some 38, _, _, _, _, _⟩) (v := ?_) rfl (by kernel_rfl) (by kernel_rfl) (by kernel_rfl) (fun _ _ _ h => h) (Or.inl ⟨by rfl, ?_⟩) (by assumption) ?_
    rotate_left
    · (intro w hSw; (try dsimp only at hSw); obtain ⟨kc0, kc1, klc, kd0, kd1, kld, ke0, ke1, ke2, kle⟩ := hSw.cells; (go_simp <;> with_reducible rfl))
    try simp only [Act.put, List.setIfInBounds_toArray, List.set_cons_zero, List.set_cons_succ]
    refine wpAnyH_take (i := 2) (oi := ⟨some 39, _, _, _, _, _⟩) (v := ?_) rfl (by kernel_rfl) (by kernel_rfl) (by kernel_rfl) (fun _ _ _ h => h) (Or.inl ⟨by rfl, ?_⟩) (by assumption) ?_
    rotate_left
    · (intro w hSw; (try dsimp only at hSw); obtain ⟨kc0, kc1, klc, kd0, kd1, kld, ke0, ke1, ke2, kle⟩ := hSw.cells; (go_simp <;> with_reducible rfl))
    try simp only [Act.put, List.setIfInBounds_toArray, List.set_cons_zero, List.set_cons_succ]
    refine wpAnyH_take (i := 4) (oi := ⟨some 41, _, _, _, _, _⟩) (v := ?_) rfl (by kernel_rfl) (by kernel_rfl) (by kernel_rfl) (fun _ _ _ h => h) (Or.inl ⟨by rfl, ?_⟩) (by assumption) ?_
    rotate_left
    · (intro w hSw; (try dsimp only at hSw); obtain ⟨kc0, kc1, klc, kd0, kd1, kld, ke0, ke1, ke2, kle⟩ := hSw.cells; (go_simp <;> with_reducible rfl))
    try simp only [Act.put, List.setIfInBounds_toArray, List.set_cons_zero, List.set_cons_succ]
    refine wpAnyH_take (i := 5) (oi := ⟨some 42, _, _, _, _, _⟩) (v := ?_) rfl (by kernel_rfl) (by kernel_rfl) (by kernel_rfl) (fun _ _ _ h => h) (Or.inl ⟨by rfl, ?_⟩) (by assumption) ?_
    rotate_left
    · (intro w hSw; (try dsimp only at hSw); obtain ⟨kc0, kc1, klc, kd0, kd1, kld, ke0, ke1, ke2, kle⟩ := hSw.cells; (go_simp <;> with_reducible rfl))
    try simp only [Act.put, List.setIfInBounds_toArray, List.set_cons_zero, List.set_cons_succ]
    refine wpAnyH_take (i := 7) (oi := ⟨some 44, _, _, _, _, _⟩) (v := ?_) rfl (by kernel_rfl) (by kernel_rfl) (by kernel_rfl) (fun _ _ _ h => h) (Or.inl ⟨by rfl, ?_⟩) (by assumption) ?_
    rotate_left
    · (intro w hSw; (try dsimp only at hSw); obtain ⟨kc0, kc1, klc, kd0, kd1, kld, ke0, ke1, ke2, kle⟩ := hSw.cells; (go_simp <;> with_reducible rfl))
    try simp only [Act.put, List.setIfInBounds_toArray, List.set_cons_zero, List.set_cons_succ]
    refine wpAnyH_ready (rs := [3]) (by kernel_rfl) (by simp) ?_
    refine AllReadyH.cons rfl (fun K hK => ?_) AllReadyH.nil
    go_simp
    go_at_call 57
    refine (nodeLast_calls w5.drew a ⟨((0 : Nat) : Int), l, []⟩ N5d.out).mono ?_
    rintro e w6 ⟨rfl, hb6⟩
    have S6 := S5d.below hb6
    have T6 := Lib.hid (T5d.out.chg (Below.chg hb6 fun _ => False) (fun _ _ h => h))
    have N6 := Lib.hid (N5d.out.below hb6)
    have B6 := Lib.hid (bl_then B5d.out B5d.out.size hb6)
    clear hb6
    refine hK.out _ _ (by assumption) (fun _ => ?_)
    clear hK K
    try simp only [Act.put, List.setIfInBounds_toArray, List.set_cons_zero, List.set_cons_succ]
    refine wpAnyH_take (i := 6) (oi := ⟨some 43, _, _, _, _, _⟩) (v := ?_) rfl (by kernel_rfl) (by kernel_rfl) (by kernel_rfl) (fun _ _ _ h => h) (Or.inl ⟨by rfl, ?_⟩) (by assumption) ?_
    rotate_left
    · (intro w hSw; (try dsimp only at hSw); obtain ⟨kc0, kc1, klc, kd0, kd1, kld, ke0, ke1, ke2, kle⟩ := hSw.cells; (go_simp <;> with_reducible rfl))
    try simp only [Act.put, List.setIfInBounds_toArray, List.set_cons_zero, List.set_cons_succ]
    refine wpAnyH_ready (rs := [8]) (by kernel_rfl) (by simp) ?_
    refine AllReadyH.cons rfl (fun K hK => ?_) AllReadyH.nil
    go_simp
    go_at_call 149
    refine (allLeaf_calls w6 G gg mm ue uk E KL L T6.out _ ki _ a l rfl HNE.out HAG.out hl100 hlE1 hlK1 N6.out).mono ?_
    rintro e w8 ⟨rfl, ue8, uk8, hx8⟩
    have X8 := Lib.hid hx8
    have S8 := S6.chg hx8.chgd HQG.out
    clear hx8
    refine hK.out _ _ (by assumption) (fun _ => ?_)
    clear hK K
    try simp only [Act.put, List.setIfInBounds_toArray, List.set_cons_zero, List.set_cons_succ]
    refine wpAnyH_done (by kernel_rfl) ?_ _
    refine NoPanic.normal ?_
    obtain ⟨c0, c1, cl, d0, d1, dl, e0, e1, e2, el⟩ := S8.cells
    clear f0 f1 fl i0 i1 il j0 j1 j2 jl S5 S5d S6
    go_wp2
    go_loopg [49] 0 (fun m i wr => i = .int .i64 0 ∧ wr = w8)
    case atStart => exact ⟨rfl, rfl⟩
    case round =>
      obtain ⟨rfl, rfl⟩ := hrel
      go_wp2
      go_ret
      have hl1 : 1 ≤ l.length := List.length_pos_iff.2 HNE.out
      exact ⟨rfl, ue8, uk8, _, _, X8.out.since (bl_then B4.out B4.out.size B6.out), by simp; omega⟩
end Go.Proofs.YtikgplhcadomcaaGreat
