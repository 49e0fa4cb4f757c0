/- The reference's device: NewDev. -/
import Derived.Test.YtglpckdmiohciaaRefK
namespace Go.Proofs.Ytglpckdmiohciaa
open Go.RowKit
set_option linter.unusedVariables false
set_option linter.unusedSimpArgs false

def Rv.new (n : Nat) : Rv := ⟨List.replicate n sec0, [], List.replicate n false, -1, false⟩
/-- What NewDev hands back. -/
def RefNewR (w w' : World) (n : Int) (e : Ending) : Prop := ∃ g F G, e = .returned (.pointer (some ⟨g, 0, none⟩)) ∧ RefAt w' g F G (Rv.new n.toNat) ∧ (∀ i, G i → w.heap.size ≤ i) ∧ Below w.heap.size w w'
section
variable {w w' : World} {g : Nat} {F G : Nat → Prop} {X : Rv}
theorem own_ne {α β : Type} {enc : α → List Value} {enc' : β → List Value} {sz sz' e e' base base' : Nat} {u v : Value} {xs : List α} {ys : List β} (h : Own enc sz e base w u xs) (k : Own enc' sz' e' base' w v ys) (hne : e ≠ e') : u.ownBlock = none ∨ u.ownBlock ≠ v.ownBlock := by
  rcases hu : u.ownBlock with _ | j
  · exact .inl rfl
  · right
    intro ev
    obtain ⟨c, hj⟩ := own_elem h j hu
    obtain ⟨c', hj'⟩ := own_elem k j ev.symm
    rw [hj] at hj'
    cases hj'
    exact hne rfl
theorem own_neB {α : Type} {enc : α → List Value} {sz e e' base : Nat} {u : Value} {xs : List α} {cs : Array Value} {fr : Nat × Nat} (h : Own enc sz e base w u xs) {b : Nat} (k : w.heap[b]? = some (.cells cs e' fr)) (hne : e ≠ e') : u.ownBlock ≠ some b := fun ev => by
  obtain ⟨c, hj⟩ := own_elem h b ev
  rw [hj] at k
  cases k
  exact hne rfl
/-- One more sector. -/
theorem RefIn.pushS {sv cv bv v : Value} {xs : List SV} {cs : List CV} (h : RefIn w g F G X sv cv bv xs cs) {W W7 : World} (hb : Below w.heap.size w W) (hg : W.grownBy W7 sv.ownBlock) {M : Nat} (hM : w.heap.size ≤ M) {t : TypeId} {fr : Nat × Nat} (hMb : W.heap[M]? = some (.cells (secCells sec0).toArray t fr))
    (ho : Own SV.enc 1 38 0 W7 v (xs ++ [⟨some ⟨M, 0, none⟩, 32, sec0⟩])) (hv : ∀ k, v.ownBlock = some k → sv.ownBlock = some k ∨ W.heap.size ≤ k) : RefDid F G w (W7.setCell ⟨g, 0, none⟩ v) g { X with S := X.S ++ [sec0] } := by
  have h3 := h.below hb
  have hs := hb.size
  have hs7 := hg.size
  have hMl := blk_lt hMb
  have hgl := h.f6 g (h.f5 g h.f4)
  have ng := own_neB h3.o1 h3.blk (by decide)
  have b7 : W7.heap[g]? = some (.cells (X.cells sv cv bv) 74 (0, 0)) := by
    rw [hg.block g (by omega) (fun e => ng e.symm)]
    exact h3.blk
  have hc : Chg F w (W7.setCell ⟨g, 0, none⟩ v) := ((Below.chg hb F).trans (Chg.grownO hg (fun k e => h.f1 k e)) (fun _ _ h => h)).trans (Chg.set W7 v h.f4) (fun _ _ h => h)
  have own1 : ∀ k, sv.ownBlock = some k → k < w.heap.size := fun k hk => h.f6 k (h.f5 k (h.f1 k hk))
  have M7 : (W7.setCell ⟨g, 0, none⟩ v).heap[M]? = some (.cells (secCells sec0).toArray t fr) := blk_far (by rw [hg.block M hMl (fun e => by have := own1 M e.symm; omega)]; exact hMb) (show M ≠ g by omega) v
  have k2 := h3.o2.kept hg (own_ne h3.o2 h3.o1 (by decide))
  have k3 := h3.o3.kept hg (own_ne h3.o3 h3.o1 (by decide))
  refine RefAt.put (F' := fun i => F i ∨ v.ownBlock = some i) (G' := fun i => G i ∨ i = M ∨ v.ownBlock = some i) ⟨sv, cv, bv, xs, cs, h⟩ _ v cv bv (xs ++ [⟨some ⟨M, 0, none⟩, 32, sec0⟩]) cs (blk_set' b7 0 v rfl) (ho.far (p := ⟨g, 0, none⟩) (own_neB ho b7 (by decide)) v) (k2.far (p := ⟨g, 0, none⟩) (own_neB k2 b7 (by decide)) v)
    (k3.far (p := ⟨g, 0, none⟩) (own_neB k3 b7 (by decide)) v) (by rw [List.map_append, h.e1]; rfl) h.e2 (fun x hx => ?_) (fun x hx => (h.i2 x hx).own hc (fun i hi q => q.elim (fun q => q) (fun q => ?_)) (fun i q => .inl q)) (fun k hk => .inr hk) (fun k hk => .inl (h.f2 k hk)) (fun k hk => .inl (h.f3 k hk)) (.inl h.f4)
    (fun i hi => hi.elim (fun q => .inl (h.f5 i q)) (fun q => .inr (.inr q))) (fun i hi => ?_) h.f7 hc (fun i hi => hi.elim .inl (fun q => (hv i q).elim (fun q => .inl (h.f1 i q)) (fun q => .inr (by omega)))) (fun i hi => hi.elim .inl (fun q => q.elim (fun q => .inr (by omega)) (fun q => (hv i q).elim (fun q => .inl (h.f5 i (h.f1 i q))) (fun q => .inr (by omega)))))
  · rcases List.mem_append.1 hx with hx | hx
    · exact (h.i1 x hx).own hc (fun i hi q => q.elim (fun q => q) (fun q => (hv i q).elim (h.f1 i) (fun q => by omega))) (fun i q => .inl q)
    · simp at hx
      subst hx
      refine ⟨M, 0, rfl, blk_lt M7, rd_sec M7, fun q => q.elim (fun q => by have := h.f6 M (h.f5 M q); omega) (fun q => (hv M q).elim (fun q => by have := own1 M q; omega) (fun q => by omega)), .inr (.inl rfl), Nat.le_refl _⟩
  · exact (hv i q).elim (h.f1 i) (fun q => by omega)
  · have hz : (W7.setCell ⟨g, 0, none⟩ v).heap.size = W7.heap.size := by simp [World.setCell]
    rw [hz]
    rcases hi with hi | rfl | hi
    · have := h.f6 i hi; omega
    · omega
    · exact (ho.lt i hi).2
/-- One more bit. -/
theorem RefIn.pushB {sv cv bv v : Value} {xs : List SV} {cs : List CV} (h : RefIn w g F G X sv cv bv xs cs) {W W7 : World} (hb : Below w.heap.size w W) (hg : W.grownBy W7 bv.ownBlock) (b : Bool)
    (ho : Own boolEnc 1 4 0 W7 v (X.bad ++ [b])) (hv : ∀ k, v.ownBlock = some k → bv.ownBlock = some k ∨ W.heap.size ≤ k) : RefDid F G w (W7.setCell ⟨g, 2, none⟩ v) g { X with bad := X.bad ++ [b] } := by
  have h3 := h.below hb
  have hs := hb.size
  have hs7 := hg.size
  have hgl := h.f6 g (h.f5 g h.f4)
  have ng := own_neB h3.o3 h3.blk (by decide)
  have b7 : W7.heap[g]? = some (.cells (X.cells sv cv bv) 74 (0, 0)) := by
    rw [hg.block g (by omega) (fun e => ng e.symm)]
    exact h3.blk
  have hc : Chg F w (W7.setCell ⟨g, 2, none⟩ v) := ((Below.chg hb F).trans (Chg.grownO hg (fun k e => h.f3 k e)) (fun _ _ h => h)).trans (Chg.set W7 v h.f4) (fun _ _ h => h)
  have own1 : ∀ k, bv.ownBlock = some k → k < w.heap.size := fun k hk => h.f6 k (h.f5 k (h.f3 k hk))
  have k1 := h3.o1.kept hg (own_ne h3.o1 h3.o3 (by decide))
  have k2 := h3.o2.kept hg (own_ne h3.o2 h3.o3 (by decide))
  have nF : ∀ i, i < w.heap.size → (F i ∨ v.ownBlock = some i) → F i := fun i hi q => q.elim (fun q => q) (fun q => (hv i q).elim (h.f3 i) (fun q => by omega))
  refine RefAt.put (F' := fun i => F i ∨ v.ownBlock = some i) (G' := fun i => G i ∨ v.ownBlock = some i) ⟨sv, cv, bv, xs, cs, h⟩ _ sv cv v xs cs (blk_set' b7 2 v rfl) (k1.far (p := ⟨g, 2, none⟩) (own_neB k1 b7 (by decide)) v) (k2.far (p := ⟨g, 2, none⟩) (own_neB k2 b7 (by decide)) v)
    (ho.far (p := ⟨g, 2, none⟩) (own_neB ho b7 (by decide)) v) h.e1 h.e2 (fun x hx => (h.i1 x hx).own hc nF (fun i q => .inl q)) (fun x hx => (h.i2 x hx).own hc nF (fun i q => .inl q)) (fun k hk => .inl (h.f1 k hk)) (fun k hk => .inl (h.f2 k hk)) (fun k hk => .inr hk) (.inl h.f4)
    (fun i hi => hi.elim (fun q => .inl (h.f5 i q)) (fun q => .inr q)) (fun i hi => ?_) h.f7 hc (fun i hi => hi.elim .inl (fun q => (hv i q).elim (fun q => .inl (h.f3 i q)) (fun q => .inr (by omega)))) (fun i hi => hi.elim .inl (fun q => (hv i q).elim (fun q => .inl (h.f5 i (h.f3 i q))) (fun q => .inr (by omega))))
  have hz : (W7.setCell ⟨g, 2, none⟩ v).heap.size = W7.heap.size := by simp [World.setCell]
  rw [hz]
  rcases hi with hi | hi
  · have := h.f6 i hi; omega
  · exact (ho.lt i hi).2
set_option maxRecDepth 100000 in
set_option maxHeartbeats 8000000 in
theorem refNew_calls (w : World) (n : Int) (hn : n ≤ 1000) : Calls Try.prog 40 #[.int .i64 n] w fun e w' => RefNewR w w' n e := by
  have H0 : Hid (RefAt (w.alloc (.cells #[.slice none 0 0, .slice none 0 0, .slice none 0 0, .int .i64 (-1), .bool false] 74)) w.heap.size (fun i => i = w.heap.size) (fun i => i = w.heap.size) (Rv.new 0)) :=
    ⟨_, _, _, [], [], ⟨blk_new w _, Own.nil, Own.nil, Own.nil, rfl, rfl, (fun x hx => by cases hx), (fun x hx => by cases hx), (fun k hk => by cases hk), (fun k hk => by cases hk), (fun k hk => by cases hk), rfl, fun i hi => hi, fun i hi => by subst hi; simp, ⟨Int.le_refl _, (by decide : (-1 : Int) ≤ 9223372036854775807)⟩⟩⟩
  have B0 : Hid (Below w.heap.size w (w.alloc (.cells #[.slice none 0 0, .slice none 0 0, .slice none 0 0, .int .i64 (-1), .bool false] 74))) := bl_alloc (Below.refl _ w) _
  go_enter Try.func40, Try.ntmps40
  go_wp2_with fail
  go_loopg [4] n.toNat (fun m i wr => ∃ k : Nat, i = .int .i64 k ∧ k + m = n.toNat ∧ Hid (∃ F G, RefAt wr w.heap.size F G (Rv.new k) ∧ ∀ i, G i → w.heap.size ≤ i) ∧ Hid (Below w.heap.size w wr))
  case atStart => exact ⟨0, rfl, by omega, ⟨_, _, H0.out, fun i hi => Nat.le_of_eq hi.symm⟩, B0.out⟩
  case round =>
    obtain ⟨k, rfl, hk, hx, hbl⟩ := hrel
    rcases Nat.lt_or_ge k n.toNat with hlt | hge
    · obtain ⟨F, G, ⟨sv, cv, bv, xs, cs, hin⟩, hG⟩ := hx.out
      have i1 : (k : Int) < n := by omega
      have i2 : (k : Int) < 65536 := by omega
      have hlx : Hid (xs.length = k) := by show _ = _; have := congrArg List.length hin.e1; simpa [Rv.new] using this
      obtain ⟨A, a, rfl, ha, hab, _, _⟩ := hin.o1.rd SV.ok
      have HI := Lib.hid hin
      have HG := Lib.hid hG
      have HIs : Hid (∀ i, F i → G i) := hin.f5
      have hyl : w.heap.size < wr.heap.size := blk_lt hin.blk
      have HC : Hid (∀ W, Below wr.heap.size wr W → W.cell? ⟨w.heap.size, 0, none⟩ = some (.slice A xs.length a) ∧ W.frozen? ⟨w.heap.size, 0, none⟩ = false) := fun W hW => by
        have hin2 := HI.out.below hW
        exact ⟨by rw [blk_cell hin2.blk]; rfl, blk_free hin2.blk 0⟩
      have hb0 : Hid (Below wr.heap.size wr wr.drew) := (Below.refl _ wr).drew
      have hy0 : Hid (wr.drew.cell? ⟨w.heap.size, 0, none⟩ = some (.slice A xs.length a) ∧ wr.drew.frozen? ⟨w.heap.size, 0, none⟩ = false) := HC.out _ hb0.out
      clear hin hG hx
      go_wp2_with fail
      refine wp_region_noPanic ?_
      refine wp_regionZ 10 (fun W => Hid (W.cell? ⟨w.heap.size, 0, none⟩ = some (.slice A xs.length a) ∧ W.frozen? ⟨w.heap.size, 0, none⟩ = false)) (by kernel_rfl) ?_
      refine AnyZ.takeU [10, 9, 8] (i := 0) (oi := ⟨some 16, _, _, _, _, _⟩) (v := ?_) rfl (by kernel_rfl) (by kernel_rfl) (by kernel_rfl) (by kernel_rfl) (by kernel_rfl) (by kernel_rfl) (fun _ _ _ h => h) (Or.inl ⟨by rfl, ?_⟩) (by assumption) ?_
      rotate_left
      · (intro w hSw; (try dsimp only at hSw); have kk := hSw.out; have kk0 := kk.1; (go_simp <;> with_reducible rfl))
      try simp only [Act.put, List.setIfInBounds_toArray, List.set_cons_zero, List.set_cons_succ]
      refine AnyZ.takeU [10, 7, 4, 3, 2] (i := 1) (oi := ⟨some 17, _, _, _, _, _⟩) (v := ?_) rfl (by kernel_rfl) (by kernel_rfl) (by kernel_rfl) (by kernel_rfl) (by kernel_rfl) (by kernel_rfl) (fun _ _ _ h => h) (Or.inl ⟨by rfl, ?_⟩) (by assumption) ?_
      rotate_left
      · (intro w hSw; (try dsimp only at hSw); have kk := hSw.out; have kk0 := kk.1; (go_simp <;> with_reducible rfl))
      try simp only [Act.put, List.setIfInBounds_toArray, List.set_cons_zero, List.set_cons_succ]
      refine AnyZ.takeU [10, 7, 4, 3] (i := 2) (oi := ⟨some 18, _, _, _, _, _⟩) (v := ?_) rfl (by kernel_rfl) (by kernel_rfl) (by kernel_rfl) (by kernel_rfl) (by kernel_rfl) (by kernel_rfl) (fun _ _ _ h => h) (Or.inl ⟨by rfl, ?_⟩) (by assumption) ?_
      rotate_left
      · (intro w hSw; (try dsimp only at hSw); have kk := hSw.out; have kk0 := kk.1; (go_simp <;> with_reducible rfl))
      try simp only [Act.put, List.setIfInBounds_toArray, List.set_cons_zero, List.set_cons_succ]
      refine AnyZ.takeU [10, 7, 4] (i := 3) (oi := ⟨some 19, _, _, _, _, _⟩) (v := ?_) rfl (by kernel_rfl) (by kernel_rfl) (by kernel_rfl) (by kernel_rfl) (by kernel_rfl) (by kernel_rfl) (fun _ _ _ h => h) (Or.inl ⟨by rfl, ?_⟩) (by assumption) ?_
      rotate_left
      · (intro w hSw; (try dsimp only at hSw); have kk := hSw.out; have kk0 := kk.1; (go_simp <;> with_reducible rfl))
      try simp only [Act.put, List.setIfInBounds_toArray, List.set_cons_zero, List.set_cons_succ]
      refine AnyZ.takeU [10, 7] (i := 4) (oi := ⟨some 20, _, _, _, _, _⟩) (v := ?_) rfl (by kernel_rfl) (by kernel_rfl) (by kernel_rfl) (by kernel_rfl) (by kernel_rfl) (by kernel_rfl) (fun _ _ _ h => h) (Or.inl ⟨by rfl, ?_⟩) (by assumption) ?_
      rotate_left
      · (intro w hSw; (try dsimp only at hSw); have kk := hSw.out; have kk0 := kk.1; (go_simp <;> with_reducible rfl))
      try simp only [Act.put, List.setIfInBounds_toArray, List.set_cons_zero, List.set_cons_succ]
      have mk : (Instr.makeSlice 38 (.int .i64 32) (.int .i64 32)).run Try.prog wr.drew = .ok (.slice (some ⟨wr.heap.size, 0, none⟩) 32 32) (wr.alloc (.cells (secCells sec0).toArray 5)).drew := run_make32 wr.drew
      have M1 : Hid ((wr.alloc (.cells (secCells sec0).toArray 5)).drew.heap[wr.heap.size]? = some (.cells (secCells sec0).toArray 5 (0, 0))) := blk_new wr.drew _
      have hB1 : Hid (Below wr.heap.size wr (wr.alloc (.cells (secCells sec0).toArray 5)).drew) := bl_alloc hb0.out _
      have hs1 : Hid ((wr.alloc (.cells (secCells sec0).toArray 5)).drew.heap.size = wr.heap.size + 1) := by show _ = _; simp
      generalize hW1 : (wr.alloc (.cells (secCells sec0).toArray 5)).drew = W1 at M1 hB1 hs1 mk
      refine AnyZ.one (i := 5) (by kernel_rfl) rfl (fun K hK => ?_)
      go_simp
      refine hK.out _ _ (.inr (HC.out _ hB1.out)) ?_
      clear hK K
      try simp only [Act.put, List.setIfInBounds_toArray, List.set_cons_zero, List.set_cons_succ]
      clear mk hW1
      have hB2 : Hid (Below wr.heap.size wr (W1.alloc (.cells #[.slice (some ⟨wr.heap.size, 0, none⟩) 32 32] 38))) := hB1.out.alloc hB1.out.size _
      have M2 : Hid ((W1.alloc (.cells #[.slice (some ⟨wr.heap.size, 0, none⟩) 32 32] 38)).heap[wr.heap.size]? = some (.cells (secCells sec0).toArray 5 (0, 0))) := blk_below (bl_alloc (Below.refl _ W1) _) M1.out (blk_lt M1.out)
      have R2 : Hid (Rd SV.enc 1 (W1.alloc (.cells #[.slice (some ⟨wr.heap.size, 0, none⟩) 32 32] 38)) (some ⟨W1.heap.size, 0, none⟩) [(⟨some ⟨wr.heap.size, 0, none⟩, 32, sec0⟩ : SV)]) := Rd.lit (blk_new _ _) rfl
      generalize hW2 : W1.alloc (.cells #[.slice (some ⟨wr.heap.size, 0, none⟩) 32 32] 38) = W2 at M2 hB2 R2
      refine AnyZ.one (i := 6) (by kernel_rfl) rfl (fun K hK => ?_)
      go_simp
      refine hK.out _ _ (.inr (HC.out _ hB2.out)) ?_
      clear hK K
      try simp only [Act.put, List.setIfInBounds_toArray, List.set_cons_zero, List.set_cons_succ]
      clear hW2
      have t3 : Hid (([⟨some ⟨wr.heap.size, 0, none⟩, 32, sec0⟩] : List SV) ≠ []) := by show _ ≠ _; simp
      have HO2 := Lib.hid (HI.out.o1.below hB2.out)
      have l1 : Hid ((xs.length + 1) * 24 ≤ 140737488355328) := by show _ ≤ _; have := hlx.out; omega
      have l2 : Hid (xs.length + 1 ≤ 140737488355328) := by show _ ≤ _; have := hlx.out; omega
      refine AnyZ.one (i := 7) (by kernel_rfl) rfl (fun K hK => ?_)
      refine at_step rfl (op_ownN SV.ok (.tmp 20) (.tmp 22) _ _ _ _ rfl Try.underlying71 infoBS rfl 0 (.slice A xs.length a) xs (some ⟨W1.heap.size, 0, none⟩) 1 [⟨some ⟨wr.heap.size, 0, none⟩, 32, sec0⟩] 1 rfl t3.out rfl rfl HO2.out R2.out (Nat.zero_le _) l1.out l2.out ?_)
      intro g7 cap7 w7 ho7 hg7 hat7 hlt7
      have hlt2 : wr.heap.size < W2.heap.size := blk_lt M2.out
      have hS7 : Hid (RefDid F G wr (w7.setCell ⟨w.heap.size, 0, none⟩ (.slice (some ⟨g7, 0, none⟩) (xs.length + 1) cap7)) w.heap.size { Rv.new k with S := (Rv.new k).S ++ [sec0] }) :=
        HI.out.pushS hB2.out hg7 (Nat.le_refl _) M2.out ho7 (fun j hj => by
          simp only [Value.ownBlock, Option.some.injEq] at hj
          subst hj
          exact hat7)
      have hy7 : Hid (w7.cell? ⟨w.heap.size, 0, none⟩ = some (.slice A xs.length a) ∧ w7.frozen? ⟨w.heap.size, 0, none⟩ = false) := by
        have hin2 := HI.out.below hB2.out
        have e := hg7.block w.heap.size (by omega) (fun e => own_neB hin2.o1 hin2.blk (by decide) e.symm)
        exact ⟨(World.cell?_of_block e).trans (by rw [blk_cell hin2.blk]; rfl), (World.frozen?_of_block e).trans (blk_free hin2.blk 0)⟩
      refine hK.out _ _ (.inr hy7) ?_
      clear hK K
      try simp only [Act.put, List.setIfInBounds_toArray, List.set_cons_zero, List.set_cons_succ]
      have kk0 := hy7.out.1
      have kf := hy7.out.2
      refine AnyZ.one (i := 8) (by kernel_rfl) rfl (fun K hK => ?_)
      go_simp
      refine hK.out _ _ (.inr hy7) ?_
      clear hK K
      try simp only [Act.put, List.setIfInBounds_toArray, List.set_cons_zero, List.set_cons_succ]
      refine AnyZ.one (i := 9) (by kernel_rfl) rfl (fun K hK => ?_)
      go_simp
      refine hK.out _ _ (.inr hy7) ?_
      clear hK K
      try simp only [Act.put, List.setIfInBounds_toArray, List.set_cons_zero, List.set_cons_succ]
      refine AnyZ.one (i := 10) (by kernel_rfl) rfl (fun K hK => ?_)
      go_simp
      refine hK.out _ _ (.inl rfl) ?_
      clear hK K
      try simp only [Act.put, List.setIfInBounds_toArray, List.set_cons_zero, List.set_cons_succ]
      refine AnyZ.done (by kernel_rfl) ?_ _
      refine NoPanic.normal ?_
      have hsz : wr.heap.size < (w7.setCell ⟨w.heap.size, 0, none⟩ (.slice (some ⟨g7, 0, none⟩) (xs.length + 1) cap7)).heap.size := by
        have := hg7.size
        simp only [World.setCell, Array.size_modify]
        omega
      clear kk0 kf hy7 hat7 hlt7 hg7 ho7 hlt2 HO2 R2 M2 hB2 M1 hB1 hs1 hy0 HI HC
      generalize w7.setCell ⟨w.heap.size, 0, none⟩ (.slice (some ⟨g7, 0, none⟩) (xs.length + 1) cap7) = W8 at hS7 hsz ⊢
      have hlb : Hid ((Rv.new k).bad.length = k) := by show _ = _; simp [Rv.new]
      obtain ⟨bads, hbads⟩ : ∃ l, l = (Rv.new k).bad := ⟨_, rfl⟩
      rw [← hbads] at hlb
      have hS8 : Hid (RefDid F G wr W8 w.heap.size { Rv.new k with S := (Rv.new k).S ++ [sec0], bad := bads }) := by
        show RefDid _ _ _ _ _ _
        rw [hbads]
        exact hS7.out
      replace hbads := Lib.hid hbads
      clear hS7
      obtain ⟨F2, G2, ⟨sv2, cv2, bv2, xs2, cs2, hin2⟩, ch2, s2, t2⟩ := hS8.out
      obtain ⟨B, b, rfl, hbl2, hbb, _, _⟩ := hin2.o3.rd boolOk
      have HI2 := Lib.hid hin2
      have y2 : W8.cell? ⟨w.heap.size, 2, none⟩ = some (.slice B bads.length b) := by rw [blk_cell hin2.blk]; rfl
      have hB3 : Hid (Below W8.heap.size W8 (W8.alloc (.cells #[.bool false] 4))) := bl_alloc (Below.refl _ W8) _
      have y3 : (W8.alloc (.cells #[.bool false] 4)).cell? ⟨w.heap.size, 2, none⟩ = some (.slice B bads.length b) := (hB3.out.cell (by exact blk_lt hin2.blk)).trans y2
      have R3 : Hid (Rd boolEnc 1 (W8.alloc (.cells #[.bool false] 4)) (some ⟨W8.heap.size, 0, none⟩) [false]) := Rd.lit (blk_new _ _) rfl
      have HO3 := Lib.hid (hin2.o3.below hB3.out)
      have t4 : Hid (([false] : List Bool) ≠ []) := by show _ ≠ _; simp
      have l3 : Hid ((bads.length + 1) * 1 ≤ 140737488355328) := by show _ ≤ _; rw [hlb.out]; omega
      have l4 : Hid (bads.length + 1 ≤ 140737488355328) := by show _ ≤ _; rw [hlb.out]; omega
      have CH2 := Lib.hid ch2
      have S2 := Lib.hid s2
      have T2 := Lib.hid t2
      clear hin2 ch2 s2 t2 hS8
      have HY9 : Hid (∀ w9, (W8.alloc (.cells #[.bool false] 4)).grownBy w9 (Value.slice B bads.length b).ownBlock → w9.cell? ⟨w.heap.size, 2, none⟩ = some (.slice B bads.length b) ∧ w9.frozen? ⟨w.heap.size, 2, none⟩ = false) := fun w9 hg9 => by
        have hin3 := HI2.out.below hB3.out
        have e := hg9.block w.heap.size (blk_lt hin3.blk) (fun e => own_neB hin3.o3 hin3.blk (by decide) e.symm)
        exact ⟨(World.cell?_of_block e).trans (by rw [blk_cell hin3.blk]; rfl), (World.frozen?_of_block e).trans (blk_free hin3.blk 2)⟩
      go_wp2_with (at_builtin; refine at_list rfl (fun K hK => op_ownN boolOk (.tmp 30) (.tmp 31) _ _ _ _ rfl Try.underlying45 infoBl rfl 0 (.slice B bads.length b) bads (some ⟨W8.heap.size, 0, none⟩) 1 [false] 1 rfl t4.out rfl rfl HO3.out R3.out (Nat.zero_le _) l3.out l4.out ?_); intro g9 cap9 w9 ho9 hg9 hat9 hlt9; have y9 := (HY9.out _ hg9).1; have f9 := (HY9.out _ hg9).2; refine hK _ _ ?_)
      have hd9 := ((HI2.out.pushB hB3.out hg9 false ho9 (fun j hj => by
        simp only [Value.ownBlock, Option.some.injEq] at hj
        subst hj
        exact hat9)).after CH2.out S2.out T2.out)
      obtain ⟨F9, G9, h9, c9, s9, t9⟩ := hd9
      have hX : ({ S := (Rv.new k).S ++ [sec0], cache := (Rv.new k).cache, bad := bads ++ [false], left := (Rv.new k).left, dead := (Rv.new k).dead } : Rv) = Rv.new (k + 1) := by
        rw [hbads.out]
        simp only [Rv.new, List.replicate_succ']
      rw [hX] at h9
      have hGF := HIs.out
      have H9 : Hid (∃ F G, RefAt (w9.setCell ⟨w.heap.size, 2, none⟩ (.slice (some ⟨g9, 0, none⟩) (bads.length + 1) cap9)) w.heap.size F G (Rv.new (k + 1)) ∧ ∀ i, G i → w.heap.size ≤ i) := ⟨F9, G9, h9, fun i hi => (t9 i hi).elim (HG.out i) (fun q => by omega)⟩
      have B9 : Hid (Below w.heap.size w (w9.setCell ⟨w.heap.size, 2, none⟩ (.slice (some ⟨g9, 0, none⟩) (bads.length + 1) cap9))) := bl_chg hbl.out hbl.out.size c9 (fun i hi => HG.out i (hGF i hi))
      clear h9 c9 s9 t9 hX hGF
      go_roundg (gk - 1)
      case measure => omega
      case rel => exact ⟨k + 1, by go_num, by omega, H9.out, B9.out⟩
    · obtain rfl : k = n.toNat := by omega
      have i1 : ¬ ((n.toNat : Nat) : Int) < n := by omega
      go_wp2_with fail
      go_ret
      obtain ⟨F, G, h, hG⟩ := hx.out
      exact ⟨w.heap.size, F, G, rfl, h, hG, hbl.out⟩
end
end Go.Proofs.Ytglpckdmiohciaa
