/- The reference's device: Write. -/
import Derived.Test.YtglpckdmiohciaaRef1
import Derived.Deep.RegionLaw
import Derived.Test.YtglpckdmiohciaaHeld
import Derived.Deep.RegionHeld3
namespace Go.Proofs.Ytglpckdmiohciaa
open Go.RowKit
set_option linter.unusedVariables false
set_option linter.unusedSimpArgs false

theorem infoCW : (Try.prog.info? 148).map (fun i => (i.zero, i.size, i.bytes)) = some (some (.agg #[.int .i64 0, .slice none 0 0]), 2, 32) := by kernel_rfl
theorem infoBS : (Try.prog.info? 38).map (fun i => (i.zero, i.size, i.bytes)) = some (some (.slice none 0 0), 1, 24) := by kernel_rfl
theorem infoBl : (Try.prog.info? 4).map (fun i => (i.zero, i.size, i.bytes)) = some (some (.bool false), 1, 1) := by kernel_rfl
theorem infoU : (Try.prog.info? 5).map (fun i => (i.zero, i.size, i.bytes)) = some (some (.int .u8 0), 1, 1) := by kernel_rfl
section
variable {w : World} {g : Nat} {F G : Nat → Prop} {X : Rv}
/-- The cache has grown into a row of its own. -/
theorem RefIn.pushed {sv cv bv : Value} {xs : List SV} {cs : List CV} (h : RefIn w g F G X sv cv bv xs cs) {W2 W3 : World} (hb : Below w.heap.size w W3) {A : Nat} {c1 : Nat} {s : Sec} {p : Int} {v : Value} (hA : w.heap.size ≤ A) (hAl : A < W3.heap.size) (hr : Rd by1 1 W3 (some ⟨A, 0, none⟩) s.1) (hc1 : 32 ≤ c1)
    (ho : Own CV.enc 2 148 w.heap.size W3 v (cs ++ [⟨p, some ⟨A, 0, none⟩, c1, s⟩])) (hne : v.ownBlock ≠ some A) : RefDid F G w (W3.setCell ⟨g, 1, none⟩ v) g { X with cache := X.cache ++ [⟨p, s⟩] } := by
  have hg : W3.grownBy (W3.setCell ⟨g, 1, none⟩ v) (some g) := grown_set _ _ _ _
  have h3 := h.below hb
  have hgl := h.f6 g (h.f5 g h.f4)
  have hc : Chg F w (W3.setCell ⟨g, 1, none⟩ v) := (Below.chg hb F).trans (Chg.set W3 v h.f4) (fun i _ hi => hi)
  have hown : ∀ k, v.ownBlock = some k → w.heap.size ≤ k ∧ k < W3.heap.size := fun k hk => ho.lt k hk
  have ne : ∀ u : Value, ∀ e, e ≠ 74 → (∀ k, u.ownBlock = some k → ∃ c, W3.heap[k]? = some (.cells c e (0, 0))) → u.ownBlock = none ∨ u.ownBlock ≠ some g := fun u e he hu => by
    rcases hh : u.ownBlock with _ | j
    · exact .inl rfl
    · right
      intro ej
      injection ej with ej
      obtain ⟨c, hj⟩ := hu j hh
      rw [ej, h3.blk] at hj
      cases hj
      exact he rfl
  have hs := hb.size
  refine RefAt.put (F' := fun i => F i ∨ v.ownBlock = some i) (G' := fun i => G i ∨ (w.heap.size ≤ i ∧ i < W3.heap.size)) ⟨sv, cv, bv, xs, cs, h⟩ _ sv v bv xs _ (blk_set' h3.blk 1 v rfl) (h3.o1.kept hg (ne sv _ (by decide) (own_elem h3.o1))) ((ho.mono (Nat.zero_le _)).kept hg (ne v _ (by decide) (own_elem ho))) (h3.o3.kept hg (ne bv _ (by decide) (own_elem h3.o3))) h.e1 (by rw [List.map_append, h.e2]; rfl)
    (fun x hx => ?_) (fun x hx => ?_) (fun k hk => .inl (h.f1 k hk)) (fun k hk => .inr hk) (fun k hk => .inl (h.f3 k hk)) (.inl h.f4) (fun i hi => hi.elim (fun q => .inl (h.f5 i q)) (fun q => .inr (hown i q))) (fun i hi => ?_) h.f7 hc (fun i hi => hi.imp_right (fun q => (hown i q).1)) (fun i hi => hi.imp_right And.left)
  · exact (h.i1 x hx).own hc (fun i hi q => q.elim (fun q => q) (fun q => by have := (hown i q).1; omega)) (fun i q => .inl q)
  · rcases List.mem_append.1 hx with hx | hx
    · exact (h.i2 x hx).own hc (fun i hi q => q.elim (fun q => q) (fun q => by have := (hown i q).1; omega)) (fun i q => .inl q)
    · simp at hx
      subst hx
      refine ⟨A, 0, rfl, by simpa [World.setCell] using hAl, hr.far (fun a ha => by cases ha; show A ≠ g; omega) v, fun q => q.elim (fun q => by have := h.f6 A (h.f5 A q); omega) (fun q => hne q), .inr ⟨hA, hAl⟩, hc1⟩
  · have : (W3.setCell ⟨g, 1, none⟩ v).heap.size = W3.heap.size := by simp [World.setCell]
    rw [this]
    rcases hi with hi | hi
    · have := h.f6 i hi
      omega
    · exact hi.2
theorem ract_n (X : Rv) : X.act.2.S = X.S ∧ X.act.2.cache = X.cache ∧ X.act.2.bad = X.bad := by
  unfold Rv.act
  repeat' split
  all_goals exact ⟨rfl, rfl, rfl⟩
set_option maxRecDepth 100000 in
set_option maxHeartbeats 8000000 in
theorem refWrite_calls (h : RefAt w g F G X) (p : Int) (A : Option Addr) (c : Nat) (b : List Int) (hb : Rd by1 1 w A b) (hbb : byteL b) (hbl : b.length ≤ c) (hA : b ≠ [] → ∀ a, A = some a → ¬ F a.block) (hcl : X.cache.length ≤ 1000000000000) :
    Calls Try.prog 41 #[.pointer (some ⟨g, 0, none⟩), .int .i64 p, .slice A b.length c] w fun e w' => e = .returned (.int .i64 (X.write p b).1) ∧ RefDid F G w w' g (X.write p b).2 := by
  have hhas := Lib.hid (refHas_calls h p)
  have hact := Lib.hid (refAct_calls h)
  have HD := Lib.hid (RefDid.refl h)
  have HR := Lib.hid hb
  have HA := Lib.hid hA
  obtain ⟨_, _, _, _, _, _, _, _, -, -, -, -, c4, -⟩ := h.cells
  clear hb hA h
  go_enter Try.func41, Try.ntmps41
  rcases hd : X.dead with _ | _
  case' true =>
    rw [hd] at c4
    go_wp2
    go_ret
    exact ⟨ret_int (by simp [Rv.write, hd]), by simpa [Rv.write, hd] using HD.out⟩
  rw [hd] at c4
  go_wp2_with fail
  refine hhas.out.mono ?_
  rintro e w1 ⟨rfl, rfl⟩
  rcases hp : X.has p with _ | _
  case' false =>
    go_wp2
    go_ret
    exact ⟨ret_int (by simp [Rv.write, hd, hp]), by simpa [Rv.write, hd, hp] using HD.out⟩
  rcases (Decidable.em (b.length = 32)) with h32 | h32
  case' inr =>
    go_wp2
    go_ret
    exact ⟨ret_int (by simp [Rv.write, hd, hp, h32]), by simpa [Rv.write, hd, hp, h32] using HD.out⟩
  go_wp2_with fail
  refine hact.out.mono ?_
  rintro e w1 ⟨rfl, hdid⟩
  have hbd : b.length = 32 ∧ ∀ x ∈ b, 0 ≤ x ∧ x ≤ 255 := ⟨h32, hbb⟩
  rcases ha : X.act.1 with _ | _
  case' false =>
    have hw : X.write p b = (40, X.act.2) := by
      unfold Rv.write
      rw [if_neg (by simp [hd]), dif_pos ⟨hp, hbd⟩, if_neg (by simp [ha])]
    go_wp2
    go_ret
    exact ⟨ret_int (by rw [hw]), by rw [hw]; exact hdid⟩
  obtain ⟨s, rfl⟩ : ∃ s : Sec, b = s.1 := ⟨⟨b, hbd⟩, rfl⟩
  clear hbd
  have hw : X.write p s.1 = (0, { X.act.2 with cache := X.act.2.cache ++ [⟨p, s⟩] }) := by
    unfold Rv.write
    rw [if_neg (by simp [hd]), dif_pos ⟨hp, s.2⟩, if_pos ha]
  have HW := Lib.hid hw
  have hcl2 : X.act.2.cache.length ≤ 1000000000000 := by rw [(ract_n X).2.1]; exact hcl
  generalize X.act.2 = Y at *
  clear hw
  obtain ⟨F1, G1, ⟨sv, cv, bv, xs, cs, hin⟩, ch, s1, t1⟩ := hdid
  obtain ⟨B, bc, rfl, hbc, hbig, hro, _⟩ := hin.o2.rd CV.ok
  have hlen : cs.length = Y.cache.length := by rw [← hin.e2, List.length_map]
  have hsne : s.1 ≠ [] := fun e => by rw [e] at h32; simp at h32
  have hcell : Rd by1 1 w1 A s.1 := HR.out.chg ch (HA.out hsne)
  have k1 : w1.cell? ⟨g, 1, none⟩ = some (.slice B cs.length bc) := by rw [blk_cell hin.blk]; rfl
  have hgl := hin.f6 g (hin.f5 g hin.f4)
  have kf : w1.frozen? ⟨g, 1, none⟩ = false := blk_free hin.blk 1
  have HRO := Lib.hid hro
  have HCE := Lib.hid hcell
  have HI := Lib.hid hin
  have HFin : Hid (∀ (w4 : World) (c1 : Nat) (v : Value), Below w1.heap.size w1 w4 → w1.heap.size < w4.heap.size → Rd by1 1 w4 (some ⟨w1.heap.size, 0, none⟩) s.1 → 32 ≤ c1 → Own CV.enc 2 148 w1.heap.size w4 v (cs ++ [⟨p, some ⟨w1.heap.size, 0, none⟩, c1, s⟩]) → v.ownBlock ≠ some w1.heap.size →
      RefDid F G w (w4.setCell ⟨g, 1, none⟩ v) g { Y with cache := Y.cache ++ [⟨p, s⟩] }) := fun w4 c1 v a1 a2 a3 a4 a5 a6 => (hin.pushed (W2 := w1) a1 (Nat.le_refl _) a2 a3 a4 a5 a6).after ch s1 t1
  have q0 : Hid (0 < 0 + s.1.length) := by show _ < _; omega
  have q1 : Hid ((0 + s.1.length) * 1 ≤ 140737488355328) := by show _ ≤ _; omega
  have q2 : Hid (0 + s.1.length ≤ 140737488355328) := by show _ ≤ _; omega
  have q3 : Hid (cs.length < cs.length + 1) := Nat.lt_succ_self _
  have q4 : Hid ((cs.length + 1) * 32 ≤ 140737488355328) := by show _ ≤ _; omega
  have q5 : Hid (cs.length + 1 ≤ 140737488355328) := by show _ ≤ _; omega
  have z0 : Hid (([] : List Int).length = 0) := rfl
  clear HA HR hact hhas HD hcell hro hin hbig s1 t1 ch hlen
  go_wp2_with fail
  go_cut [6] (fun s6 wx => RefDid F G w wx g { Y with cache := Y.cache ++ [⟨p, s⟩] })
  case first =>
    have i0 : (0 : Int) ≤ (cs.length : Int) := by omega
    have i1 : (cs.length : Int) ≤ (bc : Int) := by omega
    have HC : Hid (∀ W, Below w1.heap.size w1 W → W.cell? ⟨g, 1, none⟩ = some (.slice B cs.length bc) ∧ W.frozen? ⟨g, 1, none⟩ = false) := fun W hW => ⟨(hW.cell (by exact hgl)).trans k1, (hW.frozen (by exact hgl)).trans kf⟩
    have hb0 : Hid (Below w1.heap.size w1 w1.drew) := (Below.refl _ w1).drew
    have hz : Hid (w1.drew.heap.size = w1.heap.size) := rfl
    refine wp_region_noPanic ?_
    refine wp_regionZ 24 (fun W => Hid (Below w1.heap.size w1 W)) (by kernel_rfl) ?_
    refine AnyZ.take (i := 0) (oi := ⟨some 23, _, _, _, _, _⟩) (v := ?_) rfl rfl (by kernel_rfl) (by kernel_rfl) (by kernel_rfl) (by kernel_rfl) (fun _ _ _ h => h) (Or.inl ⟨by rfl, ?_⟩) (by assumption) ?_
    rotate_left
    · (intro w hSw; (try dsimp only at hSw); have kk := (HC.out _ hSw.out).1; (go_simp <;> with_reducible rfl))
    try simp only [Act.put, List.setIfInBounds_toArray, List.set_cons_zero, List.set_cons_succ]
    refine AnyZ.take (i := 1) (oi := ⟨some 24, _, _, _, _, _⟩) (v := ?_) rfl rfl (by kernel_rfl) (by kernel_rfl) (by kernel_rfl) (by kernel_rfl) (fun _ _ _ h => h) (Or.inl ⟨by rfl, ?_⟩) (by assumption) ?_
    rotate_left
    · (intro w hSw; (try dsimp only at hSw); have kk := (HC.out _ hSw.out).1; (go_simp <;> with_reducible rfl))
    try simp only [Act.put, List.setIfInBounds_toArray, List.set_cons_zero, List.set_cons_succ]
    refine AnyZ.take (i := 2) (oi := ⟨some 25, _, _, _, _, _⟩) (v := ?_) rfl rfl (by kernel_rfl) (by kernel_rfl) (by kernel_rfl) (by kernel_rfl) (fun _ _ _ h => h) (Or.inl ⟨by rfl, ?_⟩) (by assumption) ?_
    rotate_left
    · (intro w hSw; (try dsimp only at hSw); have kk := (HC.out _ hSw.out).1; (go_simp <;> with_reducible rfl))
    try simp only [Act.put, List.setIfInBounds_toArray, List.set_cons_zero, List.set_cons_succ]
    refine AnyZ.take (i := 3) (oi := ⟨some 26, _, _, _, _, _⟩) (v := ?_) rfl rfl (by kernel_rfl) (by kernel_rfl) (by kernel_rfl) (by kernel_rfl) (fun _ _ _ h => h) (Or.inl ⟨by rfl, ?_⟩) (by assumption) ?_
    rotate_left
    · (intro w hSw; (try dsimp only at hSw); have kk := (HC.out _ hSw.out).1; (go_simp <;> with_reducible rfl))
    try simp only [Act.put, List.setIfInBounds_toArray, List.set_cons_zero, List.set_cons_succ]
    refine AnyZ.take (i := 4) (oi := ⟨some 27, _, _, _, _, _⟩) (v := ?_) rfl rfl (by kernel_rfl) (by kernel_rfl) (by kernel_rfl) (by kernel_rfl) (fun _ _ _ h => h) (Or.inl ⟨by rfl, ?_⟩) (by assumption) ?_
    rotate_left
    · (intro w hSw; (try dsimp only at hSw); have kk := (HC.out _ hSw.out).1; (go_simp <;> with_reducible rfl))
    try simp only [Act.put, List.setIfInBounds_toArray, List.set_cons_zero, List.set_cons_succ]
    refine AnyZ.take (i := 5) (oi := ⟨some 28, _, _, _, _, _⟩) (v := ?_) rfl rfl (by kernel_rfl) (by kernel_rfl) (by kernel_rfl) (by kernel_rfl) (fun _ _ _ h => h) (Or.inl ⟨by rfl, ?_⟩) (by assumption) ?_
    rotate_left
    · (intro w hSw; (try dsimp only at hSw); have kk := (HC.out _ hSw.out).1; (go_simp <;> with_reducible rfl))
    try simp only [Act.put, List.setIfInBounds_toArray, List.set_cons_zero, List.set_cons_succ]
    refine AnyZ.take (i := 6) (oi := ⟨some 29, _, _, _, _, _⟩) (v := ?_) rfl rfl (by kernel_rfl) (by kernel_rfl) (by kernel_rfl) (by kernel_rfl) (fun _ _ _ h => h) (Or.inl ⟨by rfl, ?_⟩) (by assumption) ?_
    rotate_left
    · (intro w hSw; (try dsimp only at hSw); have kk := (HC.out _ hSw.out).1; (go_simp <;> with_reducible rfl))
    try simp only [Act.put, List.setIfInBounds_toArray, List.set_cons_zero, List.set_cons_succ]
    refine AnyZ.take (i := 7) (oi := ⟨some 30, _, _, _, _, _⟩) (v := ?_) rfl rfl (by kernel_rfl) (by kernel_rfl) (by kernel_rfl) (by kernel_rfl) (fun _ _ _ h => h) (Or.inl ⟨by rfl, ?_⟩) (by assumption) ?_
    rotate_left
    · (intro w hSw; (try dsimp only at hSw); have kk := (HC.out _ hSw.out).1; (go_simp <;> with_reducible rfl))
    try simp only [Act.put, List.setIfInBounds_toArray, List.set_cons_zero, List.set_cons_succ]
    refine AnyZ.take (i := 8) (oi := ⟨some 31, _, _, _, _, _⟩) (v := ?_) rfl rfl (by kernel_rfl) (by kernel_rfl) (by kernel_rfl) (by kernel_rfl) (fun _ _ _ h => h) (Or.inl ⟨by rfl, ?_⟩) (by assumption) ?_
    rotate_left
    · (intro w hSw; (try dsimp only at hSw); have kk := (HC.out _ hSw.out).1; (go_simp <;> with_reducible rfl))
    try simp only [Act.put, List.setIfInBounds_toArray, List.set_cons_zero, List.set_cons_succ]
    refine AnyZ.take (i := 9) (oi := ⟨some 32, _, _, _, _, _⟩) (v := ?_) rfl rfl (by kernel_rfl) (by kernel_rfl) (by kernel_rfl) (by kernel_rfl) (fun _ _ _ h => h) (Or.inl ⟨by rfl, ?_⟩) (by assumption) ?_
    rotate_left
    · (intro w hSw; (try dsimp only at hSw); have kk := (HC.out _ hSw.out).1; (go_simp <;> with_reducible rfl))
    try simp only [Act.put, List.setIfInBounds_toArray, List.set_cons_zero, List.set_cons_succ]
    refine AnyZ.take (i := 10) (oi := ⟨some 33, _, _, _, _, _⟩) (v := ?_) rfl rfl (by kernel_rfl) (by kernel_rfl) (by kernel_rfl) (by kernel_rfl) (fun _ _ _ h => h) (Or.inl ⟨by rfl, ?_⟩) (by assumption) ?_
    rotate_left
    · (intro w hSw; (try dsimp only at hSw); have kk := (HC.out _ hSw.out).1; (go_simp <;> with_reducible rfl))
    try simp only [Act.put, List.setIfInBounds_toArray, List.set_cons_zero, List.set_cons_succ]
    refine AnyZ.take (i := 11) (oi := ⟨some 34, _, _, _, _, _⟩) (v := ?_) rfl rfl (by kernel_rfl) (by kernel_rfl) (by kernel_rfl) (by kernel_rfl) (fun _ _ _ h => h) (Or.inl ⟨by rfl, ?_⟩) (by assumption) ?_
    rotate_left
    · (intro w hSw; (try dsimp only at hSw); have kk := (HC.out _ hSw.out).1; (go_simp <;> with_reducible rfl))
    try simp only [Act.put, List.setIfInBounds_toArray, List.set_cons_zero, List.set_cons_succ]
    refine AnyZ.take (i := 12) (oi := ⟨some 35, _, _, _, _, _⟩) (v := ?_) rfl rfl (by kernel_rfl) (by kernel_rfl) (by kernel_rfl) (by kernel_rfl) (fun _ _ _ h => h) (Or.inl ⟨by rfl, ?_⟩) (by assumption) ?_
    rotate_left
    · (intro w hSw; (try dsimp only at hSw); have kk := (HC.out _ hSw.out).1; (go_simp <;> with_reducible rfl))
    try simp only [Act.put, List.setIfInBounds_toArray, List.set_cons_zero, List.set_cons_succ]
    refine AnyZ.take (i := 13) (oi := ⟨some 36, _, _, _, _, _⟩) (v := ?_) rfl rfl (by kernel_rfl) (by kernel_rfl) (by kernel_rfl) (by kernel_rfl) (fun _ _ _ h => h) (Or.inl ⟨by rfl, ?_⟩) (by assumption) ?_
    rotate_left
    · (intro w hSw; (try dsimp only at hSw); have kk := (HC.out _ hSw.out).1; (go_simp <;> with_reducible rfl))
    try simp only [Act.put, List.setIfInBounds_toArray, List.set_cons_zero, List.set_cons_succ]
    refine AnyZ.take (i := 14) (oi := ⟨some 37, _, _, _, _, _⟩) (v := ?_) rfl rfl (by kernel_rfl) (by kernel_rfl) (by kernel_rfl) (by kernel_rfl) (fun _ _ _ h => h) (Or.inl ⟨by rfl, ?_⟩) (by assumption) ?_
    rotate_left
    · (intro w hSw; (try dsimp only at hSw); have kk := (HC.out _ hSw.out).1; (go_simp <;> with_reducible rfl))
    try simp only [Act.put, List.setIfInBounds_toArray, List.set_cons_zero, List.set_cons_succ]
    refine AnyZ.take (i := 15) (oi := ⟨some 38, _, _, _, _, _⟩) (v := ?_) rfl rfl (by kernel_rfl) (by kernel_rfl) (by kernel_rfl) (by kernel_rfl) (fun _ _ _ h => h) (Or.inl ⟨by rfl, ?_⟩) (by assumption) ?_
    rotate_left
    · (intro w hSw; (try dsimp only at hSw); have kk := (HC.out _ hSw.out).1; (go_simp <;> with_reducible rfl))
    try simp only [Act.put, List.setIfInBounds_toArray, List.set_cons_zero, List.set_cons_succ]
    refine AnyZ.take (i := 16) (oi := ⟨some 39, _, _, _, _, _⟩) (v := ?_) rfl rfl (by kernel_rfl) (by kernel_rfl) (by kernel_rfl) (by kernel_rfl) (fun _ _ _ h => h) (Or.inl ⟨by rfl, ?_⟩) (by assumption) ?_
    rotate_left
    · (intro w hSw; (try dsimp only at hSw); have kk := (HC.out _ hSw.out).1; (go_simp <;> with_reducible rfl))
    try simp only [Act.put, List.setIfInBounds_toArray, List.set_cons_zero, List.set_cons_succ]
    refine AnyZ.take (i := 17) (oi := ⟨some 40, _, _, _, _, _⟩) (v := ?_) rfl rfl (by kernel_rfl) (by kernel_rfl) (by kernel_rfl) (by kernel_rfl) (fun _ _ _ h => h) (Or.inl ⟨by rfl, ?_⟩) (by assumption) ?_
    rotate_left
    · (intro w hSw; (try dsimp only at hSw); have kk := (HC.out _ hSw.out).1; (go_simp <;> with_reducible rfl))
    try simp only [Act.put, List.setIfInBounds_toArray, List.set_cons_zero, List.set_cons_succ]
    refine AnyZ.one (i := 18) (by kernel_rfl) rfl (fun K hK => ?_)
    refine at_step rfl (op_grow by1ok (.const (.slice none 0 0)) (.tmp 40) _ _ _ _ rfl Try.underlying38 infoU rfl none A 0 c [] s.1 0 32 z0.out s.2.1 rfl rfl (.inl rfl) HCE.out (by decide) (by decide) (by decide) w1.heap.size hz.out ?_)
    intro cap2 w2 ho2 hb2 hlt2
    have B2 : Hid (Below w1.heap.size w1 w2) := bl_then hb0.out hb0.out.size hb2
    refine hK.out _ _ (.inr B2) ?_
    clear hK K
    try simp only [Act.put, List.setIfInBounds_toArray, List.set_cons_zero, List.set_cons_succ]
    refine AnyZ.take (i := 19) (oi := ⟨some 42, _, _, _, _, _⟩) (v := ?_) rfl rfl (by kernel_rfl) (by kernel_rfl) (by kernel_rfl) (by kernel_rfl) (fun _ _ _ h => h) (Or.inl ⟨by rfl, ?_⟩) (by assumption) ?_
    rotate_left
    · (intro w hSw; (try dsimp only at hSw); have kk := (HC.out _ hSw.out).1; (go_simp <;> with_reducible rfl))
    try simp only [Act.put, List.setIfInBounds_toArray, List.set_cons_zero, List.set_cons_succ]
    refine AnyZ.one (i := 20) (by kernel_rfl) rfl (fun K hK => ?_)
    go_simp
    have B2a : Hid (Below w1.heap.size w1 (w2.alloc (.cells #[.int .i64 p, .slice (some ⟨w1.heap.size, 0, none⟩) 32 cap2] 148))) := B2.out.alloc B2.out.size _
    refine hK.out _ _ (.inr B2a) ?_
    clear hK K
    try simp only [Act.put, List.setIfInBounds_toArray, List.set_cons_zero, List.set_cons_succ]
    refine AnyZ.one (i := 21) (by kernel_rfl) rfl (fun K hK => ?_)
    refine at_step rfl (op_grow CV.ok (.tmp 38) (.tmp 43) _ _ _ _ rfl Try.underlying72 infoCW rfl B (some ⟨w2.heap.size, 0, none⟩) cs.length 1 cs [⟨p, some ⟨w1.heap.size, 0, none⟩, cap2, s⟩] cs.length 1 rfl rfl rfl rfl (HRO.out.below B2a.out (Nat.le_refl _)) (Rd.lit (blk_new _ _) rfl) q3.out q4.out q5.out (w2.heap.size + 1) (World.size_alloc _ _) ?_)
    intro cap3 w3 ho3 hb3 hlt3
    have B3 : Hid (Below w1.heap.size w1 w3) := bl_then B2a.out B2a.out.size hb3
    have HE : Hid (RefDid F G w (w3.setCell ⟨g, 1, none⟩ (.slice (some ⟨w2.heap.size + 1, 0, none⟩) (cs.length + 1) cap3)) g { Y with cache := Y.cache ++ [⟨p, s⟩] }) := by
      have hz2 := B2.out.size
      have hr2 := (ho2.rd' by1ok).2.2.2.1
      have hc2 := (ho2.rd' by1ok).2.1
      refine HFin.out w3 cap2 _ B3.out (by have := B3.out.size; have := hb3.size; simp at this; omega) ?_ (by simpa [s.2.1] using hc2) ?_ (by simp [Value.ownBlock]; omega)
      · exact (hr2.below (bl_alloc (Below.refl _ w2) _) (Nat.le_refl _)).below hb3 (by simp)
      · exact ho3.mono (by simp; omega)
    have kk3 := HC.out _ B3.out
    have k3 := kk3.1
    have k3f := kk3.2
    refine hK.out _ _ (.inr B3) ?_
    clear hK K ho3 hb3 kk3
    try simp only [Act.put, List.setIfInBounds_toArray, List.set_cons_zero, List.set_cons_succ]
    refine AnyZ.one (i := 22) (by kernel_rfl) rfl (fun K hK => ?_)
    go_simp
    refine hK.out _ _ (.inr B3) ?_
    clear hK K
    try simp only [Act.put, List.setIfInBounds_toArray, List.set_cons_zero, List.set_cons_succ]
    refine AnyZ.one (i := 23) (by kernel_rfl) rfl (fun K hK => ?_)
    go_simp
    refine hK.out _ _ (.inr B3) ?_
    clear hK K
    try simp only [Act.put, List.setIfInBounds_toArray, List.set_cons_zero, List.set_cons_succ]
    refine AnyZ.one (i := 24) (by kernel_rfl) rfl (fun K hK => ?_)
    go_simp
    refine hK.out _ _ (.inl rfl) ?_
    clear hK K
    try simp only [Act.put, List.setIfInBounds_toArray, List.set_cons_zero, List.set_cons_succ]
    refine AnyZ.done (by kernel_rfl) ?_ _
    refine NoPanic.normal ?_
    go_wp2_with fail
    go_meet
    exact HE.out
  case rest =>
    have hcut := Lib.hid hcut
    go_wp2
    go_ret
    exact ⟨ret_int (by rw [HW.out]), by rw [HW.out]; exact hcut.out⟩
end
end Go.Proofs.Ytglpckdmiohciaa
