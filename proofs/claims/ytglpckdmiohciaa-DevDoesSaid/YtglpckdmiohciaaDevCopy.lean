/- The device's function Copy. -/
import Derived.Test.YtglpckdmiohciaaLaw04
import Derived.Laws.Externs
import Derived.WalkKit
namespace Go.Proofs.Ytglpckdmiohciaa
open Go.RowKit
set_option linter.unusedVariables false
set_option linter.unusedSimpArgs false

theorem run_typeAssert_map {P : Program} (w : World) (t xT k e : TypeId) (v : Value) (h : P.underlying t = some (.map k e)) : (Instr.typeAssert (.iface t v) xT t false).run P w = .ok v w := by
  simp [Instr.typeAssert, run_underlying h, go_sem, Result.andThen]
theorem run_mapsClone {P : Program} (w : World) {r : Nat} {es : Array MapEntry} {clock : Nat} (t : TypeId) (hb : w.heap[r]? = some (.map es clock)) :
    (Extern.MapsClone.clone #[.iface t (.map (some r))]).run P w = .ok (.iface t (.map (some w.heap.size))) (w.alloc (.map es clock)) := by
  have e : Extern.MapsClone.clone #[.iface t (.map (some r))] = (getObj r >>= fun o => match o with
      | .map entries clock => (newObj (.map entries clock) >>= fun n => pure (.iface t (.map (some n))))
      | _ => stuck "maps.clone: a map expected") := rfl
  rw [e]
  simp [MapKept.run_getObj_map hb, Result.andThen, go_sem]
section
variable {w : World} {b : Nat}
set_option maxRecDepth 100000 in
theorem cloneKept_calls {L : List (Int × Sec)} (h : MapI w b secV L) : Calls Try.prog 89 #[.map (some b)] w fun e w' => e = .returned (.map (some w.heap.size)) ∧ MapI w' w.heap.size secV L ∧ Below w.heap.size w w' ∧ w'.heap.size = w.heap.size + 1 := by
  obtain ⟨es, clock, hb, hr⟩ := h
  have hq : ∀ w, (binOp .eql 133 (.map (some b)) (.map none)).run Try.prog w = .ok (.bool false) w := fun w => run_eql_map_nil (P := Try.prog) w 133 _ _ (some b) Try.underlying133
  go_enter Try.func89, Try.ntmps89
  go_wp2
  rw [run_callFunc_extern Try.func113 (by kernel_rfl) (by kernel_rfl) (by kernel_rfl) (e := Extern.MapsClone.clone) (by kernel_rfl), run_mapsClone w 133 hb]
  simp only [Result.andThen]
  rw [Oper.upon_value]
  go_wp2
  rw [run_typeAssert_map _ 133 _ _ _ _ Try.underlying133]
  simp only [Result.andThen]
  rw [Oper.upon_value]
  go_wp2
  go_ret
  exact ⟨rfl, ⟨es, clock, blk_new w _, hr⟩, bl_alloc (Below.refl _ w) _, by simp⟩
set_option maxRecDepth 100000 in
theorem cloneBad_calls {L : List (Int × Bool)} (h : MapI w b Value.bool L) : Calls Try.prog 90 #[.map (some b)] w fun e w' => e = .returned (.map (some w.heap.size)) ∧ MapI w' w.heap.size Value.bool L ∧ Below w.heap.size w w' ∧ w'.heap.size = w.heap.size + 1 := by
  obtain ⟨es, clock, hb, hr⟩ := h
  have hq : ∀ w, (binOp .eql 134 (.map (some b)) (.map none)).run Try.prog w = .ok (.bool false) w := fun w => run_eql_map_nil (P := Try.prog) w 134 _ _ (some b) Try.underlying134
  go_enter Try.func90, Try.ntmps90
  go_wp2
  rw [run_callFunc_extern Try.func113 (by kernel_rfl) (by kernel_rfl) (by kernel_rfl) (e := Extern.MapsClone.clone) (by kernel_rfl), run_mapsClone w 134 hb]
  simp only [Result.andThen]
  rw [Oper.upon_value]
  go_wp2
  rw [run_typeAssert_map _ 134 _ _ _ _ Try.underlying134]
  simp only [Result.andThen]
  rw [Oper.upon_value]
  go_wp2
  go_ret
  exact ⟨rfl, ⟨es, clock, blk_new w _, hr⟩, bl_alloc (Below.refl _ w) _, by simp⟩
set_option maxRecDepth 100000 in
theorem cloneCache_calls (w : World) (A : Option Addr) (c : Nat) (xs : List Wr) (h : Rd Wr.enc 33 w A xs) (hl : xs.length ≤ 1000000000000) :
    Calls Try.prog 91 #[.slice A xs.length c] w fun e w' => ∃ A' c', e = .returned (.slice A' xs.length c') ∧ Own Wr.enc 33 141 w.heap.size w' (.slice A' xs.length c') xs ∧ Below w.heap.size w w' := by
  have q24 : ∀ (w : World) (a : Option Addr) (n c n' c' : Nat), (binOp .eql 135 (.slice a n c) (.slice none n' c')).run Try.prog w = .ok (.bool a.isNone) w := fun w a n c n' c' => Lib.run_eql_slice_nil w _ _ a n c n' c' Try.underlying135
  have HR := Lib.hid h
  clear h
  go_enter Try.func91, Try.ntmps91
  rcases A with _ | a
  · have hx : xs = [] := by
      rcases HR.out with e | ⟨b, off, e, _⟩
      · exact e
      · cases e
    subst hx
    go_wp2
    go_ret
    exact ⟨none, 0, rfl, Own.nil, Below.refl _ _⟩
  · have HO : Hid (Own Wr.enc 33 141 w.heap.size (w.alloc (.cells #[] 141)) (.slice (some ⟨w.heap.size, 0, none⟩) 0 0) []) := World.ownsRow_made w #[] 0 (Nat.le_refl _) (Nat.zero_le _) rfl
    have hb1 : Hid (Below w.heap.size w (w.alloc (.cells #[] 141))) := bl_alloc (Below.refl _ w) _
    have HS : Hid (Src Try.prog 33 135 (.slice (some a) xs.length c) xs.length (xs.flatMap Wr.enc) (w.alloc (.cells #[] 141))) := Rd.src Wr.ok Try.underlying135 c (HR.out.below hb1.out (Nat.le_refl _))
    have hz : Hid (w.heap.size ≤ (w.alloc (.cells #[] 141)).heap.size) := by show _ ≤ _; simp
    have l1 : Hid ((([] : List Wr).length + xs.length) * 40 ≤ 140737488355328) := by show _ ≤ _; simp; omega
    have l2 : Hid (([] : List Wr).length + xs.length ≤ 140737488355328) := by show _ ≤ _; simp; omega
    have t1 : Hid ((Value.agg (Wr.enc ⟨0, sec0⟩).toArray).cells.size = 33) := rfl
    go_wp2_with (at_builtin; refine at_list rfl (fun K hK => op_ownS Wr.ok _ _ _ _ _ _ _ rfl Try.underlying135 infoWr t1.out w.heap.size (.slice (some ⟨w.heap.size, 0, none⟩) 0 0) (.slice (some a) xs.length c) [] xs rfl rfl HO.out HS.out hz.out l1.out l2.out (fun v' w' ho hg => hK _ _ ?_)))
    go_ret
    obtain ⟨A', c', e', _⟩ := ho.rd Wr.ok
    subst e'
    exact ⟨A', c', rfl, ho, hb1.out.grown hg hz.out (fun k e => by cases e; exact Nat.le_refl _)⟩
end
section
variable {w : World} {g : Nat} {F : Nat → Prop} {D : Dv}
/-- The copy's parts, put together. -/
theorem copy_dev {w W : World} {g3 k1 b1 : Nat} {v : Value} {D : Dv} (hD : D.n ≤ 65536) (hl : 0 ≤ D.left ∧ D.left ≤ 9223372036854775807) (hb : Below w.heap.size w W) (h3 : W.heap[g3]? = some (.cells (D.cells k1 b1 v) 137 (0, 0))) (hk : MapI W k1 secV D.kept) (hm : MapI W b1 Value.bool D.bad) (ho : Own Wr.enc 33 141 w.heap.size W v D.cache)
    (q1 : w.heap.size ≤ g3) (q2 : w.heap.size ≤ k1) (q3 : w.heap.size ≤ b1) (n1 : k1 ≠ b1) (n2 : g3 ≠ k1) (n3 : g3 ≠ b1) (n4 : ∀ k, v.ownBlock = some k → k ≠ g3 ∧ k ≠ k1 ∧ k ≠ b1) : ∃ F', DevAt W g3 F' D ∧ (∀ i, F' i → w.heap.size ≤ i) ∧ Below w.heap.size w W :=
  ⟨fun i => w.heap.size ≤ i ∧ i < W.heap.size, ⟨k1, b1, v, h3, hk, hm, ho.mono (Nat.zero_le _), n1, n2, n3, fun k e => ⟨(n4 k e).1, (n4 k e).2.1, (n4 k e).2.2, ho.lt k e⟩, ⟨q1, blk_lt h3⟩, ⟨q2, hk.lt⟩, ⟨q3, hm.lt⟩, fun i hi => hi.2, hD, hl⟩, fun i hi => hi.1, hb⟩
theorem copy_cells {W1 w2 w3 w4 : World} {km bm : Nat} {cv : Value} (hx : W1.heap[w.heap.size]? = some (.cells (D.cells km bm cv) 137 (0, 0))) (hs : W1.heap.size = w.heap.size + 1) (b2 : Below W1.drew.heap.size W1.drew w2) (b3 : Below w2.heap.size w2 w3) (b4 : Below w3.heap.size w3 w4) :
    w4.cell? ⟨w.heap.size, 1, none⟩ = some (.map (some km)) ∧ w4.cell? ⟨w.heap.size, 2, none⟩ = some cv ∧ w4.cell? ⟨w.heap.size, 3, none⟩ = some (.map (some bm)) ∧ ∀ i, w4.frozen? ⟨w.heap.size, i, none⟩ = false := by
  have h2 : w2.heap[w.heap.size]? = some (.cells (D.cells km bm cv) 137 (0, 0)) := blk_below b2 (blk_drew hx) (blk_lt (blk_drew hx))
  have h3 := blk_below b3 h2 (blk_lt h2)
  have h4 := blk_below b4 h3 (blk_lt h3)
  refine ⟨?_, ?_, ?_, fun i => blk_free h4 i⟩ <;> rw [blk_cell h4] <;> rfl
theorem copy_fin {W1 w2 w3 w4 : World} {km bm : Nat} {cv v : Value} (hD : D.n ≤ 65536) (hl : 0 ≤ D.left ∧ D.left ≤ 9223372036854775807) (hx : W1.heap[w.heap.size]? = some (.cells (D.cells km bm cv) 137 (0, 0))) (hs : W1.heap.size = w.heap.size + 1)
    (b2 : Below W1.drew.heap.size W1.drew w2) (b3 : Below w2.heap.size w2 w3) (b4 : Below w3.heap.size w3 w4) (B4 : Below w.heap.size w w4) (z2 : w2.heap.size = W1.drew.heap.size + 1) (z3 : w3.heap.size = w2.heap.size + 1)
    (m2 : MapI w2 W1.drew.heap.size secV D.kept) (m3 : MapI w3 w2.heap.size Value.bool D.bad) (o4 : Own Wr.enc 33 141 w3.heap.size w4 v D.cache) :
    ∃ F', DevAt (((w4.setCell ⟨w.heap.size, 1, none⟩ (.map (some W1.heap.size))).setCell ⟨w.heap.size, 3, none⟩ (.map (some w2.heap.size))).setCell ⟨w.heap.size, 2, none⟩ v) w.heap.size F' D ∧ (∀ i, F' i → w.heap.size ≤ i) ∧
      Below w.heap.size w (((w4.setCell ⟨w.heap.size, 1, none⟩ (.map (some W1.heap.size))).setCell ⟨w.heap.size, 3, none⟩ (.map (some w2.heap.size))).setCell ⟨w.heap.size, 2, none⟩ v) := by
  have e1 : W1.drew.heap.size = w.heap.size + 1 := hs
  have h2 : w2.heap[w.heap.size]? = some (.cells (D.cells km bm cv) 137 (0, 0)) := blk_below b2 (blk_drew hx) (blk_lt (blk_drew hx))
  have h3 := blk_below b3 h2 (blk_lt h2)
  have h4 := blk_below b4 h3 (blk_lt h3)
  have hg : w4.grownBy (((w4.setCell ⟨w.heap.size, 1, none⟩ (.map (some W1.heap.size))).setCell ⟨w.heap.size, 3, none⟩ (.map (some w2.heap.size))).setCell ⟨w.heap.size, 2, none⟩ v) (some w.heap.size) := grown_trans (grown_trans (grown_set _ _ _ _) (grown_set _ _ _ _)) (grown_set _ _ _ _)
  have hown : ∀ k, v.ownBlock = some k → w3.heap.size ≤ k := fun k hk => (o4.lt k hk).1
  refine copy_dev (g3 := w.heap.size) (k1 := W1.heap.size) (b1 := w2.heap.size) (v := v) hD hl (bl_set (bl_set (bl_set B4 (Nat.le_refl _) _) (Nat.le_refl _) _) (Nat.le_refl _) _) (blk_set' (blk_set' (blk_set' h4 1 _ rfl) 3 _ rfl) 2 _ rfl)
    (((m2.below b3 m2.lt).below b4 (by have := m2.lt; have := b3.size; omega)).grown hg (by simp; omega)) ((m3.below b4 m3.lt).grown hg (by simp; omega))
    ((o4.mono (by omega)).kept hg ?_) (Nat.le_refl _) (by omega) (by omega) (by omega) (by omega) (by omega) (fun k hk => by have := hown k hk; omega)
  rcases hq : v.ownBlock with _ | k
  · exact .inl rfl
  · exact .inr (fun e => by have := hown k hq; injection e; omega)
set_option maxRecDepth 100000 in
set_option maxHeartbeats 8000000 in
theorem copy_calls (h : DevAt w g F D) (hcl : D.cache.length ≤ 1000000000000) : Calls Try.prog 36 #[.pointer (some ⟨g, 0, none⟩)] w fun e w' => ∃ g3, e = .returned (.pointer (some ⟨g3, 0, none⟩)) ∧ ∃ F', DevAt w' g3 F' D ∧ (∀ i, F' i → w.heap.size ≤ i) ∧ Below w.heap.size w w' := by
  have hok := Lib.hid (ok_calls h)
  obtain ⟨km, bm, A, c, c0, c1, c2, c3, c4, c5, c6, fz, hk, hm, ho, hr, hlc⟩ := h.cells
  have hgl := h.glt
  have hn := h.n_le
  have hleft := Lib.hid h.left0
  have HK := Lib.hid hk
  have HM := Lib.hid hm
  have HR := Lib.hid hr
  clear h hk hm ho hr fz
  go_enter Try.func36, Try.ntmps36
  go_wp2_with fail
  refine hok.out.mono ?_
  rintro e w1 ⟨rfl, rfl⟩
  clear hok
  go_upto_region 4 with fail
  obtain ⟨W1, hW1⟩ : ∃ W, W = w.alloc (.cells #[.int .i64 D.n, .map (some km), .slice A D.cache.length c, .map (some bm), .int .i64 D.left, .bool D.armed, .bool D.dead] 137) := ⟨_, rfl⟩
  rw [← hW1]
  have hx1 : Hid (W1.heap[w.heap.size]? = some (.cells (D.cells km bm (.slice A D.cache.length c)) 137 (0, 0))) := hW1 ▸ blk_new w _
  have hs1 : Hid (W1.heap.size = w.heap.size + 1) := by show _ = _; rw [hW1]; simp
  have hbd : Hid (Below w.heap.size w W1.drew) := by show Below _ _ _; rw [hW1]; exact (bl_alloc (Below.refl _ w) _).drew
  clear hW1
  have HS : Hid (∀ W, Below w.heap.size w W → W.cell? ⟨g, 1, none⟩ = some (.map (some km)) ∧ W.cell? ⟨g, 3, none⟩ = some (.map (some bm)) ∧ W.cell? ⟨g, 2, none⟩ = some (.slice A D.cache.length c)) := fun W hW =>
    ⟨(hW.cell (by exact hgl)).trans c1, (hW.cell (by exact hgl)).trans c3, (hW.cell (by exact hgl)).trans c2⟩
  have HK2 : Hid (∀ W, Below w.heap.size w W → MapI W km secV D.kept) := fun W hW => HK.out.below hW HK.out.lt
  have HM2 : Hid (∀ W, Below w.heap.size w W → MapI W bm Value.bool D.bad) := fun W hW => HM.out.below hW HM.out.lt
  have HR2 : Hid (∀ W, Below w.heap.size w W → Rd Wr.enc 33 W A D.cache) := fun W hW => HR.out.below hW (Nat.le_refl _)
  clear c0 c1 c2 c3 c4 c5 c6 HK HM HR hlc
  go_cut [3] (fun s3 wx => s3 = .pointer (some ⟨w.heap.size, 0, none⟩) ∧ ∃ F', DevAt wx w.heap.size F' D ∧ (∀ i, F' i → w.heap.size ≤ i) ∧ Below w.heap.size w wx)
  case first =>
    go_region_held3 (fun W => W.cell? ⟨g, 1, none⟩ = some (.map (some km)) ∧ W.cell? ⟨g, 3, none⟩ = some (.map (some bm)) ∧ W.cell? ⟨g, 2, none⟩ = some (.slice A D.cache.length c))
      (first | exact HS.out _ hbd.out | exact HS.out _ B2.out | exact HS.out _ B3.out | exact HS.out _ B4.out | exact HS.out _ (bl_set B4.out (Nat.le_refl _) _) | exact HS.out _ (bl_set (bl_set B4.out (Nat.le_refl _) _) (Nat.le_refl _) _) | exact HS.out _ (bl_set (bl_set (bl_set B4.out (Nat.le_refl _) _) (Nat.le_refl _) _) (Nat.le_refl _) _))
      (first
        | (go_simp; go_at_call 89; with_reducible refine (cloneKept_calls (HK2.out _ hbd.out)).mono ?_; rintro e w2 ⟨rfl, m2, b2, z2⟩; have M2 := Lib.hid m2; have D2 := Lib.hid b2; have B2 := Lib.hid (bl_then hbd.out hbd.out.size b2); have Z2 := Lib.hid z2; clear m2 b2 z2)
        | (go_simp; go_at_call 90; with_reducible refine (cloneBad_calls (HM2.out _ B2.out)).mono ?_; rintro e w3 ⟨rfl, m3, b3, z3⟩; have M3 := Lib.hid m3; have D3 := Lib.hid b3; have B3 := Lib.hid (bl_then B2.out B2.out.size b3); have Z3 := Lib.hid z3; clear m3 b3 z3)
        | (go_simp; go_at_call 91; with_reducible refine (cloneCache_calls _ A c D.cache (HR2.out _ B3.out) hcl).mono ?_; rintro e w4 ⟨A4, e4, rfl, o4, b4⟩; have O4 := Lib.hid o4; have D4 := Lib.hid b4; have B4 := Lib.hid (bl_then B3.out B3.out.size b4); have X4 := copy_cells hx1.out hs1.out D2.out D3.out D4.out; obtain ⟨y1, y2, y3, y4⟩ := X4; clear o4 b4))
    all_goals
      go_wp2_with fail
      go_meet
      exact ⟨rfl, copy_fin hn hleft.out hx1.out hs1.out D2.out D3.out D4.out B4.out Z2.out Z3.out M2.out M3.out O4.out⟩
  case rest =>
    obtain ⟨rfl, hcut⟩ := hcut
    go_wp2
    go_ret
    exact ⟨_, rfl, hcut⟩
end
end Go.Proofs.Ytglpckdmiohciaa
