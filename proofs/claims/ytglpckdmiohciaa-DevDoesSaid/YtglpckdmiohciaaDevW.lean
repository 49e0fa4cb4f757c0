/- The device's function Write. -/
import Derived.Test.YtglpckdmiohciaaDevT
import Derived.Deep.RegionLaw
namespace Go.Proofs.Ytglpckdmiohciaa
open Go.RowKit
set_option linter.unusedVariables false
set_option linter.unusedSimpArgs false

attribute [local go_sem ↓ high] fold_build fold_buildSlice fold_loadSec
attribute [local go_sem] run_bldWr run_bldSl
section
variable {w : World} {g : Nat} {F : Nat → Prop} {D : Dv}
/-- The cache has grown, its slice is stored. -/
theorem DevAt.pushed (h : DevAt w g F D) {A : Option Addr} {n c : Nat} (hc : w.cell? ⟨g, 2, none⟩ = some (.slice A n c)) {W w5 : World} (hW : Below w.heap.size w W) (hg : W.grownBy w5 (Value.slice A n c).ownBlock) {xs : List Wr} {v : Value}
    (ho : Own Wr.enc 33 141 0 w5 v xs) (hv : ∀ k, v.ownBlock = some k → (Value.slice A n c).ownBlock = some k ∨ w.heap.size ≤ k) : Did F w (w5.setCell ⟨g, 2, none⟩ v) g { D with cache := xs } := by
  have h0 := h
  obtain ⟨km, bm, cv, hb, hk, hm, _, n1, n2, n3, n4, f1, f2, f3, f4, b1, b2⟩ := h
  have ecv : cv = .slice A n c := by
    rw [blk_cell hb] at hc
    simpa [Dv.cells] using hc
  subst ecv
  have hgl := f4 g f1
  have hkl := f4 km f2
  have hml := f4 bm f3
  have C1 : Chg F w W := Below.chg hW F
  have C2 : Chg F w w5 := C1.trans (Chg.grownO hg (F := F) (fun k hk => (n4 k hk).2.2.2)) (fun i _ hi => hi)
  have C3 : Chg F w (w5.setCell ⟨g, 2, none⟩ v) := C2.trans (Chg.set w5 v f1) (fun i _ hi => hi)
  have hne : ∀ k, k = g ∨ k = km ∨ k = bm → some k ≠ (Value.slice A n c).ownBlock := fun k hk e => by
    have := n4 k e.symm
    rcases hk with rfl | rfl | rfl
    · exact this.1 rfl
    · exact this.2.1 rfl
    · exact this.2.2.1 rfl
  have hs := hW.size
  have hb5 : w5.heap[g]? = some (.cells (D.cells km bm (.slice A n c)) 137 (0, 0)) := by
    rw [hg.block g (by omega) (hne g (.inl rfl)), hW.block g hgl]
    exact hb
  refine h0.put _ km bm v (blk_set' hb5 2 v rfl) ?_ ?_ (ho.far (fun e => ?_) _) n1 n2 n3 (fun k hk => ?_) f2 f3 C3 b1 b2
  · exact ((hk.below hW hkl).grown hg (hne km (.inr (.inl rfl)))).grown (grown_set _ _ _ _) (by simpa using n2.symm)
  · exact ((hm.below hW hml).grown hg (hne bm (.inr (.inr rfl)))).grown (grown_set _ _ _ _) (by simpa using n3.symm)
  · rcases hv g e with e | e
    · exact hne g (.inl rfl) e.symm
    · omega
  · rcases hv k hk with e | e
    · exact ⟨(n4 k e).1, (n4 k e).2.1, (n4 k e).2.2.1, .inl (n4 k e).2.2.2⟩
    · exact ⟨by omega, by omega, by omega, .inr e⟩

theorem rd_wr (x : Wr) (W : World) : Rd Wr.enc 33 (W.alloc (.cells x.enc.toArray 141)) (some ⟨W.heap.size, 0, none⟩) [x] := Rd.lit (blk_new _ _) rfl
theorem act_n (D : Dv) : D.act.2.n = D.n ∧ D.act.2.cache = D.cache ∧ D.act.2.kept = D.kept ∧ D.act.2.bad = D.bad := by
  unfold Dv.act
  repeat' split
  all_goals exact ⟨rfl, rfl, rfl, rfl⟩
set_option maxRecDepth 100000 in
set_option maxHeartbeats 4000000 in
theorem write_calls (h : DevAt w g F D) (p : Int) (A : Option Addr) (c : Nat) (b : List Int) (hb : Rd by1 1 w A b) (hbb : byteL b) (hbl : b.length ≤ c) (hA : b ≠ [] → ∀ a, A = some a → ¬ F a.block) (hcl : D.cache.length ≤ 1000000000000) :
    Calls Try.prog 32 #[.pointer (some ⟨g, 0, none⟩), .int .i64 p, .slice A b.length c] w fun e w' => e = .returned (.int .i64 (D.write p b).1) ∧ Did F w w' g (D.write p b).2 := by
  have hdead := Lib.hid (dead_calls h)
  have hhas := Lib.hid (has_calls h p)
  have hact := Lib.hid (act_calls h)
  have HD := Lib.hid (Did.refl h)
  have HR := Lib.hid hb
  have HA := Lib.hid hA
  clear hb hA
  go_enter Try.func32, Try.ntmps32
  go_wp2_with fail
  refine hdead.out.mono ?_
  rintro e w1 ⟨rfl, rfl⟩
  rcases hd : D.dead with _ | _
  case' true =>
    go_wp2
    go_ret
    exact ⟨ret_int (by simp [Dv.write, hd]), by simpa [Dv.write, hd] using HD.out⟩
  go_wp2_with fail
  refine hhas.out.mono ?_
  rintro e w1 ⟨rfl, rfl⟩
  rcases hp : D.has p with _ | _
  case' false =>
    go_wp2
    go_ret
    exact ⟨ret_int (by simp [Dv.write, hd, hp]), by simpa [Dv.write, hd, hp] using HD.out⟩
  rcases (Decidable.em (b.length = 32)) with h32 | h32
  case' inr =>
    go_wp2
    go_ret
    exact ⟨ret_int (by simp [Dv.write, hd, hp, h32]), by simpa [Dv.write, hd, hp, h32] using HD.out⟩
  go_wp2_with fail
  refine hact.out.mono ?_
  rintro e w1 ⟨rfl, hdid⟩
  have hbd : b.length = 32 ∧ ∀ x ∈ b, 0 ≤ x ∧ x ≤ 255 := ⟨h32, hbb⟩
  rcases ha : D.act.1 with _ | _
  case' false =>
    have hw : D.write p b = (40, D.act.2) := by
      unfold Dv.write
      rw [if_neg (by simp [hd]), dif_pos ⟨hp, hbd⟩, if_neg (by simp [ha])]
    go_wp2
    go_ret
    exact ⟨ret_int (by rw [hw]), by rw [hw]; exact hdid⟩
  obtain ⟨s, rfl⟩ : ∃ s : Sec, b = s.1 := ⟨⟨b, hbd⟩, rfl⟩
  clear hbd
  have hw : D.write p s.1 = (0, { D.act.2 with cache := D.act.2.cache ++ [⟨p, s⟩] }) := by
    unfold Dv.write
    rw [if_neg (by simp [hd]), dif_pos ⟨hp, s.2⟩, if_pos ha]
  have HW := Lib.hid hw
  clear hw
  obtain ⟨F1, h1, ch, s1⟩ := hdid
  obtain ⟨km, bm, A1, c1, -, -, c2, -, -, -, -, fz, -, -, ho, -, -⟩ := h1.cells
  obtain ⟨bb, off, rfl, hlt, hcell⟩ : ∃ bb off, A = some ⟨bb, off, none⟩ ∧ bb < w.heap.size ∧ Rd by1 1 w1 (some ⟨bb, off, none⟩) s.1 := by
    rcases HR.out with e | ⟨bb, off, rfl, hlt, hc⟩
    · rw [e] at h32; simp at h32
    · exact ⟨bb, off, rfl, hlt, HR.out.chg ch (HA.out (by intro e'; rw [e'] at h32; simp at h32))⟩
  have hbF : ¬ F1 bb := fun e => by
    rcases s1 bb e with e | e
    · exact HA.out (by intro e'; rw [e'] at h32; simp at h32) _ rfl e
    · omega
  have hrng : w1.rangeAt bb off (secCells s) := by
    intro j v hv
    simp only [secCells, List.getElem?_map] at hv
    obtain ⟨x, hx, rfl⟩ := Option.map_eq_some_iff.1 hv
    have := hcell.range hx 0 _ rfl
    simpa using this
  have hown : ∀ k, (Value.slice A1 D.act.2.cache.length c1).ownBlock = some k → k ≠ g ∧ k ≠ bb := by
    obtain ⟨km', bm', cv', hb', _, _, _, _, _, _, n4, _⟩ := h1
    have : cv' = .slice A1 D.act.2.cache.length c1 := by
      rw [blk_cell hb'] at c2
      simpa [Dv.cells] using c2
    subst this
    exact fun k hk => ⟨(n4 k hk).1, fun e => hbF (e ▸ (n4 k hk).2.2.2)⟩
  have hgb : g ≠ bb := fun e => hbF (e ▸ h1.fg)
  have hbl1 : bb < w1.heap.size := Nat.lt_of_lt_of_le hlt ch.size
  have hgl1 := h1.glt
  have HX := Lib.hid h1
  have HOS : Hid (∀ W, Below w1.heap.size w1 W → Own Wr.enc 33 141 0 W (.slice A1 D.act.2.cache.length c1) D.act.2.cache) := fun W hW => ho.below hW
  have HS1 : Hid (∀ W, Below w1.heap.size w1 W → W.rangeAt bb off (secCells s)) := fun W hW j v hv => (hW.cell (by exact hbl1)).trans (hrng j v hv)
  have HS2 : Hid (∀ W W5, Below w1.heap.size w1 W → W.grownBy W5 (Value.slice A1 D.act.2.cache.length c1).ownBlock → W5.cell? ⟨g, 2, none⟩ = some (.slice A1 D.act.2.cache.length c1) ∧ W5.frozen? ⟨g, 2, none⟩ = false ∧ W5.rangeAt bb off (secCells s) ∧
      ∀ v, (W5.setCell ⟨g, 2, none⟩ v).rangeAt bb off (secCells s)) := fun W W5 hW hG => by
    have hs := hW.size
    have e1 := hG.block g (by omega) (fun e => (hown g e.symm).1 rfl)
    have e2 := hG.block bb (by omega) (fun e => (hown bb e.symm).2 rfl)
    have k3 : W5.rangeAt bb off (secCells s) := fun j v hv => (World.cell?_of_block e2).trans (HS1.out W hW j v hv)
    refine ⟨(World.cell?_of_block e1).trans ((hW.cell (by exact hgl1)).trans c2), (World.frozen?_of_block e1).trans ((hW.frozen (by exact hgl1)).trans (fz 2)), k3, fun v j u hu => ?_⟩
    rw [World.cell?_setCell_other _ _ _ _ (fun e => hgb (by injection e))]
    exact k3 j u hu
  have k2a : ∀ o, (w1.drew.alloc o).cell? ⟨g, 2, none⟩ = some (.slice A1 D.act.2.cache.length c1) := fun o => ((bl_alloc ((Below.refl _ w1).drew) o).cell (by exact hgl1)).trans c2
  have HFin : Hid (∀ (W w5 : World) (v : Value), Below w1.heap.size w1 W → W.grownBy w5 (Value.slice A1 D.act.2.cache.length c1).ownBlock → Own Wr.enc 33 141 0 w5 v (D.act.2.cache ++ [⟨p, s⟩]) →
      (∀ k, v.ownBlock = some k → (Value.slice A1 D.act.2.cache.length c1).ownBlock = some k ∨ w1.heap.size ≤ k) → Did F w (w5.setCell ⟨g, 2, none⟩ v) g { D.act.2 with cache := D.act.2.cache ++ [⟨p, s⟩] }) := fun W w5 v a1 a2 a3 a4 =>
    (h1.pushed c2 a1 a2 a3 a4).after ch s1
  have HL1 : Hid ((D.act.2.cache.length + 1) * 40 ≤ 140737488355328) := by show _ ≤ _; rw [(act_n D).2.1]; omega
  have HL2 : Hid (D.act.2.cache.length + 1 ≤ 140737488355328) := by show _ ≤ _; rw [(act_n D).2.1]; omega
  have hb0 : Below w1.heap.size w1 w1.drew := (Below.refl _ w1).drew
  have u1 := Try.underlying139
  have i1 : (Try.prog.info? 139).map (·.size) = some (secCells s).length := by rw [secCells_len]; exact sizeSec
  have b3 := run_arrayAt_sec (some ⟨bb, off, none⟩) 32 c (by omega)
  have HC := Lib.hid c2
  clear hdead hhas hact HD HR HA hrng hcell ho fz ch s1 hbF hown h h1 hcl hgb
  have t1 : Hid ((Value.agg (Wr.enc ⟨0, sec0⟩).toArray).cells.size = 33) := rfl
  have t3 : Hid (([⟨p, s⟩] : List Wr) ≠ []) := by show _ ≠ _; simp
  go_wp2_with fail
  have ld := run_ldSec w1.drew bb off s (HS1.out _ hb0)
  have k2b : w1.drew.cell? ⟨g, 2, none⟩ = some (.slice A1 D.act.2.cache.length c1) := (hb0.cell (by exact hgl1)).trans c2
  go_region_law
    (first
      | (refine at_step rfl (op_ownN Wr.ok _ _ _ _ _ _ rfl Try.underlying135 infoWr t1.out 0 (.slice A1 D.act.2.cache.length c1) D.act.2.cache _ 1 [⟨p, s⟩] 1 rfl t3.out rfl rfl (HOS.out _ (bl_alloc hb0 _)) (rd_wr ⟨p, s⟩ _) (Nat.zero_le _) HL1.out HL2.out ?_); intro g5 cap5 w5 ho5 hg5 hat5 hlt5; have k5 := (HS2.out _ _ (bl_alloc hb0 _) hg5).1; have k6 := (HS2.out _ _ (bl_alloc hb0 _) hg5).2.1))
  all_goals
    go_wp2
    go_ret
    refine ⟨ret_int (by rw [HW.out]), ?_⟩
    rw [HW.out]
    refine HFin.out _ _ _ (bl_alloc hb0 _) hg5 ho5 (fun k hk => ?_)
    simp only [Value.ownBlock, Option.some.injEq] at hk
    subst hk
    exact hat5.imp_right (fun e => by simp at e; omega)
end
end Go.Proofs.Ytglpckdmiohciaa
