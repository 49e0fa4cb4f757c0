/- extent.Free: cut, up to its last statement. extent.Free: Take, Claim. -/
import Derived.Test.YtikgplhcadomcaaGreatKB
import Derived.Deep.DeepCutAuto
import Derived.Deep.RegionHeld3
namespace Go.Proofs.YtikgplhcadomcaaGreat
open Go.RowKit
set_option linter.unusedVariables false
set_option linter.unusedSimpArgs false

def rest1 (r s : Span) : List Span := if r.start < s.start then [⟨r.start, s.start - r.start⟩] else []
def rest2 (r s : Span) : List Span := if s.start + s.pages < r.start + r.pages then [⟨s.start + s.pages, r.start + r.pages - (s.start + s.pages)⟩] else []
/-- Within cut: the span and the row in blocks of the call's own, and what is left so far. -/
structure CutM (w wx : World) (s r : Span) (v : Value) (xs : List Span) : Prop where
  s : wx.heap[w.heap.size]? = some (.cells s.cells 160 (0, 0))
  r : wx.heap[w.heap.size + 1]? = some (.cells r.cells 160 (0, 0))
  o : Own Span.enc 2 160 (w.heap.size + 2) wx v xs
  b : Below w.heap.size w wx
theorem CutM.size {w wx : World} {s r : Span} {v : Value} {xs : List Span} (h : CutM w wx s r v xs) : w.heap.size + 2 ≤ wx.heap.size := blk_lt h.r
theorem CutM.below {w wx wy : World} {s r : Span} {v : Value} {xs : List Span} (h : CutM w wx s r v xs) (hb : Below wx.heap.size wx wy) : CutM w wy s r v xs :=
  ⟨blk_below hb h.s (blk_lt h.s), blk_below hb h.r (blk_lt h.r), h.o.below hb, bl_then h.b h.b.size hb⟩
theorem CutM.grown {w wx wy : World} {s r : Span} {v v' : Value} {xs ys : List Span} (h : CutM w wx s r v xs) (hg : wx.grownBy wy v.ownBlock) (ho : Own Span.enc 2 160 (w.heap.size + 2) wy v' ys) : CutM w wy s r v' ys := by
  have hn : ∀ k, k < w.heap.size + 2 → some k ≠ v.ownBlock := fun k hk e => by have := (h.o.lt k e.symm).1; omega
  refine ⟨?_, ?_, ho, h.b.grown hg h.b.size (fun k e => by have := (h.o.lt k e).1; omega)⟩
  · rw [hg.block _ (blk_lt h.s) (hn _ (by omega))]; exact h.s
  · rw [hg.block _ (blk_lt h.r) (hn _ (by omega))]; exact h.r
theorem CutM.at4 {w wx : World} {s r : Span} {v : Value} {xs : List Span} (h : CutM w wx s r v xs) : wx.cell? ⟨w.heap.size, 0, none⟩ = some (.int .i64 s.start) ∧ wx.cell? ⟨w.heap.size, 1, none⟩ = some (.int .i64 s.pages) ∧ wx.cell? ⟨w.heap.size + 1, 0, none⟩ = some (.int .i64 r.start) ∧ wx.cell? ⟨w.heap.size + 1, 1, none⟩ = some (.int .i64 r.pages) := by
  have a := span_at h.s
  have b := span_at h.r
  exact ⟨a.1, a.2, b.1, b.2⟩
section
variable {w : World} {g : Nat} {F : Nat → Prop} {D : Fr}
/-- The call's begin: the span and the row lie in blocks of its own. -/
theorem cutM_begin (w : World) (s r : Span) : CutM w ((w.alloc (.cells #[.int .i64 s.start, .int .i64 s.pages] 160)).alloc (.cells #[.int .i64 r.start, .int .i64 r.pages] 160)) s r (.slice none 0 0) [] := by
  refine ⟨blk_alloc (blk_new w (.cells s.cells 160)) _, ?_, Own.nil, bl_alloc (bl_alloc (Below.refl _ w) _) _⟩
  have := blk_new (w.alloc (.cells s.cells 160)) (.cells r.cells 160)
  rw [World.size_alloc] at this
  exact this
/-- The rows told anew, in blocks that the call made. -/
theorem FrAt.set2 (h : FrAt w g F D) {w' : World} {v : Value} {xs : List Span} (hb : Below w.heap.size w w') (ho : Own Span.enc 2 160 w.heap.size w' v xs) (hk : Fr.Ok { D with l := xs }) : FrDid F w (w'.setCell ⟨g, 2, none⟩ v) g { D with l := xs } := by
  obtain ⟨A, c, c0, c1, c2, fz, _, hr, hc, hv, hblk⟩ := h.cells
  have hgl := h.glt
  have hne : v.ownBlock ≠ some g := fun e => by have := (ho.lt g e).1; omega
  refine h.put _ v (blk_set' (blk_below hb hblk hgl) 2 v rfl) ((ho.far (p := ⟨g, 2, none⟩) hne v).mono (Nat.zero_le _)) (fun k e => ⟨fun q => hne (by rw [e, q]), .inr (ho.lt k e).1⟩) ?_ hk
  exact (Below.chg hb F).trans (Chg.set w' v h.fg) (fun _ _ q => q)
set_option maxRecDepth 100000 in
set_option maxHeartbeats 8000000 in
theorem cut_calls (h : FrAt w g F D) (i : Nat) (s r : Span) (hi : D.l[i]? = some r) (hs : 1 ≤ s.pages) (hw : within s r = true) :
    Calls Tryz.prog 192 #[.pointer (some ⟨g, 0, none⟩), .int .i64 i, .agg #[.int .i64 s.start, .int .i64 s.pages]] w fun e w' => e = .returned (.tuple #[]) ∧ FrDid F w w' g { D with l := cutL D.l i s } := by
  have HH := Lib.hid h
  obtain ⟨A, c, c0, c1, c2, fz, ho, hr, hc, hv, hb⟩ := h.cells
  have hgl := h.glt
  obtain ⟨m1, m2, m3⟩ := h.okD.norm.mem r (List.mem_of_getElem? hi)
  have hlo := h.okD.lo0
  have hn1 := h.okD.n1
  have hll := h.okD.len
  have hil : i < D.l.length := (List.getElem?_eq_some_iff.1 hi).1
  have hrest : Hid (rest1 r s ++ rest2 r s = rest r s) := rfl
  have hww := hw
  simp only [within, decide_eq_true_eq] at hww
  have hS : Hid (Num (s.start + s.pages)) := by show _ ∧ _; omega
  have hR : Hid (Num (r.start + r.pages)) := by show _ ∧ _; omega
  have HI := Lib.hid hi
  have HW := Lib.hid hw
  have hM := Lib.hid (cutM_begin w s r)
  have hfz2 := fz 2
  obtain ⟨bA, off, rfl, x0, x1⟩ : ∃ bA off, A = some ⟨bA, off, none⟩ ∧ w.cell? ⟨bA, off + i * 2, none⟩ = some (.int .i64 r.start) ∧ w.cell? ⟨bA, off + i * 2 + 1, none⟩ = some (.int .i64 r.pages) := by
    rcases hr with e | ⟨bA, off, rfl, hlt, hcell⟩
    · rw [e] at hi; simp at hi
    · have := Rd.span (.inr ⟨bA, off, rfl, hlt, hcell⟩) hi
      exact ⟨bA, off, rfl, this.1, this.2⟩
  have hbl : bA < w.heap.size := by
    rcases hr with e | ⟨b', off', he, hlt, hcell⟩
    · rw [e] at hi; simp at hi
    · cases he; exact hlt
  have k2 : ∀ o, (w.alloc o).cell? ⟨g, 2, none⟩ = some (.slice (some ⟨bA, off, none⟩) D.l.length c) := fun o => ((bl_alloc (Below.refl _ w) o).cell (by exact hgl)).trans c2
  have y0 : ∀ o, (w.alloc o).cell? ⟨bA, off + i * 2, none⟩ = some (.int .i64 r.start) := fun o => ((bl_alloc (Below.refl _ w) o).cell (by exact hbl)).trans x0
  have y1 : ∀ o, (w.alloc o).cell? ⟨bA, off + i * 2 + 1, none⟩ = some (.int .i64 r.pages) := fun o => ((bl_alloc (Below.refl _ w) o).cell (by exact hbl)).trans x1
  have i0 : (0 : Int) ≤ (i : Int) := by omega
  have i1 : (i : Int) < (D.l.length : Int) := by omega
  have hwrap : wrap64 (s.start - r.start) = s.start - r.start := wrap64I (by omega)
  have t1 : Hid ((Value.agg #[.int .i64 0, .int .i64 0]).cells.size = 2) := rfl
  have HR := Lib.hid hr
  have HO := Lib.hid ho
  have HV := Lib.hid hv
  have HB := Lib.hid hb
  clear h fz ho hr hv hb hi hw c0 c1 hwrap
  go_enter Tryz.func192, Tryz.ntmps192
  go_upto_if 19 with (fail)
  go_cut [7] (fun s7 wx => Hid (CutM w wx s r s7 (rest1 r s)))
  case first =>
    rcases (Decidable.em (r.start < s.start)) with h1 | h1
    · have he : Hid (rest1 r s = [] ++ [⟨r.start, s.start - r.start⟩]) := by show _ = _; unfold rest1; rw [if_pos h1]; rfl
      have q1 : Hid (([] : List Span).length + 1 ≤ 140737488355328) := by show _ ≤ _; simp
      have q2 : Hid ((([] : List Span).length + 1) * 16 ≤ 140737488355328) := by show _ ≤ _; simp
      have hz : Hid (((w.alloc (.cells #[.int .i64 s.start, .int .i64 s.pages] 160)).alloc (.cells #[.int .i64 r.start, .int .i64 r.pages] 160)).heap.size = w.heap.size + 1 + 1) := by show _ = _; rw [World.size_alloc, World.size_alloc]
      go_wp2_with (at_builtin; refine ap_own Span.ok rfl _ _ _ _ _ _ rfl Tryz.underlying90 infoSpan t1.out (w.heap.size + 2) (.slice none 0 0) [] ⟨r.start, s.start - r.start⟩ #[_, _] rfl rfl (w.heap.size + 1 + 1) hz.out rfl hM.out.o hM.out.size q2.out q1.out ?_; intro gg cap w5 ho5 hg5 hat5 hlt5)
      have HM := Lib.hid (hM.out.grown hg5 ho5)
      clear ho5 hg5 hat5 hlt5
      go_wp2_with fail
      go_meet
      rw [he.out]
      exact HM.out
    · have he : Hid (rest1 r s = []) := by show _ = _; unfold rest1; rw [if_neg h1]
      go_wp2_with fail
      go_meet
      rw [he.out]
      exact hM.out
  case rest =>
    have HM := Lib.hid hcut
    clear hcut hM
    obtain ⟨v7, hv7⟩ : ∃ v, v = u7 := ⟨_, rfl⟩
    have hxl : Hid ((rest1 r s).length ≤ 1) := by show _ ≤ _; unfold rest1; split <;> simp
    generalize rest1 r s = xs1 at *
    clear k2 y0 y1
    go_upto_region 5 with (fail)
    go_cut [35] (fun s35 wx => s35 = .bool (decide (s.start + s.pages < r.start + r.pages)) ∧ Hid (CutM w wx s r u7 xs1))
    case first =>
      have hb0 : Hid (Below wc.heap.size wc wc.drew) := (Below.refl _ wc).drew
      have hS1 : Hid (∀ W, Below wc.heap.size wc W → W.cell? ⟨w.heap.size, 0, none⟩ = some (.int .i64 s.start) ∧ W.cell? ⟨w.heap.size, 1, none⟩ = some (.int .i64 s.pages) ∧ W.cell? ⟨w.heap.size + 1, 0, none⟩ = some (.int .i64 r.start) ∧ W.cell? ⟨w.heap.size + 1, 1, none⟩ = some (.int .i64 r.pages)) := fun W hW => (HM.out.below hW).at4
      go_region_held3 (fun W => W.cell? ⟨w.heap.size, 0, none⟩ = some (.int .i64 s.start) ∧ W.cell? ⟨w.heap.size, 1, none⟩ = some (.int .i64 s.pages) ∧ W.cell? ⟨w.heap.size + 1, 0, none⟩ = some (.int .i64 r.start) ∧ W.cell? ⟨w.heap.size + 1, 1, none⟩ = some (.int .i64 r.pages))
        (first | exact hS1.out _ hb0.out | exact hS1.out _ B2.out | exact hS1.out _ B3.out)
        (first
          | (go_simp; go_at_call 178; with_reducible refine (end_calls _ r.start r.pages hR.out).mono ?_; rintro e w2 ⟨rfl, b2⟩; have B2 := Lib.hid (bl_then hb0.out hb0.out.size b2); clear b2)
          | (go_simp; go_at_call 178; with_reducible refine (end_calls _ s.start s.pages hS.out).mono ?_; rintro e w3 ⟨rfl, b3⟩; have B3 := Lib.hid (bl_then B2.out B2.out.size b3); clear b3))
      all_goals
        go_wp2_with fail
        go_meet
        exact ⟨rfl, HM.out.below B3.out⟩
    case rest =>
      obtain ⟨rfl, hcut⟩ := hcut
      clear HM
      have HM := Lib.hid hcut
      clear hcut
      go_upto_if 35 with (fail)
      go_cut [7] (fun s7 wx => Hid (CutM w wx s r s7 (xs1 ++ rest2 r s)))
      case first =>
        rcases (Decidable.em (s.start + s.pages < r.start + r.pages)) with h2 | h2
        · have he : Hid (rest2 r s = [⟨s.start + s.pages, r.start + r.pages - (s.start + s.pages)⟩]) := by show _ = _; unfold rest2; rw [if_pos h2]
          have hwr : IntKind.i64.wrap (r.start + r.pages - (s.start + s.pages)) = r.start + r.pages - (s.start + s.pages) := wrapI (by omega)
          have nn : Hid ([(⟨s.start + s.pages, r.start + r.pages - (s.start + s.pages)⟩ : Span)] ≠ []) := by show _ ≠ _; simp
          have q1 : Hid (xs1.length + 1 ≤ 140737488355328) := by have := hxl.out; show _ ≤ _; omega
          have q2 : Hid ((xs1.length + 1) * 16 ≤ 140737488355328) := by have := hxl.out; show _ ≤ _; omega
          have hb0 : Hid (Below wc.heap.size wc wc.drew) := (Below.refl _ wc).drew
          have hS1 : Hid (∀ W, Below wc.heap.size wc W → W.cell? ⟨w.heap.size, 0, none⟩ = some (.int .i64 s.start) ∧ W.cell? ⟨w.heap.size, 1, none⟩ = some (.int .i64 s.pages) ∧ W.cell? ⟨w.heap.size + 1, 0, none⟩ = some (.int .i64 r.start) ∧ W.cell? ⟨w.heap.size + 1, 1, none⟩ = some (.int .i64 r.pages)) := fun W hW => (HM.out.below hW).at4
          go_wp2_with fail
          go_region_held3 (fun W => W.cell? ⟨w.heap.size, 0, none⟩ = some (.int .i64 s.start) ∧ W.cell? ⟨w.heap.size, 1, none⟩ = some (.int .i64 s.pages) ∧ W.cell? ⟨w.heap.size + 1, 0, none⟩ = some (.int .i64 r.start) ∧ W.cell? ⟨w.heap.size + 1, 1, none⟩ = some (.int .i64 r.pages))
            (first | exact hS1.out _ hb0.out | exact hS1.out _ B2.out | exact hS1.out _ B3.out | exact hS1.out _ B4.out | exact hS1.out _ (B4.out.alloc B4.out.size _) | exact HM5.out.at4)
            (first
              | (refine at_step rfl (op_ownN Span.ok _ _ _ _ _ _ rfl Tryz.underlying90 infoSpan t1.out (w.heap.size + 2) u7 xs1 (some ⟨w4.heap.size, 0, none⟩) 1 [⟨s.start + s.pages, r.start + r.pages - (s.start + s.pages)⟩] 1 rfl nn.out rfl rfl ((HM.out.below B4.out).o.alloc _) (Rd.lit (blk_new _ _) rfl) (Nat.le_trans (HM.out.below B4.out).size ((Below.refl _ w4).alloc (Nat.le_refl _) _).size) q2.out q1.out ?_); intro g7 cap w5 ho5 hg5 hat5 hlt5; have HM5 := Lib.hid (CutM.grown ((HM.out.below B4.out).below (bl_alloc (Below.refl _ w4) _)) hg5 ho5); clear ho5 hg5 hat5 hlt5)
              | (go_simp; go_at_call 178; with_reducible refine (end_calls _ s.start s.pages hS.out).mono ?_; rintro e w2 ⟨rfl, b2⟩; have B2 := Lib.hid (bl_then hb0.out hb0.out.size b2); clear b2)
              | (go_simp; go_at_call 178; with_reducible refine (end_calls _ r.start r.pages hR.out).mono ?_; rintro e w3 ⟨rfl, b3⟩; have B3 := Lib.hid (bl_then B2.out B2.out.size b3); clear b3)
              | (go_simp; go_at_call 178; with_reducible refine (end_calls _ s.start s.pages hS.out).mono ?_; rintro e w4 ⟨rfl, b4⟩; have B4 := Lib.hid (bl_then B3.out B3.out.size b4); clear b4))
          all_goals
            go_wp2_with fail
            go_meet
            rw [he.out]
            exact HM5.out
        · have he : Hid (rest2 r s = []) := by show _ = _; unfold rest2; rw [if_neg h2]
          go_wp2_with fail
          go_meet
          rw [he.out, List.append_nil]
          exact HM.out
      case rest =>
        clear HM
        rw [hrest.out] at hcut
        have HM := Lib.hid hcut
        clear hcut
        obtain ⟨A7, c7, e7, hc7, hc7m, hr7, _⟩ := HM.out.o.rd Span.ok
        subst e7
        have HR7 := Lib.hid hr7
        clear hr7
        have hbw := Lib.hid HM.out.b
        have hb0 : Hid (Below wc.heap.size wc wc.drew) := (Below.refl _ wc).drew
        have hC : Hid (∀ W, Below wc.heap.size wc W → W.cell? ⟨g, 2, none⟩ = some (.slice (some ⟨bA, off, none⟩) D.l.length c) ∧ W.frozen? ⟨g, 2, none⟩ = false) := fun W hW =>
          ⟨((bl_then hbw.out hbw.out.size hW).cell (by exact hgl)).trans c2, ((bl_then hbw.out hbw.out.size hW).frozen (by exact hgl)).trans hfz2⟩
        have hR0 := Lib.hid (HR.out.below hbw.out (Nat.le_refl _))
        have hFin : Hid (∀ (w5 : World) (v5 : Value), Below wc.heap.size wc w5 → Own Span.enc 2 160 wc.heap.size w5 v5 (cutL D.l i s) → FrDid F w (w5.setCell ⟨g, 2, none⟩ v5) g { D with l := cutL D.l i s }) := fun w5 v5 a b =>
          HH.out.set2 (bl_then hbw.out hbw.out.size a) (b.mono hbw.out.size) ⟨HH.out.okD.lo0, HH.out.okD.lo1, HH.out.okD.n0, HH.out.okD.n1, cut_norm hs HW.out i HH.out.okD.norm HI.out⟩
        have hcut : Hid (D.l.take i ++ rest r s ++ D.l.drop (i + 1) = cutL D.l i s) := by
          show _ = _
          unfold cutL
          rw [List.getD_eq_getElem?_getD, HI.out]
          rfl
        have hcl : Hid ((cutL D.l i s).length ≤ 1000000) := by
          show _ ≤ _
          rw [← hcut.out]
          have : (rest r s).length ≤ 2 := by unfold rest; split <;> split <;> simp
          simp only [List.length_append, List.length_take, List.length_drop]
          omega
        have hwi : IntKind.i64.wrap ((i : Int) + 1) = (i : Int) + 1 := wrapI (by omega)
        have j0 : (0 : Int) ≤ (i : Int) + 1 := by omega
        have j1 : (i : Int) + 1 ≤ (D.l.length : Int) := by omega
        have j2 : ((i : Int) + 1).toNat = i + 1 := by omega
        have j3 : (i : Int) ≤ (c : Int) := by omega
        have j4 : (i : Int) ≤ (D.l.length : Int) := by omega
        have j5 : (D.l.length : Int) ≤ (c : Int) := by omega
        have j6 : (i : Int) ≤ (i : Int) + 1 := by omega
        rcases (Decidable.em (c = i + 1)) with hci | hci
        · subst hci
          have hcat : Hid (∀ W, Below wc.heap.size wc W → ∀ b : Nat, W.heap.size = b + 1 → W.heap[b]? = some (.cells #[.slice (some ⟨bA, off, none⟩) i (i + 1), .slice A7 (rest r s).length c7, .slice (some ⟨bA, off, none⟩) 0 0] 90 (0, 0)) → Calls Tryz.prog 215 #[.slice (some ⟨b, 0, none⟩) 3 3] W fun e w' => ConcatR W w' (cutL D.l i s) e) := fun W hW b hbs hblk => by
            have e1 : (D.l.take i).length = i := by rw [List.length_take]; omega
            have e2 : (D.l.drop (i + 1)).length = D.l.length - (i + 1) := List.length_drop
            have hall : allP [⟨some ⟨bA, off, none⟩, i + 1, D.l.take i⟩, ⟨A7, c7, rest r s⟩, ⟨some ⟨bA, off, none⟩, 0, D.l.drop (i + 1)⟩] = cutL D.l i s := by rw [← hcut.out]; simp [allP]
            rw [← hall]
            refine concat_calls W b 0 3 [⟨some ⟨bA, off, none⟩, i + 1, D.l.take i⟩, ⟨A7, c7, rest r s⟩, ⟨some ⟨bA, off, none⟩, 0, D.l.drop (i + 1)⟩] ?_ (by omega) ?_ (by simp) (by omega) ?_
            · intro k p hk
              rw [blk_cell hblk]
              rcases (show k = 0 ∨ k = 1 ∨ k = 2 ∨ 3 ≤ k by omega) with rfl | rfl | rfl | h3
              · simp at hk; subst hk; simp [Piece.v]; omega
              · simp at hk; subst hk; simp [Piece.v]
              · simp at hk; subst hk; simp [Piece.v]; omega
              · rw [List.getElem?_eq_none (by simpa using h3)] at hk; cases hk
            · intro p hp
              simp only [List.mem_cons, List.not_mem_nil, or_false] at hp
              have hrw := hR0.out.below hW (by exact Nat.le_refl _)
              rcases hp with rfl | rfl | rfl
              · exact hrw.take i
              · exact HR7.out.below hW (Nat.le_refl _)
              · exact .inl (List.drop_eq_nil_of_le (by omega))
            · unfold sumP
              rw [hall]
              have := hcl.out
              omega
          clear HM hR0 hcl hcut HR7 HR HI HW
          go_wp2_with fail
          refine wp_region_noPanic ?_
          refine wp_regionZ 19 (fun W => Hid (Below wc.heap.size wc W)) (by kernel_rfl) ?_
          refine AnyZ.takeU [19, 18, 17] (i := 0) (oi := ⟨some 47, _, _, _, _, _⟩) (v := ?_) rfl (by kernel_rfl) (by kernel_rfl) (by kernel_rfl) (by kernel_rfl) (by kernel_rfl) (by kernel_rfl) (fun _ _ _ h => h) (Or.inl ⟨by rfl, ?_⟩) (by assumption) ?_
          rotate_left
          · (intro w hSw; (try dsimp only at hSw); obtain ⟨kk, kf⟩ := hC.out _ hSw.out; (go_simp <;> with_reducible rfl))
          try simp only [Act.put, List.setIfInBounds_toArray, List.set_cons_zero, List.set_cons_succ]
          refine AnyZ.takeU [19, 16, 15, 6, 4, 3, 2] (i := 1) (oi := ⟨some 48, _, _, _, _, _⟩) (v := ?_) rfl (by kernel_rfl) (by kernel_rfl) (by kernel_rfl) (by kernel_rfl) (by kernel_rfl) (by kernel_rfl) (fun _ _ _ h => h) (Or.inl ⟨by rfl, ?_⟩) (by assumption) ?_
          rotate_left
          · (intro w hSw; (try dsimp only at hSw); obtain ⟨kk, kf⟩ := hC.out _ hSw.out; (go_simp <;> with_reducible rfl))
          try simp only [Act.put, List.setIfInBounds_toArray, List.set_cons_zero, List.set_cons_succ]
          refine AnyZ.takeU [19, 16, 15, 6, 4, 3] (i := 2) (oi := ⟨some 49, _, _, _, _, _⟩) (v := ?_) rfl (by kernel_rfl) (by kernel_rfl) (by kernel_rfl) (by kernel_rfl) (by kernel_rfl) (by kernel_rfl) (fun _ _ _ h => h) (Or.inl ⟨by rfl, ?_⟩) (by assumption) ?_
          rotate_left
          · (intro w hSw; (try dsimp only at hSw); obtain ⟨kk, kf⟩ := hC.out _ hSw.out; (go_simp <;> with_reducible rfl))
          try simp only [Act.put, List.setIfInBounds_toArray, List.set_cons_zero, List.set_cons_succ]
          refine AnyZ.takeU [19, 16, 15, 6, 4] (i := 3) (oi := ⟨some 50, _, _, _, _, _⟩) (v := ?_) rfl (by kernel_rfl) (by kernel_rfl) (by kernel_rfl) (by kernel_rfl) (by kernel_rfl) (by kernel_rfl) (fun _ _ _ h => h) (Or.inl ⟨by rfl, ?_⟩) (by assumption) ?_
          rotate_left
          · (intro w hSw; (try dsimp only at hSw); obtain ⟨kk, kf⟩ := hC.out _ hSw.out; (go_simp <;> with_reducible rfl))
          try simp only [Act.put, List.setIfInBounds_toArray, List.set_cons_zero, List.set_cons_succ]
          refine AnyZ.takeU [19, 16, 15, 6] (i := 4) (oi := ⟨some 51, _, _, _, _, _⟩) (v := ?_) rfl (by kernel_rfl) (by kernel_rfl) (by kernel_rfl) (by kernel_rfl) (by kernel_rfl) (by kernel_rfl) (fun _ _ _ h => h) (Or.inl ⟨by rfl, ?_⟩) (by assumption) ?_
          rotate_left
          · (intro w hSw; (try dsimp only at hSw); obtain ⟨kk, kf⟩ := hC.out _ hSw.out; (go_simp <;> with_reducible rfl))
          try simp only [Act.put, List.setIfInBounds_toArray, List.set_cons_zero, List.set_cons_succ]
          refine AnyZ.takeU [19, 16, 15, 6] (i := 5) (oi := ⟨some 52, _, _, _, _, _⟩) (v := ?_) rfl (by kernel_rfl) (by kernel_rfl) (by kernel_rfl) (by kernel_rfl) (by kernel_rfl) (by kernel_rfl) (fun _ _ _ h => h) (Or.inl ⟨by rfl, ?_⟩) (by assumption) ?_
          rotate_left
          · (intro w hSw; (try dsimp only at hSw); obtain ⟨kk, kf⟩ := hC.out _ hSw.out; (go_simp <;> with_reducible rfl))
          try simp only [Act.put, List.setIfInBounds_toArray, List.set_cons_zero, List.set_cons_succ]
          refine AnyZ.takeU [19, 16, 15] (i := 6) (oi := ⟨some 53, _, _, _, _, _⟩) (v := ?_) rfl (by kernel_rfl) (by kernel_rfl) (by kernel_rfl) (by kernel_rfl) (by kernel_rfl) (by kernel_rfl) (fun _ _ _ h => h) (Or.inl ⟨by rfl, ?_⟩) (by assumption) ?_
          rotate_left
          · (intro w hSw; (try dsimp only at hSw); obtain ⟨kk, kf⟩ := hC.out _ hSw.out; (go_simp <;> with_reducible rfl))
          try simp only [Act.put, List.setIfInBounds_toArray, List.set_cons_zero, List.set_cons_succ]
          refine AnyZ.takeU [19, 16, 15] (i := 7) (oi := ⟨some 54, _, _, _, _, _⟩) (v := ?_) rfl (by kernel_rfl) (by kernel_rfl) (by kernel_rfl) (by kernel_rfl) (by kernel_rfl) (by kernel_rfl) (fun _ _ _ h => h) (Or.inl ⟨by rfl, ?_⟩) (by assumption) ?_
          rotate_left
          · (intro w hSw; (try dsimp only at hSw); obtain ⟨kk, kf⟩ := hC.out _ hSw.out; (go_simp <;> with_reducible rfl))
          try simp only [Act.put, List.setIfInBounds_toArray, List.set_cons_zero, List.set_cons_succ]
          refine AnyZ.takeU [19, 16, 15, 14, 11, 10, 9] (i := 8) (oi := ⟨some 55, _, _, _, _, _⟩) (v := ?_) rfl (by kernel_rfl) (by kernel_rfl) (by kernel_rfl) (by kernel_rfl) (by kernel_rfl) (by kernel_rfl) (fun _ _ _ h => h) (Or.inl ⟨by rfl, ?_⟩) (by assumption) ?_
          rotate_left
          · (intro w hSw; (try dsimp only at hSw); obtain ⟨kk, kf⟩ := hC.out _ hSw.out; (go_simp <;> with_reducible rfl))
          try simp only [Act.put, List.setIfInBounds_toArray, List.set_cons_zero, List.set_cons_succ]
          refine AnyZ.takeU [19, 16, 15, 14, 11, 10] (i := 9) (oi := ⟨some 56, _, _, _, _, _⟩) (v := ?_) rfl (by kernel_rfl) (by kernel_rfl) (by kernel_rfl) (by kernel_rfl) (by kernel_rfl) (by kernel_rfl) (fun _ _ _ h => h) (Or.inl ⟨by rfl, ?_⟩) (by assumption) ?_
          rotate_left
          · (intro w hSw; (try dsimp only at hSw); obtain ⟨kk, kf⟩ := hC.out _ hSw.out; (go_simp <;> with_reducible rfl))
          try simp only [Act.put, List.setIfInBounds_toArray, List.set_cons_zero, List.set_cons_succ]
          refine AnyZ.takeU [19, 16, 15, 14, 11] (i := 10) (oi := ⟨some 57, _, _, _, _, _⟩) (v := ?_) rfl (by kernel_rfl) (by kernel_rfl) (by kernel_rfl) (by kernel_rfl) (by kernel_rfl) (by kernel_rfl) (fun _ _ _ h => h) (Or.inl ⟨by rfl, ?_⟩) (by assumption) ?_
          rotate_left
          · (intro w hSw; (try dsimp only at hSw); obtain ⟨kk, kf⟩ := hC.out _ hSw.out; (go_simp <;> with_reducible rfl))
          try simp only [Act.put, List.setIfInBounds_toArray, List.set_cons_zero, List.set_cons_succ]
          refine AnyZ.takeU [19, 16, 15, 14] (i := 11) (oi := ⟨some 58, _, _, _, _, _⟩) (v := ?_) rfl (by kernel_rfl) (by kernel_rfl) (by kernel_rfl) (by kernel_rfl) (by kernel_rfl) (by kernel_rfl) (fun _ _ _ h => h) (Or.inl ⟨by rfl, ?_⟩) (by assumption) ?_
          rotate_left
          · (intro w hSw; (try dsimp only at hSw); obtain ⟨kk, kf⟩ := hC.out _ hSw.out; (go_simp <;> with_reducible rfl))
          try simp only [Act.put, List.setIfInBounds_toArray, List.set_cons_zero, List.set_cons_succ]
          refine AnyZ.takeU [19, 16, 15, 14, 13] (i := 12) (oi := ⟨some 59, _, _, _, _, _⟩) (v := ?_) rfl (by kernel_rfl) (by kernel_rfl) (by kernel_rfl) (by kernel_rfl) (by kernel_rfl) (by kernel_rfl) (fun _ _ _ h => h) (Or.inl ⟨by rfl, ?_⟩) (by assumption) ?_
          rotate_left
          · (intro w hSw; (try dsimp only at hSw); obtain ⟨kk, kf⟩ := hC.out _ hSw.out; (go_simp <;> with_reducible rfl))
          try simp only [Act.put, List.setIfInBounds_toArray, List.set_cons_zero, List.set_cons_succ]
          refine AnyZ.takeU [19, 16, 15, 14] (i := 13) (oi := ⟨some 60, _, _, _, _, _⟩) (v := ?_) rfl (by kernel_rfl) (by kernel_rfl) (by kernel_rfl) (by kernel_rfl) (by kernel_rfl) (by kernel_rfl) (fun _ _ _ h => h) (Or.inl ⟨by rfl, ?_⟩) (by assumption) ?_
          rotate_left
          · (intro w hSw; (try dsimp only at hSw); obtain ⟨kk, kf⟩ := hC.out _ hSw.out; (go_simp <;> with_reducible rfl))
          try simp only [Act.put, List.setIfInBounds_toArray, List.set_cons_zero, List.set_cons_succ]
          refine AnyZ.takeU [19, 16, 15] (i := 14) (oi := ⟨some 61, _, _, _, _, _⟩) (v := ?_) rfl (by kernel_rfl) (by kernel_rfl) (by kernel_rfl) (by kernel_rfl) (by kernel_rfl) (by kernel_rfl) (fun _ _ _ h => h) (Or.inl ⟨by rfl, ?_⟩) (by assumption) ?_
          rotate_left
          · (intro w hSw; (try dsimp only at hSw); obtain ⟨kk, kf⟩ := hC.out _ hSw.out; (go_simp <;> with_reducible rfl))
          try simp only [Act.put, List.setIfInBounds_toArray, List.set_cons_zero, List.set_cons_succ]
          refine AnyZ.one (i := 15) (by kernel_rfl) rfl (fun K hK => ?_)
          go_simp
          have B1 : Hid (Below wc.heap.size wc (wc.alloc (.cells #[.slice (some ⟨bA, off, none⟩) i (i + 1), .slice A7 (rest r s).length c7, .slice (some ⟨bA, off, none⟩) 0 0] 90)).drew) := ((Below.refl _ wc).alloc (Nat.le_refl _) _).drew
          refine hK.out _ _ (.inr (by assumption)) ?_
          clear hK K
          try simp only [Act.put, List.setIfInBounds_toArray, List.set_cons_zero, List.set_cons_succ]
          refine AnyZ.one (i := 16) (by kernel_rfl) rfl (fun K hK => ?_)
          go_simp
          go_at_call 215
          refine (hcat.out _ B1.out _ (World.size_alloc _ _) (blk_drew (blk_new _ _))).mono ?_
          rintro e w5 ⟨v5, rfl, ho5, hb5⟩
          obtain ⟨A5, c5, rfl, _⟩ := ho5.rd Span.ok
          have B5 : Hid (Below wc.heap.size wc w5) := bl_then B1.out B1.out.size hb5
          have HE := Lib.hid (hFin.out w5 _ B5.out (ho5.mono (by simp)))
          obtain ⟨kk5, kf5⟩ := hC.out _ B5.out
          clear ho5 hb5
          refine hK.out _ _ (.inr (by assumption)) ?_
          clear hK K
          try simp only [Act.put, List.setIfInBounds_toArray, List.set_cons_zero, List.set_cons_succ]
          refine AnyZ.takeU [19, 18] (i := 17) (oi := ⟨some 64, _, _, _, _, _⟩) (v := ?_) rfl (by kernel_rfl) (by kernel_rfl) (by kernel_rfl) (by kernel_rfl) (by kernel_rfl) (by kernel_rfl) (fun _ _ _ h => h) (Or.inl ⟨by rfl, ?_⟩) (by assumption) ?_
          rotate_left
          · (intro w hSw; (try dsimp only at hSw); obtain ⟨kk, kf⟩ := hC.out _ hSw.out; (go_simp <;> with_reducible rfl))
          try simp only [Act.put, List.setIfInBounds_toArray, List.set_cons_zero, List.set_cons_succ]
          refine AnyZ.takeU [19] (i := 18) (oi := ⟨some 65, _, _, _, _, _⟩) (v := ?_) rfl (by kernel_rfl) (by kernel_rfl) (by kernel_rfl) (by kernel_rfl) (by kernel_rfl) (by kernel_rfl) (fun _ _ _ h => h) (Or.inl ⟨by rfl, ?_⟩) (by assumption) ?_
          rotate_left
          · (intro w hSw; (try dsimp only at hSw); obtain ⟨kk, kf⟩ := hC.out _ hSw.out; (go_simp <;> with_reducible rfl))
          try simp only [Act.put, List.setIfInBounds_toArray, List.set_cons_zero, List.set_cons_succ]
          refine AnyZ.one (i := 19) (by kernel_rfl) rfl (fun K hK => ?_)
          go_simp
          refine hK.out _ _ (.inl rfl) ?_
          clear hK K
          try simp only [Act.put, List.setIfInBounds_toArray, List.set_cons_zero, List.set_cons_succ]
          refine AnyZ.done (by kernel_rfl) ?_ _
          refine NoPanic.normal ?_
          go_wp2_with fail
          go_end0
          exact ⟨rfl, HE.out⟩
        · have hcat : Hid (∀ W, Below wc.heap.size wc W → ∀ b : Nat, W.heap.size = b + 1 → W.heap[b]? = some (.cells #[.slice (some ⟨bA, off, none⟩) i c, .slice A7 (rest r s).length c7, .slice (some ⟨bA, off + (i + 1) * 2, none⟩) (D.l.length - (i + 1)) (c - (i + 1))] 90 (0, 0)) → Calls Tryz.prog 215 #[.slice (some ⟨b, 0, none⟩) 3 3] W fun e w' => ConcatR W w' (cutL D.l i s) e) := fun W hW b hbs hblk => by
            have e1 : (D.l.take i).length = i := by rw [List.length_take]; omega
            have e2 : (D.l.drop (i + 1)).length = D.l.length - (i + 1) := List.length_drop
            have hall : allP [⟨some ⟨bA, off, none⟩, c, D.l.take i⟩, ⟨A7, c7, rest r s⟩, ⟨some ⟨bA, off + (i + 1) * 2, none⟩, c - (i + 1), D.l.drop (i + 1)⟩] = cutL D.l i s := by rw [← hcut.out]; simp [allP]
            rw [← hall]
            refine concat_calls W b 0 3 [⟨some ⟨bA, off, none⟩, c, D.l.take i⟩, ⟨A7, c7, rest r s⟩, ⟨some ⟨bA, off + (i + 1) * 2, none⟩, c - (i + 1), D.l.drop (i + 1)⟩] ?_ (by omega) ?_ (by simp) (by omega) ?_
            · intro k p hk
              rw [blk_cell hblk]
              rcases (show k = 0 ∨ k = 1 ∨ k = 2 ∨ 3 ≤ k by omega) with rfl | rfl | rfl | h3
              · simp at hk; subst hk; simp [Piece.v]; omega
              · simp at hk; subst hk; simp [Piece.v]
              · simp at hk; subst hk; simp [Piece.v]
              · rw [List.getElem?_eq_none (by simpa using h3)] at hk; cases hk
            · intro p hp
              simp only [List.mem_cons, List.not_mem_nil, or_false] at hp
              have hrw := hR0.out.below hW (by exact Nat.le_refl _)
              rcases hp with rfl | rfl | rfl
              · exact hrw.take i
              · exact HR7.out.below hW (Nat.le_refl _)
              · exact hrw.drop (i + 1)
            · unfold sumP
              rw [hall]
              have := hcl.out
              omega
          clear HM hR0 hcl hcut HR7 HR HI HW
          go_wp2_with fail
          refine wp_region_noPanic ?_
          refine wp_regionZ 19 (fun W => Hid (Below wc.heap.size wc W)) (by kernel_rfl) ?_
          refine AnyZ.takeU [19, 18, 17] (i := 0) (oi := ⟨some 47, _, _, _, _, _⟩) (v := ?_) rfl (by kernel_rfl) (by kernel_rfl) (by kernel_rfl) (by kernel_rfl) (by kernel_rfl) (by kernel_rfl) (fun _ _ _ h => h) (Or.inl ⟨by rfl, ?_⟩) (by assumption) ?_
          rotate_left
          · (intro w hSw; (try dsimp only at hSw); obtain ⟨kk, kf⟩ := hC.out _ hSw.out; (go_simp <;> with_reducible rfl))
          try simp only [Act.put, List.setIfInBounds_toArray, List.set_cons_zero, List.set_cons_succ]
          refine AnyZ.takeU [19, 16, 15, 6, 4, 3, 2] (i := 1) (oi := ⟨some 48, _, _, _, _, _⟩) (v := ?_) rfl (by kernel_rfl) (by kernel_rfl) (by kernel_rfl) (by kernel_rfl) (by kernel_rfl) (by kernel_rfl) (fun _ _ _ h => h) (Or.inl ⟨by rfl, ?_⟩) (by assumption) ?_
          rotate_left
          · (intro w hSw; (try dsimp only at hSw); obtain ⟨kk, kf⟩ := hC.out _ hSw.out; (go_simp <;> with_reducible rfl))
          try simp only [Act.put, List.setIfInBounds_toArray, List.set_cons_zero, List.set_cons_succ]
          refine AnyZ.takeU [19, 16, 15, 6, 4, 3] (i := 2) (oi := ⟨some 49, _, _, _, _, _⟩) (v := ?_) rfl (by kernel_rfl) (by kernel_rfl) (by kernel_rfl) (by kernel_rfl) (by kernel_rfl) (by kernel_rfl) (fun _ _ _ h => h) (Or.inl ⟨by rfl, ?_⟩) (by assumption) ?_
          rotate_left
          · (intro w hSw; (try dsimp only at hSw); obtain ⟨kk, kf⟩ := hC.out _ hSw.out; (go_simp <;> with_reducible rfl))
          try simp only [Act.put, List.setIfInBounds_toArray, List.set_cons_zero, List.set_cons_succ]
          refine AnyZ.takeU [19, 16, 15, 6, 4] (i := 3) (oi := ⟨some 50, _, _, _, _, _⟩) (v := ?_) rfl (by kernel_rfl) (by kernel_rfl) (by kernel_rfl) (by kernel_rfl) (by kernel_rfl) (by kernel_rfl) (fun _ _ _ h => h) (Or.inl ⟨by rfl, ?_⟩) (by assumption) ?_
          rotate_left
          · (intro w hSw; (try dsimp only at hSw); obtain ⟨kk, kf⟩ := hC.out _ hSw.out; (go_simp <;> with_reducible rfl))
          try simp only [Act.put, List.setIfInBounds_toArray, List.set_cons_zero, List.set_cons_succ]
          refine AnyZ.takeU [19, 16, 15, 6] (i := 4) (oi := ⟨some 51, _, _, _, _, _⟩) (v := ?_) rfl (by kernel_rfl) (by kernel_rfl) (by kernel_rfl) (by kernel_rfl) (by kernel_rfl) (by kernel_rfl) (fun _ _ _ h => h) (Or.inl ⟨by rfl, ?_⟩) (by assumption) ?_
          rotate_left
          · (intro w hSw; (try dsimp only at hSw); obtain ⟨kk, kf⟩ := hC.out _ hSw.out; (go_simp <;> with_reducible rfl))
          try simp only [Act.put, List.setIfInBounds_toArray, List.set_cons_zero, List.set_cons_succ]
          refine AnyZ.takeU [19, 16, 15, 6] (i := 5) (oi := ⟨some 52, _, _, _, _, _⟩) (v := ?_) rfl (by kernel_rfl) (by kernel_rfl) (by kernel_rfl) (by kernel_rfl) (by kernel_rfl) (by kernel_rfl) (fun _ _ _ h => h) (Or.inl ⟨by rfl, ?_⟩) (by assumption) ?_
          rotate_left
          · (intro w hSw; (try dsimp only at hSw); obtain ⟨kk, kf⟩ := hC.out _ hSw.out; (go_simp <;> with_reducible rfl))
          try simp only [Act.put, List.setIfInBounds_toArray, List.set_cons_zero, List.set_cons_succ]
          refine AnyZ.takeU [19, 16, 15] (i := 6) (oi := ⟨some 53, _, _, _, _, _⟩) (v := ?_) rfl (by kernel_rfl) (by kernel_rfl) (by kernel_rfl) (by kernel_rfl) (by kernel_rfl) (by kernel_rfl) (fun _ _ _ h => h) (Or.inl ⟨by rfl, ?_⟩) (by assumption) ?_
          rotate_left
          · (intro w hSw; (try dsimp only at hSw); obtain ⟨kk, kf⟩ := hC.out _ hSw.out; (go_simp <;> with_reducible rfl))
          try simp only [Act.put, List.setIfInBounds_toArray, List.set_cons_zero, List.set_cons_succ]
          refine AnyZ.takeU [19, 16, 15] (i := 7) (oi := ⟨some 54, _, _, _, _, _⟩) (v := ?_) rfl (by kernel_rfl) (by kernel_rfl) (by kernel_rfl) (by kernel_rfl) (by kernel_rfl) (by kernel_rfl) (fun _ _ _ h => h) (Or.inl ⟨by rfl, ?_⟩) (by assumption) ?_
          rotate_left
          · (intro w hSw; (try dsimp only at hSw); obtain ⟨kk, kf⟩ := hC.out _ hSw.out; (go_simp <;> with_reducible rfl))
          try simp only [Act.put, List.setIfInBounds_toArray, List.set_cons_zero, List.set_cons_succ]
          refine AnyZ.takeU [19, 16, 15, 14, 11, 10, 9] (i := 8) (oi := ⟨some 55, _, _, _, _, _⟩) (v := ?_) rfl (by kernel_rfl) (by kernel_rfl) (by kernel_rfl) (by kernel_rfl) (by kernel_rfl) (by kernel_rfl) (fun _ _ _ h => h) (Or.inl ⟨by rfl, ?_⟩) (by assumption) ?_
          rotate_left
          · (intro w hSw; (try dsimp only at hSw); obtain ⟨kk, kf⟩ := hC.out _ hSw.out; (go_simp <;> with_reducible rfl))
          try simp only [Act.put, List.setIfInBounds_toArray, List.set_cons_zero, List.set_cons_succ]
          refine AnyZ.takeU [19, 16, 15, 14, 11, 10] (i := 9) (oi := ⟨some 56, _, _, _, _, _⟩) (v := ?_) rfl (by kernel_rfl) (by kernel_rfl) (by kernel_rfl) (by kernel_rfl) (by kernel_rfl) (by kernel_rfl) (fun _ _ _ h => h) (Or.inl ⟨by rfl, ?_⟩) (by assumption) ?_
          rotate_left
          · (intro w hSw; (try dsimp only at hSw); obtain ⟨kk, kf⟩ := hC.out _ hSw.out; (go_simp <;> with_reducible rfl))
          try simp only [Act.put, List.setIfInBounds_toArray, List.set_cons_zero, List.set_cons_succ]
          refine AnyZ.takeU [19, 16, 15, 14, 11] (i := 10) (oi := ⟨some 57, _, _, _, _, _⟩) (v := ?_) rfl (by kernel_rfl) (by kernel_rfl) (by kernel_rfl) (by kernel_rfl) (by kernel_rfl) (by kernel_rfl) (fun _ _ _ h => h) (Or.inl ⟨by rfl, ?_⟩) (by assumption) ?_
          rotate_left
          · (intro w hSw; (try dsimp only at hSw); obtain ⟨kk, kf⟩ := hC.out _ hSw.out; (go_simp <;> with_reducible rfl))
          try simp only [Act.put, List.setIfInBounds_toArray, List.set_cons_zero, List.set_cons_succ]
          refine AnyZ.takeU [19, 16, 15, 14] (i := 11) (oi := ⟨some 58, _, _, _, _, _⟩) (v := ?_) rfl (by kernel_rfl) (by kernel_rfl) (by kernel_rfl) (by kernel_rfl) (by kernel_rfl) (by kernel_rfl) (fun _ _ _ h => h) (Or.inl ⟨by rfl, ?_⟩) (by assumption) ?_
          rotate_left
          · (intro w hSw; (try dsimp only at hSw); obtain ⟨kk, kf⟩ := hC.out _ hSw.out; (go_simp <;> with_reducible rfl))
          try simp only [Act.put, List.setIfInBounds_toArray, List.set_cons_zero, List.set_cons_succ]
          refine AnyZ.takeU [19, 16, 15, 14, 13] (i := 12) (oi := ⟨some 59, _, _, _, _, _⟩) (v := ?_) rfl (by kernel_rfl) (by kernel_rfl) (by kernel_rfl) (by kernel_rfl) (by kernel_rfl) (by kernel_rfl) (fun _ _ _ h => h) (Or.inl ⟨by rfl, ?_⟩) (by assumption) ?_
          rotate_left
          · (intro w hSw; (try dsimp only at hSw); obtain ⟨kk, kf⟩ := hC.out _ hSw.out; (go_simp <;> with_reducible rfl))
          try simp only [Act.put, List.setIfInBounds_toArray, List.set_cons_zero, List.set_cons_succ]
          refine AnyZ.takeU [19, 16, 15, 14] (i := 13) (oi := ⟨some 60, _, _, _, _, _⟩) (v := ?_) rfl (by kernel_rfl) (by kernel_rfl) (by kernel_rfl) (by kernel_rfl) (by kernel_rfl) (by kernel_rfl) (fun _ _ _ h => h) (Or.inl ⟨by rfl, ?_⟩) (by assumption) ?_
          rotate_left
          · (intro w hSw; (try dsimp only at hSw); obtain ⟨kk, kf⟩ := hC.out _ hSw.out; (go_simp <;> with_reducible rfl))
          try simp only [Act.put, List.setIfInBounds_toArray, List.set_cons_zero, List.set_cons_succ]
          refine AnyZ.takeU [19, 16, 15] (i := 14) (oi := ⟨some 61, _, _, _, _, _⟩) (v := ?_) rfl (by kernel_rfl) (by kernel_rfl) (by kernel_rfl) (by kernel_rfl) (by kernel_rfl) (by kernel_rfl) (fun _ _ _ h => h) (Or.inl ⟨by rfl, ?_⟩) (by assumption) ?_
          rotate_left
          · (intro w hSw; (try dsimp only at hSw); obtain ⟨kk, kf⟩ := hC.out _ hSw.out; (go_simp <;> with_reducible rfl))
          try simp only [Act.put, List.setIfInBounds_toArray, List.set_cons_zero, List.set_cons_succ]
          refine AnyZ.one (i := 15) (by kernel_rfl) rfl (fun K hK => ?_)
          go_simp
          have B1 : Hid (Below wc.heap.size wc (wc.alloc (.cells #[.slice (some ⟨bA, off, none⟩) i c, .slice A7 (rest r s).length c7, .slice (some ⟨bA, off + (i + 1) * 2, none⟩) (D.l.length - (i + 1)) (c - (i + 1))] 90)).drew) := ((Below.refl _ wc).alloc (Nat.le_refl _) _).drew
          refine hK.out _ _ (.inr (by assumption)) ?_
          clear hK K
          try simp only [Act.put, List.setIfInBounds_toArray, List.set_cons_zero, List.set_cons_succ]
          refine AnyZ.one (i := 16) (by kernel_rfl) rfl (fun K hK => ?_)
          go_simp
          go_at_call 215
          refine (hcat.out _ B1.out _ (World.size_alloc _ _) (blk_drew (blk_new _ _))).mono ?_
          rintro e w5 ⟨v5, rfl, ho5, hb5⟩
          obtain ⟨A5, c5, rfl, _⟩ := ho5.rd Span.ok
          have B5 : Hid (Below wc.heap.size wc w5) := bl_then B1.out B1.out.size hb5
          have HE := Lib.hid (hFin.out w5 _ B5.out (ho5.mono (by simp)))
          obtain ⟨kk5, kf5⟩ := hC.out _ B5.out
          clear ho5 hb5
          refine hK.out _ _ (.inr (by assumption)) ?_
          clear hK K
          try simp only [Act.put, List.setIfInBounds_toArray, List.set_cons_zero, List.set_cons_succ]
          refine AnyZ.takeU [19, 18] (i := 17) (oi := ⟨some 64, _, _, _, _, _⟩) (v := ?_) rfl (by kernel_rfl) (by kernel_rfl) (by kernel_rfl) (by kernel_rfl) (by kernel_rfl) (by kernel_rfl) (fun _ _ _ h => h) (Or.inl ⟨by rfl, ?_⟩) (by assumption) ?_
          rotate_left
          · (intro w hSw; (try dsimp only at hSw); obtain ⟨kk, kf⟩ := hC.out _ hSw.out; (go_simp <;> with_reducible rfl))
          try simp only [Act.put, List.setIfInBounds_toArray, List.set_cons_zero, List.set_cons_succ]
          refine AnyZ.takeU [19] (i := 18) (oi := ⟨some 65, _, _, _, _, _⟩) (v := ?_) rfl (by kernel_rfl) (by kernel_rfl) (by kernel_rfl) (by kernel_rfl) (by kernel_rfl) (by kernel_rfl) (fun _ _ _ h => h) (Or.inl ⟨by rfl, ?_⟩) (by assumption) ?_
          rotate_left
          · (intro w hSw; (try dsimp only at hSw); obtain ⟨kk, kf⟩ := hC.out _ hSw.out; (go_simp <;> with_reducible rfl))
          try simp only [Act.put, List.setIfInBounds_toArray, List.set_cons_zero, List.set_cons_succ]
          refine AnyZ.one (i := 19) (by kernel_rfl) rfl (fun K hK => ?_)
          go_simp
          refine hK.out _ _ (.inl rfl) ?_
          clear hK K
          try simp only [Act.put, List.setIfInBounds_toArray, List.set_cons_zero, List.set_cons_succ]
          refine AnyZ.done (by kernel_rfl) ?_ _
          refine NoPanic.normal ?_
          go_wp2_with fail
          go_end0
          exact ⟨rfl, HE.out⟩
end
end Go.Proofs.YtikgplhcadomcaaGreat

namespace Go.Proofs.YtikgplhcadomcaaGreat
open Go.RowKit
set_option linter.unusedVariables false
set_option linter.unusedSimpArgs false

def Fr.take (D : Fr) (n : Int) : (Int × Bool) × Fr :=
  if n < 1 then ((0, false), D) else if place (room ⟨0, n⟩) D.l < 0 then ((0, false), D) else
    (((D.l.getD (place (room ⟨0, n⟩) D.l).toNat default).start, true), { D with l := cutL D.l (place (room ⟨0, n⟩) D.l).toNat ⟨(D.l.getD (place (room ⟨0, n⟩) D.l).toNat default).start, n⟩ })
def Fr.claim (D : Fr) (s : Span) : Bool × Fr := if D.has s then (true, { D with l := cutL D.l (place (within s) D.l).toNat s }) else (false, D)
section
variable {w : World} {g : Nat} {F : Nat → Prop} {D : Fr}
set_option maxRecDepth 100000 in
set_option maxHeartbeats 4000000 in
theorem take_calls (h : FrAt w g F D) (n : Int) : Calls Tryz.prog 168 #[.pointer (some ⟨g, 0, none⟩), .int .i64 n] w fun e w' => e = .returned (.tuple #[.int .i64 (D.take n).1.1, .bool (D.take n).1.2]) ∧ FrDid F w w' g (D.take n).2 := by
  have HD := Lib.hid (FrDid.refl h)
  have HH := Lib.hid h
  rcases (Decidable.em (n < 1)) with hn | hn
  · have he : Hid (D.take n = ((0, false), D)) := by show _ = _; unfold Fr.take; rw [if_pos hn]
    go_enter Tryz.func168, Tryz.ntmps168
    go_wp2
    go_ret2
    rw [he.out]
    exact ⟨rfl, HD.out⟩
  have hrow := Lib.hid (row_room h ⟨0, n⟩)
  rcases (Decidable.em (place (room ⟨0, n⟩) D.l < 0)) with hp | hp
  · have he : Hid (D.take n = ((0, false), D)) := by show _ = _; unfold Fr.take; rw [if_neg hn, if_pos hp]
    clear h
    go_enter Tryz.func168, Tryz.ntmps168
    go_wp2_with fail
    refine hrow.out.mono ?_
    rintro e w1 ⟨rfl, b1⟩
    have B1 := Lib.hid b1
    clear b1
    go_wp2
    go_ret2
    rw [he.out]
    exact ⟨rfl, FrDid.of_below HH.out B1.out⟩
  · have he : Hid (D.take n = (((D.l.getD (place (room ⟨0, n⟩) D.l).toNat default).start, true), { D with l := cutL D.l (place (room ⟨0, n⟩) D.l).toNat ⟨(D.l.getD (place (room ⟨0, n⟩) D.l).toNat default).start, n⟩ })) := by show _ = _; unfold Fr.take; rw [if_neg hn, if_neg hp]
    obtain ⟨i, r, hpl, hir, hrm, _⟩ := place_some hp
    have hgd : D.l.getD i default = r := by rw [List.getD_eq_getElem?_getD, hir]; rfl
    have hwr : Hid (within ⟨r.start, n⟩ r = true) := by
      show _ = _
      simp only [room, decide_eq_true_eq] at hrm
      simp only [within, decide_eq_true_eq]
      omega
    rw [hpl] at he hrow hp
    rw [show ((i : Int)).toNat = i from rfl, hgd] at he
    have HI := Lib.hid hir
    have hil : i < D.l.length := (List.getElem?_eq_some_iff.1 hir).1
    have hgl := h.glt
    have hll := h.okD.len
    obtain ⟨A, c, c0, c1, c2, fz, ho, hr, hc, hv, hb⟩ := h.cells
    obtain ⟨bA, off, rfl, hbl, x0⟩ : ∃ bA off, A = some ⟨bA, off, none⟩ ∧ bA < w.heap.size ∧ w.cell? ⟨bA, off + i * 2, none⟩ = some (.int .i64 r.start) := by
      rcases hr with e | ⟨bA, off, rfl, hlt, hcell⟩
      · rw [e] at hir; simp at hir
      · exact ⟨bA, off, rfl, hlt, (Rd.span (.inr ⟨bA, off, rfl, hlt, hcell⟩) hir).1⟩
    have i0 : (0 : Int) ≤ (i : Int) := by omega
    have i1 : (i : Int) < (D.l.length : Int) := by omega
    have hK : Hid (∀ W, Below w.heap.size w W → W.cell? ⟨g, 2, none⟩ = some (.slice (some ⟨bA, off, none⟩) D.l.length c) ∧ W.cell? ⟨bA, off + i * 2, none⟩ = some (.int .i64 r.start)) := fun W hW => ⟨(hW.cell (by exact hgl)).trans c2, (hW.cell (by exact hbl)).trans x0⟩
    have hN : Hid (1 ≤ n) := by show _ ≤ _; omega
    clear h hr hv hb c0 c1 c2 fz ho hgd hpl hir hrm hp x0
    go_enter Tryz.func168, Tryz.ntmps168
    go_wp2_with fail
    refine hrow.out.mono ?_
    rintro e w1 ⟨rfl, b1⟩
    have B1 := Lib.hid b1
    obtain ⟨k2, k3⟩ := hK.out w1 b1
    clear b1
    go_wp2_with fail
    refine (cut_calls (HH.out.below B1.out) i ⟨r.start, n⟩ r HI.out hN.out hwr.out).mono ?_
    rintro e w2 ⟨rfl, hd⟩
    have HD2 := Lib.hid (hd.after (Below.chg B1.out F) (fun i hi => .inl hi))
    clear hd
    go_wp2
    go_ret2
    rw [he.out]
    exact ⟨rfl, HD2.out⟩
set_option maxRecDepth 100000 in
set_option maxHeartbeats 4000000 in
theorem claim_calls (h : FrAt w g F D) (s : Span) : Calls Tryz.prog 162 #[.pointer (some ⟨g, 0, none⟩), .agg #[.int .i64 s.start, .int .i64 s.pages]] w fun e w' => e = .returned (.bool (D.claim s).1) ∧ FrDid F w w' g (D.claim s).2 := by
  have hh1 := Lib.hid (h.alloc (.cells #[.int .i64 s.start, .int .i64 s.pages] 160))
  have hb1 : Hid (Below w.heap.size w (w.alloc (.cells #[.int .i64 s.start, .int .i64 s.pages] 160))) := bl_alloc (Below.refl _ w) _
  have hs1 : Hid (∀ W, Below (w.alloc (.cells #[.int .i64 s.start, .int .i64 s.pages] 160)).heap.size (w.alloc (.cells #[.int .i64 s.start, .int .i64 s.pages] 160)) W → W.cell? ⟨w.heap.size, 0, none⟩ = some (.int .i64 s.start) ∧ W.cell? ⟨w.heap.size, 1, none⟩ = some (.int .i64 s.pages)) := fun W hW =>
    span_at (blk_below hW (blk_new w (.cells s.cells 160)) (by simp))
  have HH := Lib.hid h
  clear h
  go_enter Tryz.func162, Tryz.ntmps162
  go_wp2_with fail
  refine (fhas_calls hh1.out s).mono ?_
  rintro e w1 ⟨rfl, b1⟩
  have B1 : Hid (Below w.heap.size w w1) := bl_then hb1.out hb1.out.size b1
  have hS1 : Hid (∀ W, Below w1.heap.size w1 W → W.cell? ⟨w.heap.size, 0, none⟩ = some (.int .i64 s.start) ∧ W.cell? ⟨w.heap.size, 1, none⟩ = some (.int .i64 s.pages)) := fun W hW => hs1.out W (bl_then b1 b1.size hW)
  clear b1
  rcases ht : D.has s with _ | _
  · have he : Hid (D.claim s = (false, D)) := by show _ = _; unfold Fr.claim; rw [ht]; rfl
    go_wp2
    go_ret
    rw [he.out]
    exact ⟨rfl, FrDid.of_below HH.out B1.out⟩
  · have ht2 := ht
    simp only [Fr.has, Bool.and_eq_true, decide_eq_true_eq] at ht2
    have hF := Lib.hid (Fr.there_fits (s := s) HH.out.okD ht2.1)
    have hpg : Hid (1 ≤ s.pages) := by have := ht2.1; simp only [Fr.there, decide_eq_true_eq] at this; exact this.1
    obtain ⟨i, r, hpl, hir, hrm, _⟩ := place_some (show ¬ place (within s) D.l < 0 by omega)
    have he : Hid (D.claim s = (true, { D with l := cutL D.l i s })) := by show _ = _; unfold Fr.claim; rw [ht, hpl]; rfl
    have hpl := Lib.hid hpl
    have hir := Lib.hid hir
    have hwr := Lib.hid hrm
    have h1 := Lib.hid (HH.out.below B1.out)
    have hb0 : Hid (Below w1.heap.size w1 w1.drew) := (Below.refl _ w1).drew
    clear ht2 hrm
    go_wp2_with fail
    refine wp_region_noPanic ?_
    refine wp_regionZ 7 (fun W => Hid (Below w1.heap.size w1 W)) (by kernel_rfl) ?_
    refine AnyZ.takeU [7] (i := 0) (oi := ⟨some 9, _, _, _, _, _⟩) (v := ?_) rfl (by kernel_rfl) (by kernel_rfl) (by kernel_rfl) (by kernel_rfl) (by kernel_rfl) (by kernel_rfl) (fun _ _ _ h => h) (Or.inl ⟨by rfl, ?_⟩) (by assumption) ?_
    rotate_left
    · (intro w hSw; (try dsimp only at hSw); obtain ⟨y0, y1⟩ := hS1.out _ hSw.out; (go_simp <;> with_reducible rfl))
    try simp only [Act.put, List.setIfInBounds_toArray, List.set_cons_zero, List.set_cons_succ]
    refine AnyZ.takeU [7, 5] (i := 1) (oi := ⟨some 10, _, _, _, _, _⟩) (v := ?_) rfl (by kernel_rfl) (by kernel_rfl) (by kernel_rfl) (by kernel_rfl) (by kernel_rfl) (by kernel_rfl) (fun _ _ _ h => h) (Or.inl ⟨by rfl, ?_⟩) (by assumption) ?_
    rotate_left
    · (intro w hSw; (try dsimp only at hSw); obtain ⟨y0, y1⟩ := hS1.out _ hSw.out; (go_simp <;> with_reducible rfl))
    try simp only [Act.put, List.setIfInBounds_toArray, List.set_cons_zero, List.set_cons_succ]
    refine AnyZ.takeU [7, 5, 4, 3] (i := 2) (oi := ⟨some 11, _, _, _, _, _⟩) (v := ?_) rfl (by kernel_rfl) (by kernel_rfl) (by kernel_rfl) (by kernel_rfl) (by kernel_rfl) (by kernel_rfl) (fun _ _ _ h => h) (Or.inl ⟨by rfl, ?_⟩) (by assumption) ?_
    rotate_left
    · (intro w hSw; (try dsimp only at hSw); obtain ⟨y0, y1⟩ := hS1.out _ hSw.out; (go_simp <;> with_reducible rfl))
    try simp only [Act.put, List.setIfInBounds_toArray, List.set_cons_zero, List.set_cons_succ]
    refine AnyZ.takeU [7, 5, 4] (i := 3) (oi := ⟨some 12, _, _, _, _, _⟩) (v := ?_) rfl (by kernel_rfl) (by kernel_rfl) (by kernel_rfl) (by kernel_rfl) (by kernel_rfl) (by kernel_rfl) (fun _ _ _ h => h) (Or.inl ⟨by rfl, ?_⟩) (by assumption) ?_
    rotate_left
    · (intro w hSw; (try dsimp only at hSw); obtain ⟨y0, y1⟩ := hS1.out _ hSw.out; (go_simp <;> with_reducible rfl))
    try simp only [Act.put, List.setIfInBounds_toArray, List.set_cons_zero, List.set_cons_succ]
    refine AnyZ.takeU [7, 5] (i := 4) (oi := ⟨some 13, _, _, _, _, _⟩) (v := ?_) rfl (by kernel_rfl) (by kernel_rfl) (by kernel_rfl) (by kernel_rfl) (by kernel_rfl) (by kernel_rfl) (fun _ _ _ h => h) (Or.inl ⟨by rfl, ?_⟩) (by assumption) ?_
    rotate_left
    · (intro w hSw; (try dsimp only at hSw); obtain ⟨y0, y1⟩ := hS1.out _ hSw.out; (go_simp <;> with_reducible rfl))
    try simp only [Act.put, List.setIfInBounds_toArray, List.set_cons_zero, List.set_cons_succ]
    refine AnyZ.takeU [7] (i := 6) (oi := ⟨some 15, _, _, _, _, _⟩) (v := ?_) rfl (by kernel_rfl) (by kernel_rfl) (by kernel_rfl) (by kernel_rfl) (by kernel_rfl) (by kernel_rfl) (fun _ _ _ h => h) (Or.inl ⟨by rfl, ?_⟩) (by assumption) ?_
    rotate_left
    · (intro w hSw; (try dsimp only at hSw); obtain ⟨y0, y1⟩ := hS1.out _ hSw.out; (go_simp <;> with_reducible rfl))
    try simp only [Act.put, List.setIfInBounds_toArray, List.set_cons_zero, List.set_cons_succ]
    refine AnyZ.one (i := 5) (by kernel_rfl) rfl (fun K hK => ?_)
    go_simp
    go_at_call 173
    with_reducible refine (row_within (h1.out.below hb0.out) s hF.out).mono ?_
    rintro e w2 ⟨rfl, b2⟩
    have B2 : Hid (Below w1.heap.size w1 w2) := bl_then hb0.out hb0.out.size b2
    clear b2
    refine hK.out _ _ (.inr (by assumption)) ?_
    clear hK K
    try simp only [Act.put, List.setIfInBounds_toArray, List.set_cons_zero, List.set_cons_succ]
    refine AnyZ.one (i := 7) (by kernel_rfl) rfl (fun K hK => ?_)
    go_simp
    go_at_call 192
    refine (cut_calls (h1.out.below B2.out) i s r hir.out hpg.out hwr.out).mono ?_
    rintro e w3 ⟨rfl, hd3⟩
    have HD3 := Lib.hid (hd3.after (Below.chg B2.out F) (fun i hi => .inl hi))
    clear hd3
    refine hK.out _ _ (.inl rfl) ?_
    clear hK K
    try simp only [Act.put, List.setIfInBounds_toArray, List.set_cons_zero, List.set_cons_succ]
    refine AnyZ.done (by kernel_rfl) ?_ _
    refine NoPanic.normal ?_
    go_wp2
    go_ret
    rw [he.out]
    exact ⟨rfl, HD3.out.after (Below.chg B1.out F) (fun i hi => .inl hi)⟩
end
end Go.Proofs.YtikgplhcadomcaaGreat
