/- super.Save, super.Load -/
import Derived.Test.YtglpckdmiohciaaDevNone
import Derived.Test.YtglpckdmiohciaaSupEq
namespace Go.Proofs.Ytglpckdmiohciaa
open Go.RowKit
set_option linter.unusedVariables false
set_option linter.unusedSimpArgs false

def saveR (D : Dv) (s : Sup) : Int × Dv :=
  if D.flush.1 ≠ 0 then D.flush else if (D.flush.2.write (s.epoch % 2) (put s)).1 ≠ 0 then D.flush.2.write (s.epoch % 2) (put s) else (D.flush.2.write (s.epoch % 2) (put s)).2.flush
theorem flush_cache {D : Dv} (h : D.flush.1 = 0) : D.flush.2.cache = [] := by
  unfold Dv.flush at h ⊢
  split
  · rfl
  · rename_i hh
    rw [if_neg hh] at h
    cases h
section
variable {w : World} {g : Nat} {F : Nat → Prop} {D : Dv}
set_option maxRecDepth 100000 in
set_option maxHeartbeats 4000000 in
theorem save_calls (h : DevAt w g F D) (a b c d : Int) (hs : Sup.ok ⟨a, b, c, d⟩) :
    Calls Try.prog 49 #[.pointer (some ⟨g, 0, none⟩), .agg #[.int .u64 a, .int .u32 b, .int .u32 c, .int .u32 d]] w fun e w' => e = .returned (.int .i64 (saveR D ⟨a, b, c, d⟩).1) ∧ Did F w w' g (saveR D ⟨a, b, c, d⟩).2 := by
  obtain ⟨W1, hW1⟩ : ∃ W, W = w.alloc (.cells #[.int .u64 a, .int .u32 b, .int .u32 c, .int .u32 d] 37) := ⟨_, rfl⟩
  have hx1 : W1.heap[w.heap.size]? = some (.cells #[.int .u64 a, .int .u32 b, .int .u32 c, .int .u32 d] 37 (0, 0)) := hW1 ▸ blk_new w _
  have hb1 : Below w.heap.size w W1 := hW1 ▸ bl_alloc (Below.refl _ w) _
  have hs1 : W1.heap.size = w.heap.size + 1 := by rw [hW1]; simp
  have h1 := h.below hb1
  have hflush := Lib.hid (flush_calls h1)
  have HF : Hid (∀ i, F i → i < w.heap.size) := h.lt
  have HX := Lib.hid hx1
  have HC : Hid (Chg F w W1) := Below.chg hb1 F
  clear h h1 hx1 hb1
  go_enter Try.func49, Try.ntmps49
  go_upto_region 1 with fail
  rw [← hW1]
  clear hW1
  go_wp2_with fail
  refine hflush.out.mono ?_
  rintro e w2 ⟨rfl, hd2⟩
  have HD2 := Lib.hid (hd2.after HC.out (fun i hi => .inl hi))
  clear hflush
  rcases (Decidable.em (D.flush.1 = 0)) with hf | hf
  case' inr =>
    have hfb : (D.flush.1 == 0) = false := by simpa using hf
    go_wp2
    go_ret
    exact ⟨ret_int (by unfold saveR; rw [if_pos hf]), by unfold saveR; rw [if_pos hf]; exact HD2.out⟩
  have hc0 := flush_cache hf
  have hW : Hid (saveR D ⟨a, b, c, d⟩ = if (D.flush.2.write (a % 2) (put ⟨a, b, c, d⟩)).1 ≠ 0 then D.flush.2.write (a % 2) (put ⟨a, b, c, d⟩) else (D.flush.2.write (a % 2) (put ⟨a, b, c, d⟩)).2.flush) := by
    show _ = _
    unfold saveR
    rw [if_neg (fun hne => hne hf)]
  generalize hE : D.flush.2 = E at *
  obtain ⟨F2, h2, ch2, s2⟩ := hd2
  have hx2 : w2.heap[w.heap.size]? = some (.cells #[.int .u64 a, .int .u32 b, .int .u32 c, .int .u32 d] 37 (0, 0)) := ch2.blk HX.out (fun hf => Nat.lt_irrefl _ (HF.out _ hf))
  have hnF : ¬ F2 w.heap.size := fun hf => (s2 _ hf).elim (fun q => Nat.lt_irrefl _ (HF.out _ q)) (fun q => by omega)
  have hlt2 := blk_lt hx2
  have cells : ∀ W : World, W.heap[w.heap.size]? = some (.cells #[.int .u64 a, .int .u32 b, .int .u32 c, .int .u32 d] 37 (0, 0)) → W.cell? ⟨w.heap.size, 0, none⟩ = some (.int .u64 a) ∧ W.cell? ⟨w.heap.size, 1, none⟩ = some (.int .u32 b) ∧ W.cell? ⟨w.heap.size, 2, none⟩ = some (.int .u32 c) ∧ W.cell? ⟨w.heap.size, 3, none⟩ = some (.int .u32 d) := fun W h => sup_cells h
  have HS1 : Hid (∀ W : World, Below w2.heap.size w2 W → W.cell? ⟨w.heap.size, 0, none⟩ = some (.int .u64 a) ∧ W.cell? ⟨w.heap.size, 1, none⟩ = some (.int .u32 b) ∧ W.cell? ⟨w.heap.size, 2, none⟩ = some (.int .u32 c) ∧ W.cell? ⟨w.heap.size, 3, none⟩ = some (.int .u32 d)) := fun W hW => cells W (blk_below hW hx2 hlt2)
  have HS2 : Hid (∀ (W w4 : World) (D' : Dv), Below w2.heap.size w2 W → Did F2 W w4 g D' → w4.cell? ⟨w.heap.size, 0, none⟩ = some (.int .u64 a) ∧ w4.cell? ⟨w.heap.size, 1, none⟩ = some (.int .u32 b) ∧ w4.cell? ⟨w.heap.size, 2, none⟩ = some (.int .u32 c) ∧ w4.cell? ⟨w.heap.size, 3, none⟩ = some (.int .u32 d)) := fun W w4 D' hW hd => by
    obtain ⟨F3, _, ch, _⟩ := hd
    exact cells w4 (ch.blk (blk_below hW hx2 hlt2) hnF)
  have HFin : Hid (∀ (W w4 : World) (D' : Dv), Below w2.heap.size w2 W → Did F2 W w4 g D' → Did F w w4 g D') := fun W w4 D' hW hd =>
    hd.after ((HC.out.trans (ch2.trans (Below.chg hW F) (fun i _ hi => hi)) (fun i _ hi => hi))) (fun i hi => (s2 i hi).imp_right (fun q => by omega))
  have HWr : Hid (∀ (W : World) (g3 : Nat), Below w2.heap.size w2 W → w2.heap.size ≤ g3 → Rd by1 1 W (some ⟨g3, 0, none⟩) (put ⟨a, b, c, d⟩) → Calls Try.prog 32 #[.pointer (some ⟨g, 0, none⟩), .int .i64 (a % 2), .slice (some ⟨g3, 0, none⟩) 32 32] W fun e w' => e = .returned (.int .i64 (E.write (a % 2) (put ⟨a, b, c, d⟩)).1) ∧ Did F2 W w' g (E.write (a % 2) (put ⟨a, b, c, d⟩)).2) := fun W g3 hW hg hr =>
    write_calls' (h2.below hW) (a % 2) _ 32 32 _ (put_len _) hr (put_byte _) (Nat.le_refl _) (fun _ x hx hf => by cases hx; have : g3 < w2.heap.size := h2.lt g3 hf; omega) (by rw [hc0]; simp)
  have hb0 : Hid (Below w2.heap.size w2 w2.drew) := (Below.refl _ w2).drew
  have ha0 : 0 ≤ a := hs.1.1
  have ha1 : 0 ≤ a % 2 := by omega
  have ha2 : IntKind.i64.wrap (a.tmod 2) = a % 2 := by rw [Int.tmod_eq_emod_of_nonneg ha0, IntKind.wrap_i64]; omega
  generalize hwr : E.write (a % 2) (put ⟨a, b, c, d⟩) = r at *
  obtain ⟨er, D3⟩ := r
  clear h2 ch2 s2 hx2 hnF cells HC hc0
  go_wp2_with fail
  go_cut [6] (fun s6 wx => s6 = .int .i64 er ∧ Did F w wx g D3)
  case first =>
    go_region_held3 (fun W => W.cell? ⟨w.heap.size, 0, none⟩ = some (.int .u64 a) ∧ W.cell? ⟨w.heap.size, 1, none⟩ = some (.int .u32 b) ∧ W.cell? ⟨w.heap.size, 2, none⟩ = some (.int .u32 c) ∧ W.cell? ⟨w.heap.size, 3, none⟩ = some (.int .u32 d))
      (first | exact HS1.out _ hb0.out | exact HS1.out _ B3.out | exact HS2.out _ _ _ B3.out D4.out)
      (first
        | (go_simp; go_at_call 26; with_reducible refine (put_calls' _ a b c d hs).mono ?_; rintro e w3 ⟨g3, rfl, hr3, hg3, hb3⟩; have R3 := Lib.hid hr3; have G3 := Lib.hid hg3; have B3 := Lib.hid (bl_then hb0.out hb0.out.size hb3); clear hr3 hg3 hb3)
        | (go_simp; go_at_call 32; with_reducible refine (HWr.out _ _ B3.out G3.out R3.out).mono ?_; rintro e w4 ⟨rfl, hd4⟩; have D4 := Lib.hid hd4; clear hd4))
    all_goals (go_wp2_with fail; go_meet; exact ⟨rfl, HFin.out _ _ _ B3.out D4.out⟩)
  case rest =>
    obtain ⟨rfl, hd3⟩ := hcut
    have HD3 := Lib.hid hd3
    clear hd3 HS1 HS2 HFin HWr
    rcases (Decidable.em (er = 0)) with he | he
    · subst he
      obtain ⟨F3, h3, ch3, s3⟩ := HD3.out
      have hflush := Lib.hid (flush_calls h3)
      have HC3 := Lib.hid ch3
      have S3 := Lib.hid s3
      clear h3 ch3 s3
      go_wp2_with fail
      refine hflush.out.mono ?_
      rintro e w5 ⟨rfl, hd5⟩
      have HD5 := Lib.hid (hd5.after HC3.out S3.out)
      clear hd5
      go_wp2
      go_ret
      exact ⟨ret_int (by rw [hW.out]; rfl), by rw [hW.out]; exact HD5.out⟩
    · have heb : (er == 0) = false := by simpa using he
      go_wp2
      go_ret
      exact ⟨ret_int (by rw [hW.out]; simp [he]), by rw [hW.out]; simpa [he] using HD3.out⟩
end
end Go.Proofs.Ytglpckdmiohciaa
