/- law04.few, law04.awake -/
import Derived.Test.YtglpckdmiohciaaOpenDev
import Derived.Laws.MakeOwn
namespace Go.Proofs.Ytglpckdmiohciaa
open Go.RowKit
set_option linter.unusedVariables false
set_option linter.unusedSimpArgs false

/-- An element's cells, for a walk. -/
theorem Deed.cells {W : World} {b off k : Nat} {l : List Deed} {x : Deed} (h : Rd Deed.enc 7 W (some ⟨b, off, none⟩) l) (hx : l[k]? = some x) :
    W.cell? ⟨b, off + k * 7, none⟩ = some (.int .i64 x.kind) ∧ W.cell? ⟨b, off + k * 7 + 1, none⟩ = some (.int .i64 x.pos) ∧ W.cell? ⟨b, off + k * 7 + 2, none⟩ = some (.slice x.A x.b.length x.cb) ∧ W.cell? ⟨b, off + k * 7 + 3, none⟩ = some (.int .i64 x.n) ∧
    W.cell? ⟨b, off + k * 7 + 4, none⟩ = some (.slice x.K x.keep.length x.ck) ∧ W.cell? ⟨b, off + k * 7 + 5, none⟩ = some (.int .i64 x.torn) ∧ W.cell? ⟨b, off + k * 7 + 6, none⟩ = some (.int .i64 x.bytes) := by
  have hr := h.range hx
  exact ⟨hr 0 _ rfl, hr 1 _ rfl, hr 2 _ rfl, hr 3 _ rfl, hr 4 _ rfl, hr 5 _ rfl, hr 6 _ rfl⟩
def FewR (w w' : World) (l : List Deed) (e : Ending) : Prop := ∃ r : Bool, e = .returned (.bool r) ∧ Below w.heap.size w w' ∧ (r = true → l.length ≤ 40)
set_option maxRecDepth 100000 in
set_option maxHeartbeats 4000000 in
theorem few04_calls (w : World) (A : Option Addr) (c : Nat) (l : List Deed) (h : Rd Deed.enc 7 w A l) (hc : l.length ≤ c) (hbig : c ≤ 9223372036854775807) :
    Calls Try.prog 29 #[.slice A l.length c] w fun e w' => FewR w w' l e := by
  have HR := Lib.hid h
  clear h
  go_enter Try.func29, Try.ntmps29
  go_wp2
  go_loopg [7] l.length (fun m i wr => ∃ k : Nat, i = .int .i64 k ∧ k + m = l.length ∧ Hid (Below w.heap.size w wr))
  case atStart => exact ⟨0, rfl, by omega, Below.refl _ _⟩
  case round =>
    obtain ⟨k, rfl, hk, hb⟩ := hrel
    rcases Nat.lt_or_ge k l.length with hlt | hge
    · rcases HR.out with h0 | ⟨b, off, rfl, hbl, hcell⟩
      · simp [h0] at hlt
      have hx : l[k]? = some l[k] := List.getElem?_eq_getElem hlt
      obtain ⟨c0, c1, c2, c3, c4, c5, c6⟩ := Deed.cells (HR.out.below hb.out (Nat.le_refl _)) hx
      generalize l[k] = x at *
      have i0 : (0 : Int) ≤ (k : Int) := by omega
      have i1 : (k : Int) < (l.length : Int) := by omega
      have hb2 : Hid (∀ o, Below w.heap.size w (wr.alloc o)) := fun o => hb.out.alloc hb.out.size o
      clear hcell hx
      rcases (Decidable.em ((100 : Int) < (x.b.length : Int))) with h1 | h1
      · go_wp2
        go_ret
        exact ⟨false, rfl, hb2.out _, fun h => by cases h⟩
      · rcases (Decidable.em ((50 : Int) < (x.keep.length : Int))) with h2 | h2
        · go_wp2
          go_ret
          exact ⟨false, rfl, hb2.out _, fun h => by cases h⟩
        · go_wp2
          go_roundg (gk - 1)
          case measure => omega
          case rel => exact ⟨k + 1, by go_num, by omega, hb2.out _⟩
    · go_wp2
      go_ret
      exact ⟨_, rfl, hb.out, fun h => by simp at h; omega⟩

theorem bl_chg {B : Nat} {F : Nat → Prop} {w w1 w2 : World} (h : Below B w w1) (hB : B ≤ w1.heap.size) (c : Chg F w1 w2) (hF : ∀ i, F i → B ≤ i) : Below B w w2 := h.trans (c.below hB hF)
/-! ### awake -/
def secB : Sec := ⟨1 :: List.replicate 30 0 ++ [2], by decide, by decide⟩
def secT : Sec := ⟨1 :: List.replicate 31 0, by decide, by decide⟩
def dA : Dv := { Dv.new 2 with cache := [⟨1, secB⟩] }
def dB : Dv := { Dv.new 2 with kept := [(1, secT)] }
theorem dA_eq : (Dv.new 2).write 1 secB.1 = (0, dA) := by kernel_rfl
theorem dB_eq : dA.crash ⟨[], 0, 9⟩ = dB := by kernel_rfl
theorem dB_e : dB.readE 1 = 0 := by kernel_rfl
theorem dB_b : dB.readB 1 = secT.1 := by kernel_rfl
theorem write_calls' {w : World} {g : Nat} {F : Nat → Prop} {D : Dv} (h : DevAt w g F D) (p : Int) (A : Option Addr) (n c : Nat) (b : List Int) (hn : b.length = n) (hb : Rd by1 1 w A b) (hbb : byteL b) (hbl : n ≤ c) (hA : b ≠ [] → ∀ a, A = some a → ¬ F a.block) (hcl : D.cache.length ≤ 1000000000000) :
    Calls Try.prog 32 #[.pointer (some ⟨g, 0, none⟩), .int .i64 p, .slice A n c] w fun e w' => e = .returned (.int .i64 (D.write p b).1) ∧ Did F w w' g (D.write p b).2 := by
  subst hn
  exact write_calls h p A c b hb hbb hbl hA hcl
theorem run_make32 (w : World) : (Instr.makeSlice 38 (.int .i64 32) (.int .i64 32)).run Try.prog w = .ok (.slice (some ⟨w.heap.size, 0, none⟩) 32 32) (w.alloc (.cells (secCells sec0).toArray 5)) := by
  obtain ⟨i0, hi, hz0, hz1, hz2⟩ := info_parts (show (Try.prog.info? 5).map (fun i => (i.zero, i.size, i.bytes)) = some (some (.int .u8 0), 1, 1) from by kernel_rfl)
  rw [run_makeSlice w _ _ i0 _ Try.underlying38 hi hz0 _ _ 32 32 (by decide) (by decide) (by rw [hz1]; decide) (by rw [hz2]; decide) (by decide), hz1, show madeCells (Value.int .u8 0).cells (Int.toNat 32 * 1) = (secCells sec0).toArray from by kernel_rfl]
  rfl
/-- Bytes of the law's own: made, two of them set. -/
theorem made_B {w1 : World} : ((w1.alloc (.cells (secCells sec0).toArray 5)).setCell ⟨w1.heap.size, 0, none⟩ (.int .u8 1) |>.setCell ⟨w1.heap.size, 31, none⟩ (.int .u8 2)).heap[w1.heap.size]? = some (.cells (secCells secB).toArray 5 (0, 0)) :=
  blk_set' (blk_set' (blk_new w1 _) 0 _ rfl) 31 _ (by kernel_rfl)
set_option maxRecDepth 100000 in
set_option maxHeartbeats 4000000 in
theorem awake04_calls (w : World) : Calls Try.prog 28 #[] w fun e w' => e = .returned (.bool true) ∧ Below w.heap.size w w' := by
  go_enter Try.func28, Try.ntmps28
  go_wp2_with fail
  refine (new_calls w 2).mono ?_
  rintro e w1 ⟨g, F, rfl, hd, hF, hb⟩
  have HD := Lib.hid hd
  have HF := Lib.hid hF
  have HB := Lib.hid hb
  clear hd hF hb
  have mk := run_make32 w1
  obtain ⟨W2, hW2⟩ : ∃ W, W = w1.alloc (.cells (secCells sec0).toArray 5) := ⟨_, rfl⟩
  have hb2 : W2.heap[w1.heap.size]? = some (.cells (secCells sec0).toArray 5 (0, 0)) := hW2 ▸ blk_new w1 _
  have e0 : W2.cell? ⟨w1.heap.size, 0, none⟩ = some (.int .u8 0) := by rw [blk_cell hb2]; rfl
  have e31 : W2.cell? ⟨w1.heap.size, 31, none⟩ = some (.int .u8 0) := by rw [blk_cell hb2]; rfl
  have f0 := fun i => blk_free hb2 i
  have hB2 := Lib.hid hb2
  rw [← hW2] at mk
  clear hb2
  have HW := Lib.hid hW2
  clear hW2
  have h4 : Hid (((W2.setCell ⟨w1.heap.size, 0, none⟩ (.int .u8 1)).setCell ⟨w1.heap.size, 31, none⟩ (.int .u8 2)).heap[w1.heap.size]? = some (.cells (secCells secB).toArray 5 (0, 0))) := blk_set' (blk_set' hB2.out 0 _ rfl) 31 _ (by kernel_rfl)
  have hb4 : Hid (Below w1.heap.size w1 ((W2.setCell ⟨w1.heap.size, 0, none⟩ (.int .u8 1)).setCell ⟨w1.heap.size, 31, none⟩ (.int .u8 2))) := by
    show Below _ _ _
    rw [HW.out]
    exact bl_set (bl_set (bl_alloc (Below.refl _ w1) _) (Nat.le_refl _) _) (Nat.le_refl _) _
  have hr4 : Hid (Rd by1 1 ((W2.setCell ⟨w1.heap.size, 0, none⟩ (.int .u8 1)).setCell ⟨w1.heap.size, 31, none⟩ (.int .u8 2)) (some ⟨w1.heap.size, 0, none⟩) secB.1) := rd_sec h4.out
  clear h4 HW
  go_wp2_with fail
  refine (write_calls' (HD.out.below hb4.out) 1 _ 32 32 secB.1 secB.2.1 hr4.out secB.2.2 (Nat.le_refl _) (fun _ a ha hf => by cases ha; exact Nat.lt_irrefl _ (HD.out.lt w1.heap.size hf)) (by decide)).mono ?_
  rintro e w5 ⟨rfl, hd5⟩
  rw [dA_eq] at hd5 ⊢
  have hF5 : Hid (Did F w1 w5 g dA) := by
    obtain ⟨F2, a1, a2, a3⟩ := hd5
    exact Did.after ⟨F2, a1, a2, a3⟩ (Below.chg hb4.out F) (fun i hi => .inl hi)
  clear hd5 hr4 hb4 hB2 e0 e31 f0 mk
  obtain ⟨F5, hd5, ch5, s5⟩ := hF5.out
  have HD5 := Lib.hid hd5
  clear hd5
  go_wp2_with fail
  refine (crash_calls HD5.out ⟨[], 0, 9⟩ none 0 (.inl rfl)).mono ?_
  rintro e w6 ⟨rfl, hd6⟩
  rw [dB_eq] at hd6
  obtain ⟨F6, h6, ch6, s6⟩ := hd6
  have hF6 : ∀ i, F5 i → w.heap.size ≤ i := fun i hi => (s5 i hi).elim (fun a => HF.out i a) (fun a => Nat.le_trans HB.out.size a)
  have hB5 : Below w.heap.size w w5 := bl_chg HB.out HB.out.size ch5 HF.out
  have hB6 : Hid (Below w.heap.size w w6) := bl_chg hB5 hB5.size ch6 hF6
  have H6 := Lib.hid h6
  clear ch5 s5 ch6 s6 hF6 hB5 h6 hF5
  go_wp2_with fail
  refine (read_calls H6.out 1).mono ?_
  rintro e w7 ⟨A, c, rfl, hc, hr, -, hb7⟩
  rw [dB_b] at hc hr ⊢
  rw [dB_e]
  have hB7 : Hid (Below w.heap.size w w7) := bl_then hB6.out hB6.out.size hb7
  obtain ⟨b, off, rfl, c0, c31⟩ : ∃ b off, A = some ⟨b, off, none⟩ ∧ w7.cell? ⟨b, off, none⟩ = some (.int .u8 1) ∧ w7.cell? ⟨b, off + 31, none⟩ = some (.int .u8 0) := by
    rcases hr with e | ⟨b, off, rfl, hbl, hcell⟩
    · cases e
    · refine ⟨b, off, rfl, ?_, ?_⟩
      · have := hcell 0 1 rfl 0 _ rfl
        simpa using this
      · have := hcell 31 0 rfl 0 _ rfl
        simpa using this
  have hl : secT.1.length = 32 := secT.2.1
  rw [hl] at hc ⊢
  clear hr hb7
  go_wp2
  go_ret
  exact ⟨rfl, hB7.out⟩

/-! ### The device as a law holds it -/
/-- The device at g, in blocks from W1 on. -/
def DevB (W1 wr : World) (g : Nat) (D : Dv) : Prop := ∃ F, DevAt wr g F D ∧ (∀ i, F i → W1.heap.size ≤ i) ∧ Below W1.heap.size W1 wr
section
variable {W1 wr w3 : World} {g : Nat} {D D' : Dv} {F : Nat → Prop}
theorem DevB.of_did (h2 : ∀ i, F i → W1.heap.size ≤ i) (h3 : Below W1.heap.size W1 wr) (k : Did F wr w3 g D') : DevB W1 w3 g D' := by
  obtain ⟨F', k1, k2, k3⟩ := k
  exact ⟨F', k1, fun i hi => (k3 i hi).elim (h2 i) (fun a => Nat.le_trans h3.size a), bl_chg h3 h3.size k2 h2⟩
theorem DevB.alloc (h : DevB W1 wr g D) (o : Obj) : DevB W1 (wr.alloc o) g D := by
  obtain ⟨F, h1, h2, h3⟩ := h
  exact ⟨F, h1.alloc o, h2, h3.alloc h3.size o⟩
theorem DevB.below (h : DevB W1 wr g D) (hb : Below wr.heap.size wr w3) : DevB W1 w3 g D := by
  obtain ⟨F, h1, h2, h3⟩ := h
  exact ⟨F, h1.below hb, h2, bl_then h3 h3.size hb⟩
theorem DevB.bl (h : DevB W1 wr g D) : Below W1.heap.size W1 wr := by obtain ⟨F, h1, h2, h3⟩ := h; exact h3
theorem devB_write (h : DevB W1 wr g D) (p : Int) (A : Option Addr) (n c : Nat) (b : List Int) (hn : b.length = n) (hb : Rd by1 1 W1 A b) (hbb : byteL b) (hbl : n ≤ c) (hcl : D.cache.length ≤ 1000000000000) :
    Calls Try.prog 32 #[.pointer (some ⟨g, 0, none⟩), .int .i64 p, .slice A n c] wr fun e w' => e = .returned (.int .i64 (D.write p b).1) ∧ DevB W1 w' g (D.write p b).2 := by
  obtain ⟨F, h1, h2, h3⟩ := h
  refine (write_calls' h1 p A n c b hn (hb.below h3 (Nat.le_refl _)) hbb hbl (fun hne a ha hf => ?_) hcl).mono fun e w' hh => ⟨hh.1, DevB.of_did h2 h3 hh.2⟩
  rcases hb with e0 | ⟨bb, off, e0, hlt, _⟩
  · exact hne e0
  · rw [ha] at e0
    cases e0
    have : W1.heap.size ≤ bb := h2 bb hf
    omega
theorem devB_flush (h : DevB W1 wr g D) : Calls Try.prog 33 #[.pointer (some ⟨g, 0, none⟩)] wr fun e w' => e = .returned (.int .i64 D.flush.1) ∧ DevB W1 w' g D.flush.2 := by
  obtain ⟨F, h1, h2, h3⟩ := h
  exact (flush_calls h1).mono fun e w' hh => ⟨hh.1, DevB.of_did h2 h3 hh.2⟩
theorem devB_arm (h : DevB W1 wr g D) (n : Int) (hn : n ≤ 9223372036854775807) : Calls Try.prog 31 #[.pointer (some ⟨g, 0, none⟩), .int .i64 n] wr fun e w' => e = .returned (.tuple #[]) ∧ DevB W1 w' g (D.arm n) := by
  obtain ⟨F, h1, h2, h3⟩ := h
  exact (arm_calls h1 n hn).mono fun e w' hh => ⟨hh.1, DevB.of_did h2 h3 hh.2⟩
theorem devB_fault (h : DevB W1 wr g D) (p : Int) (on : Bool) : Calls Try.prog 46 #[.pointer (some ⟨g, 0, none⟩), .int .i64 p, .bool on] wr fun e w' => e = .returned (.tuple #[]) ∧ DevB W1 w' g (D.fault p on) := by
  obtain ⟨F, h1, h2, h3⟩ := h
  exact (fault_calls h1 p on).mono fun e w' hh => ⟨hh.1, DevB.of_did h2 h3 hh.2⟩
theorem devB_crash (h : DevB W1 wr g D) (keep : List Bool) (torn bytes : Int) (K : Option Addr) (n ck : Nat) (hn : keep.length = n) (hf : Rd boolEnc 1 W1 K keep) :
    Calls Try.prog 35 #[.pointer (some ⟨g, 0, none⟩), .agg #[.slice K n ck, .int .i64 torn, .int .i64 bytes]] wr fun e w' => e = .returned (.tuple #[]) ∧ DevB W1 w' g (D.crash ⟨keep, torn, bytes⟩) := by
  subst hn
  obtain ⟨F, h1, h2, h3⟩ := h
  exact (crash_calls h1 ⟨keep, torn, bytes⟩ K ck (hf.below h3 (Nat.le_refl _))).mono fun e w' hh => ⟨hh.1, DevB.of_did h2 h3 hh.2⟩
theorem devB_dead (h : DevB W1 wr g D) : Calls Try.prog 34 #[.pointer (some ⟨g, 0, none⟩)] wr fun e w' => e = .returned (.bool D.dead) ∧ wr = w' := by obtain ⟨F, h1, h2, h3⟩ := h; exact dead_calls h1
theorem devB_size (h : DevB W1 wr g D) : Calls Try.prog 37 #[.pointer (some ⟨g, 0, none⟩)] wr fun e w' => e = .returned (.int .i64 D.n) ∧ wr = w' := by obtain ⟨F, h1, h2, h3⟩ := h; exact size_calls h1
theorem devB_cached (h : DevB W1 wr g D) : Calls Try.prog 39 #[.pointer (some ⟨g, 0, none⟩)] wr fun e w' => e = .returned (.int .i64 D.cache.length) ∧ wr = w' := by obtain ⟨F, h1, h2, h3⟩ := h; exact cached_calls h1
theorem devB_read (h : DevB W1 wr g D) (p : Int) : Calls Try.prog 38 #[.pointer (some ⟨g, 0, none⟩), .int .i64 p] wr fun e w' => ReadR wr w' (D.readB p) (D.readE p) e := by obtain ⟨F, h1, h2, h3⟩ := h; exact read_calls h1 p
theorem devB_new (h : Below W1.heap.size W1 wr) (n : Int) : Calls Try.prog 30 #[.int .i64 n] wr fun e w' => ∃ g, e = .returned (.pointer (some ⟨g, 0, none⟩)) ∧ DevB W1 w' g (Dv.new n) :=
  (new_calls wr n).mono fun e w' hh => by
    obtain ⟨g, F, e1, h1, h2, h3⟩ := hh
    exact ⟨g, e1, F, h1, fun i hi => Nat.le_trans h.size (h2 i hi), bl_then h h.size h3⟩
end
end Go.Proofs.Ytglpckdmiohciaa
