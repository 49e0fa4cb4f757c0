/- Both devices side by side, and a block beside them. -/
import Derived.Test.YtglpckdmiohciaaSim
import Derived.Deep.QuietTactic
import Derived.BigQuiet
namespace Go.Proofs.Ytglpckdmiohciaa
open Go.RowKit
set_option linter.unusedVariables false
set_option linter.unusedSimpArgs false

theorem quietL {P : Program} {f : FuncId} {args : Array Value} {w : World} {n : Nat} {v : Value}
    (h : Calls P f args (w.drewN n) fun e w' => e = .returned v ∧ w.drewN n = w') : Calls P f args (w.drewN n) fun e w'' => e = .returned v ∧ ∃ m, w'' = w.drewN m :=
  h.mono fun _ _ ⟨he, hm⟩ => ⟨he, n, hm.symm⟩
/-- The device at g, the reference's at g2, both in blocks from W1 on; the block y holds o. -/
def DevY (W1 wr : World) (g : Nat) (D : Dv) (g2 : Nat) (X : Rv) (y : Nat) (o : Obj) : Prop := ∃ F F2 G2, DevAt wr g F D ∧ RefAt wr g2 F2 G2 X ∧ (∀ i, F i → W1.heap.size ≤ i) ∧ (∀ i, G2 i → W1.heap.size ≤ i) ∧ (∀ i, F i → ¬ G2 i) ∧ Below W1.heap.size W1 wr ∧ wr.heap[y]? = some o ∧ ¬ F y ∧ ¬ G2 y
/-- The same without a block. -/
def DevX (W1 wr : World) (g : Nat) (D : Dv) (g2 : Nat) (X : Rv) : Prop := ∃ F F2 G2, DevAt wr g F D ∧ RefAt wr g2 F2 G2 X ∧ (∀ i, F i → W1.heap.size ≤ i) ∧ (∀ i, G2 i → W1.heap.size ≤ i) ∧ (∀ i, F i → ¬ G2 i) ∧ Below W1.heap.size W1 wr
section
variable {W1 wr w3 : World} {g g2 : Nat} {D D' : Dv} {X X' : Rv} {y : Nat} {o : Obj}
theorem DevY.x (h : DevY W1 wr g D g2 X y o) : DevX W1 wr g D g2 X := by obtain ⟨F, F2, G2, a, b, c, d, e, f, _⟩ := h; exact ⟨F, F2, G2, a, b, c, d, e, f⟩
theorem DevX.bl (h : DevX W1 wr g D g2 X) : Below W1.heap.size W1 wr := by obtain ⟨F, F2, G2, a, b, c, d, e, f⟩ := h; exact f
theorem DevY.bl (h : DevY W1 wr g D g2 X y o) : Below W1.heap.size W1 wr := h.x.bl
theorem DevY.blk (h : DevY W1 wr g D g2 X y o) : wr.heap[y]? = some o := by obtain ⟨F, F2, G2, a, b, c, d, e, f, q, _⟩ := h; exact q
theorem DevX.below (h : DevX W1 wr g D g2 X) (hb : Below wr.heap.size wr w3) : DevX W1 w3 g D g2 X := by
  obtain ⟨F, F2, G2, a, b, c, d, e, f⟩ := h
  exact ⟨F, F2, G2, a.below hb, b.below hb, c, d, e, bl_then f f.size hb⟩
theorem DevY.below (h : DevY W1 wr g D g2 X y o) (hb : Below wr.heap.size wr w3) : DevY W1 w3 g D g2 X y o := by
  obtain ⟨F, F2, G2, a, b, c, d, e, f, q, r, s⟩ := h
  exact ⟨F, F2, G2, a.below hb, b.below hb, c, d, e, bl_then f f.size hb, by rw [hb.block y (blk_lt q)]; exact q, r, s⟩
theorem DevX.put (h : DevX W1 wr g D g2 X) (cs : Array Value) (t : TypeId) : DevY W1 (wr.alloc (.cells cs t)) g D g2 X wr.heap.size (.cells cs t (0, 0)) := by
  obtain ⟨F, F2, G2, a, b, c, d, e, f⟩ := h
  exact ⟨F, F2, G2, a.alloc _, b.alloc _, c, d, e, f.alloc f.size _, blk_new wr _, fun q => Nat.lt_irrefl _ (a.lt _ q), fun q => Nat.lt_irrefl _ (b.lt _ q)⟩
theorem DevY.callsD {f : FuncId} {args : Array Value} {R : Ending → Prop} (h : DevY W1 wr g D g2 X y o) (hc : ∀ F, DevAt wr g F D → (∀ i, F i → W1.heap.size ≤ i) → Below W1.heap.size W1 wr → Calls Try.prog f args wr fun e w' => R e ∧ Did F wr w' g D') :
    Calls Try.prog f args wr fun e w' => R e ∧ DevY W1 w' g D' g2 X y o := by
  obtain ⟨F, F2, G2, a, b, c, d, e, f, q, r, s⟩ := h
  refine (hc F a c f).mono fun e' w' hh => ⟨hh.1, ?_⟩
  obtain ⟨F', k1, k2, k3⟩ := hh.2
  refine ⟨F', F2, G2, k1, b.chg k2 (fun i hi hf => e i hf hi), fun i hi => (k3 i hi).elim (c i) (fun a => Nat.le_trans f.size a), d, fun i hi hf => ?_, bl_chg f f.size k2 c, k2.blk q r, fun hf => ?_, s⟩
  · rcases k3 i hi with q | q
    · exact e i q hf
    · have := b.lt i hf
      omega
  · rcases k3 y hf with q' | q'
    · exact r q'
    · have := blk_lt q
      omega
theorem DevY.callsX {f : FuncId} {args : Array Value} {R : Ending → Prop} (h : DevY W1 wr g D g2 X y o) (hc : ∀ F G, RefAt wr g2 F G X → (∀ i, F i → W1.heap.size ≤ i) → Below W1.heap.size W1 wr → Calls Try.prog f args wr fun e w' => R e ∧ RefDid F G wr w' g2 X') :
    Calls Try.prog f args wr fun e w' => R e ∧ DevY W1 w' g D g2 X' y o := by
  obtain ⟨F, F2, G2, a, b, c, d, e, f, q, r, s⟩ := h
  refine (hc F2 G2 b (fun i hi => d i (b.sub i hi)) f).mono fun e' w' hh => ⟨hh.1, ?_⟩
  obtain ⟨F', G', k1, k2, k3, k4⟩ := hh.2
  refine ⟨F, F', G', a.chg k2 (fun i hi hf => e i hi (b.sub i hf)), k1, c, fun i hi => (k4 i hi).elim (d i) (fun a => Nat.le_trans f.size a), fun i hi hf => ?_, bl_chg f f.size k2 (fun i hi => d i (b.sub i hi)), k2.blk q (fun hf => s (b.sub y hf)), r, fun hf => ?_⟩
  · rcases k4 i hf with q | q
    · exact e i hi q
    · have := a.lt i hi
      omega
  · rcases k4 y hf with q' | q'
    · exact s q'
    · have := blk_lt q
      omega
/-- Bytes of W1 lie in none of the blocks. -/
theorem notF {A : Option Addr} {F : Nat → Prop} {α : Type} {enc : α → List Value} {sz : Nat} {b : List α} (hb : Rd enc sz W1 A b) (hF : ∀ i, F i → W1.heap.size ≤ i) : b ≠ [] → ∀ a, A = some a → ¬ F a.block := fun hne a ha hf => by
  rcases hb with e0 | ⟨bb, off, e0, hlt, _⟩
  · exact hne e0
  · rw [ha] at e0
    cases e0
    have := hF bb hf
    omega
theorem yD_write (h : DevY W1 wr g D g2 X y o) (p : Int) (A : Option Addr) (n c : Nat) (b : List Int) (hn : b.length = n) (hb : Rd by1 1 W1 A b) (hbb : byteL b) (hbl : n ≤ c) (hcl : D.cache.length ≤ 1000000000000) :
    Calls Try.prog 32 #[.pointer (some ⟨g, 0, none⟩), .int .i64 p, .slice A n c] wr fun e w' => e = .returned (.int .i64 (D.write p b).1) ∧ DevY W1 w' g (D.write p b).2 g2 X y o :=
  h.callsD (R := fun e => e = .returned (.int .i64 (D.write p b).1)) fun F h1 h2 h3 => write_calls' h1 p A n c b hn (hb.below h3 (Nat.le_refl _)) hbb hbl (notF hb h2) hcl
theorem yX_write (h : DevY W1 wr g D g2 X y o) (p : Int) (A : Option Addr) (n c : Nat) (b : List Int) (hn : b.length = n) (hb : Rd by1 1 W1 A b) (hbb : byteL b) (hbl : n ≤ c) (hcl : X.cache.length ≤ 1000000000000) :
    Calls Try.prog 41 #[.pointer (some ⟨g2, 0, none⟩), .int .i64 p, .slice A n c] wr fun e w' => e = .returned (.int .i64 (X.write p b).1) ∧ DevY W1 w' g D g2 (X.write p b).2 y o := by
  subst hn
  exact h.callsX (R := fun e => e = .returned (.int .i64 (X.write p b).1)) fun F G h1 h2 h3 => refWrite_calls h1 p A c b (hb.below h3 (Nat.le_refl _)) hbb hbl (notF hb h2) hcl
theorem yD_flush (h : DevY W1 wr g D g2 X y o) : Calls Try.prog 33 #[.pointer (some ⟨g, 0, none⟩)] wr fun e w' => e = .returned (.int .i64 D.flush.1) ∧ DevY W1 w' g D.flush.2 g2 X y o :=
  h.callsD (R := fun e => e = .returned (.int .i64 D.flush.1)) fun F h1 h2 h3 => flush_calls h1
theorem yX_flush (h : DevY W1 wr g D g2 X y o) (hv : ∀ x ∈ X.cache, 0 ≤ x.pos ∧ x.pos < X.S.length) : Calls Try.prog 43 #[.pointer (some ⟨g2, 0, none⟩)] wr fun e w' => e = .returned (.int .i64 X.flush.1) ∧ DevY W1 w' g D g2 X.flush.2 y o :=
  h.callsX (R := fun e => e = .returned (.int .i64 X.flush.1)) fun F G h1 h2 h3 => refFlush_calls h1 hv
theorem yD_arm (h : DevY W1 wr g D g2 X y o) (n : Int) (hn : n ≤ 9223372036854775807) : Calls Try.prog 31 #[.pointer (some ⟨g, 0, none⟩), .int .i64 n] wr fun e w' => e = .returned (.tuple #[]) ∧ DevY W1 w' g (D.arm n) g2 X y o :=
  h.callsD (R := fun e => e = .returned (.tuple #[])) fun F h1 h2 h3 => arm_calls h1 n hn
theorem yX_arm (h : DevY W1 wr g D g2 X y o) (n : Int) (hn : n ≤ 9223372036854775807) : Calls Try.prog 44 #[.pointer (some ⟨g2, 0, none⟩), .int .i64 n] wr fun e w' => e = .returned (.tuple #[]) ∧ DevY W1 w' g D g2 (X.arm n) y o :=
  h.callsX (R := fun e => e = .returned (.tuple #[])) fun F G h1 h2 h3 => refArm_calls h1 n hn
theorem yD_crash (h : DevY W1 wr g D g2 X y o) (keep : List Bool) (torn bytes : Int) (K : Option Addr) (n ck : Nat) (hn : keep.length = n) (hf : Rd boolEnc 1 W1 K keep) :
    Calls Try.prog 35 #[.pointer (some ⟨g, 0, none⟩), .agg #[.slice K n ck, .int .i64 torn, .int .i64 bytes]] wr fun e w' => e = .returned (.tuple #[]) ∧ DevY W1 w' g (D.crash ⟨keep, torn, bytes⟩) g2 X y o := by
  subst hn
  exact h.callsD (R := fun e => e = .returned (.tuple #[])) fun F h1 h2 h3 => crash_calls h1 ⟨keep, torn, bytes⟩ K ck (hf.below h3 (Nat.le_refl _))
theorem yX_crash (h : DevY W1 wr g D g2 X y o) (hv : ∀ x ∈ X.cache, 0 ≤ x.pos ∧ x.pos < X.S.length) (keep : List Bool) (torn bytes : Int) (K : Option Addr) (n ck : Nat) (hn : keep.length = n) (hf : Rd boolEnc 1 W1 K keep) :
    Calls Try.prog 45 #[.pointer (some ⟨g2, 0, none⟩), .agg #[.slice K n ck, .int .i64 torn, .int .i64 bytes]] wr fun e w' => e = .returned (.tuple #[]) ∧ DevY W1 w' g D g2 (X.crash ⟨keep, torn, bytes⟩) y o := by
  subst hn
  exact h.callsX (R := fun e => e = .returned (.tuple #[])) fun F G h1 h2 h3 => refCrash_calls h1 hv ⟨keep, torn, bytes⟩ K ck (hf.below h3 (Nat.le_refl _)) (notF hf h2)
theorem yD_fault (h : DevY W1 wr g D g2 X y o) (p : Int) (on : Bool) : Calls Try.prog 46 #[.pointer (some ⟨g, 0, none⟩), .int .i64 p, .bool on] wr fun e w' => e = .returned (.tuple #[]) ∧ DevY W1 w' g (D.fault p on) g2 X y o :=
  h.callsD (R := fun e => e = .returned (.tuple #[])) fun F h1 h2 h3 => fault_calls h1 p on
theorem yX_fault (h : DevY W1 wr g D g2 X y o) (p : Int) (on : Bool) (hl : X.bad.length = X.S.length) : Calls Try.prog 47 #[.pointer (some ⟨g2, 0, none⟩), .int .i64 p, .bool on] wr fun e w' => e = .returned (.tuple #[]) ∧ DevY W1 w' g D g2 (X.fault p on) y o :=
  h.callsX (R := fun e => e = .returned (.tuple #[])) fun F G h1 h2 h3 => refFault_calls h1 p on hl
theorem xD_read (h : DevX W1 wr g D g2 X) (p : Int) : Calls Try.prog 38 #[.pointer (some ⟨g, 0, none⟩), .int .i64 p] wr fun e w' => ReadR wr w' (D.readB p) (D.readE p) e := by obtain ⟨F, F2, G2, a, _⟩ := h; exact read_calls a p
theorem xX_read (h : DevX W1 wr g D g2 X) (p : Int) (hl : X.bad.length = X.S.length) : Calls Try.prog 42 #[.pointer (some ⟨g2, 0, none⟩), .int .i64 p] wr fun e w' => ReadR wr w' (X.readB p) (X.readE p) e := by obtain ⟨F, F2, G2, a, b, _⟩ := h; exact refRead_calls b p hl
theorem xD_dead (h : DevX W1 wr g D g2 X) : Calls Try.prog 34 #[.pointer (some ⟨g, 0, none⟩)] wr fun e w' => e = .returned (.bool D.dead) ∧ wr = w' := by obtain ⟨F, F2, G2, a, _⟩ := h; exact dead_calls a
theorem xD_size (h : DevX W1 wr g D g2 X) : Calls Try.prog 37 #[.pointer (some ⟨g, 0, none⟩)] wr fun e w' => e = .returned (.int .i64 D.n) ∧ wr = w' := by obtain ⟨F, F2, G2, a, _⟩ := h; exact size_calls a
theorem xD_cached (h : DevX W1 wr g D g2 X) : Calls Try.prog 39 #[.pointer (some ⟨g, 0, none⟩)] wr fun e w' => e = .returned (.int .i64 D.cache.length) ∧ wr = w' := by obtain ⟨F, F2, G2, a, _⟩ := h; exact cached_calls a
theorem DevX.cells (h : DevX W1 wr g D g2 X) : ∃ (A : Option Addr) (a : Nat) (B : Option Addr) (b : Nat), wr.cell? ⟨g2, 0, none⟩ = some (.slice A X.S.length a) ∧ wr.cell? ⟨g2, 1, none⟩ = some (.slice B X.cache.length b) ∧ wr.cell? ⟨g2, 4, none⟩ = some (.bool X.dead) := by
  obtain ⟨F, F2, G2, a, b, _⟩ := h
  obtain ⟨A, a, B, b, C, c, xs, cs, c0, c1, c2, c3, c4, _⟩ := b.cells
  exact ⟨A, a, B, b, c0, c1, c4⟩
theorem DevX.n_le (h : DevX W1 wr g D g2 X) : D.n ≤ 65536 := by
  obtain ⟨F, F2, G2, a, _⟩ := h
  obtain ⟨km, bm, cv, hb, hk, hbm, ho, n1, n2, n3, n4, f1, f2, f3, f4, b1, b2⟩ := a
  exact b1
/-- The seven cells of a thing to be done. -/
def deedCells (x : Deed) : Array Value := #[.int .i64 x.kind, .int .i64 x.pos, .slice x.A x.b.length x.cb, .int .i64 x.n, .slice x.K x.keep.length x.ck, .int .i64 x.torn, .int .i64 x.bytes]
theorem DevY.deed {x : Deed} {t : TypeId} {fr : Nat × Nat} (h : DevY W1 wr g D g2 X y (.cells (deedCells x) t fr)) : wr.cell? ⟨y, 0, none⟩ = some (.int .i64 x.kind) ∧ wr.cell? ⟨y, 1, none⟩ = some (.int .i64 x.pos) ∧ wr.cell? ⟨y, 2, none⟩ = some (.slice x.A x.b.length x.cb) ∧ wr.cell? ⟨y, 3, none⟩ = some (.int .i64 x.n) ∧
    wr.cell? ⟨y, 4, none⟩ = some (.slice x.K x.keep.length x.ck) ∧ wr.cell? ⟨y, 5, none⟩ = some (.int .i64 x.torn) ∧ wr.cell? ⟨y, 6, none⟩ = some (.int .i64 x.bytes) := by
  refine ⟨?_, ?_, ?_, ?_, ?_, ?_, ?_⟩ <;> rw [blk_cell h.blk] <;> rfl
/-- Both are as they should be, behind k things done. -/
def Both (W1 wr : World) (g : Nat) (D : Dv) (g2 : Nat) (X : Rv) (k : Nat) : Prop := DevX W1 wr g D g2 X ∧ Sim D X ∧ D.cache.length ≤ k
/-- Behind a thing done: both devices, and the same error of both. -/
def MeetR (W1 wx : World) (k : Nat) (s5 s6 s9 s10 : Value) : Prop := ∃ (g g2 : Nat) (D : Dv) (X : Rv) (e : Int), s5 = .pointer (some ⟨g, 0, none⟩) ∧ s6 = .pointer (some ⟨g2, 0, none⟩) ∧ s9 = .int .i64 e ∧ s10 = .int .i64 e ∧ Both W1 wx g D g2 X k
/-- What a copy of the device hands back. -/
def CopyD (W1 w' : World) (D : Dv) (g2 : Nat) (X : Rv) (y : Nat) (o : Obj) (e : Ending) : Prop := ∃ g, e = .returned (.pointer (some ⟨g, 0, none⟩)) ∧ DevY W1 w' g D g2 X y o
def CopyX (W1 w' : World) (g : Nat) (D : Dv) (X : Rv) (y : Nat) (o : Obj) (e : Ending) : Prop := ∃ g2, e = .returned (.pointer (some ⟨g2, 0, none⟩)) ∧ DevY W1 w' g D g2 X y o
theorem yD_copy (h : DevY W1 wr g D g2 X y o) (hcl : D.cache.length ≤ 1000000000000) : Calls Try.prog 36 #[.pointer (some ⟨g, 0, none⟩)] wr fun e w' => CopyD W1 w' D g2 X y o e := by
  obtain ⟨F, F2, G2, a, b, c, d, e, f, q, r, s⟩ := h
  refine (copy_calls a hcl).mono fun e' w' hh => ?_
  obtain ⟨g', e1, F', k1, k2, k3⟩ := hh
  refine ⟨g', e1, F', F2, G2, k1, b.below k3, fun i hi => Nat.le_trans f.size (k2 i hi), d, fun i hi hf => ?_, bl_then f f.size k3, by rw [k3.block y (blk_lt q)]; exact q, fun hf => ?_, s⟩
  · have := b.lt i hf; have := k2 i hi; omega
  · have := blk_lt q; have := k2 y hf; omega
theorem yX_copy (h : DevY W1 wr g D g2 X y o) (hn : X.S.length ≤ 1000000 ∧ X.bad.length ≤ 1000000 ∧ X.cache.length ≤ 1000000) : Calls Try.prog 48 #[.pointer (some ⟨g2, 0, none⟩)] wr fun e w' => CopyX W1 w' g D X y o e := by
  obtain ⟨F, F2, G2, a, b, c, d, e, f, q, r, s⟩ := h
  refine (refCopy_calls b hn).mono fun e' w' hh => ?_
  obtain ⟨g', F', G', e1, k1, k2, k3, k4⟩ := hh
  refine ⟨g', e1, F, F', G', a.below k4, k1, c, fun i hi => (k3 i hi).elim (d i) (fun a => Nat.le_trans f.size a), fun i hi hf => ?_, bl_then f f.size k4, by rw [k4.block y (blk_lt q)]; exact q, r, fun hf => ?_⟩
  · rcases k3 i hf with q | q
    · exact e i hi q
    · have := a.lt i hi; omega
  · rcases k3 y hf with q' | q'
    · exact s q'
    · have := blk_lt q; omega
end
end Go.Proofs.Ytglpckdmiohciaa
