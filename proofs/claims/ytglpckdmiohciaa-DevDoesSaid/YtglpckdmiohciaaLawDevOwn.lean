/- law04.DevOwn -/
import Derived.Test.YtglpckdmiohciaaDevNone
namespace Go.Proofs.Ytglpckdmiohciaa
open Go.RowKit
set_option linter.unusedVariables false
set_option linter.unusedSimpArgs false

theorem write_len (D : Dv) (p : Int) (b : List Int) : (D.write p b).2.cache.length ≤ D.cache.length + 1 := by
  unfold Dv.write
  split
  · simp
  · split
    · split
      · simp only [List.length_append, (act_n D).2.1]; simp
      · rw [(act_n D).2.1]; omega
    · simp
theorem flush_len (D : Dv) : D.flush.2.cache.length ≤ D.cache.length := by
  unfold Dv.flush
  split
  · simp
  · rw [(act_n D).2.1]; omega
/-- Two devices, and bytes beside them. -/
def Dev3 (W1 wr : World) (g : Nat) (D : Dv) (g2 : Nat) (D2 : Dv) (A : Option Addr) (xs : List Int) : Prop := ∃ F F2, DevAt wr g F D ∧ DevAt wr g2 F2 D2 ∧ (∀ i, F i → W1.heap.size ≤ i) ∧ (∀ i, F2 i → W1.heap.size ≤ i) ∧ (∀ i, F i → ¬ F2 i) ∧ Below W1.heap.size W1 wr ∧ Rd by1 1 wr A xs ∧ (xs ≠ [] → ∀ a, A = some a → ¬ F a.block)
section
variable {W1 wr w3 : World} {g g2 : Nat} {D D' D2 : Dv} {A : Option Addr} {xs : List Int}
theorem Dev3.snd (h : Dev3 W1 wr g D g2 D2 A xs) : DevB W1 wr g2 D2 := by obtain ⟨F, F2, a, b, c, d, e, f, _⟩ := h; exact ⟨F2, b, d, f⟩
theorem Dev3.bl (h : Dev3 W1 wr g D g2 D2 A xs) : Below W1.heap.size W1 wr := h.snd.bl
theorem Dev3.rd (h : Dev3 W1 wr g D g2 D2 A xs) : Rd by1 1 wr A xs := by obtain ⟨F, F2, a, b, c, d, e, f, r, _⟩ := h; exact r
theorem Dev3.alloc (h : Dev3 W1 wr g D g2 D2 A xs) (o : Obj) : Dev3 W1 (wr.alloc o) g D g2 D2 A xs := by
  obtain ⟨F, F2, a, b, c, d, e, f, r, q⟩ := h
  exact ⟨F, F2, a.alloc o, b.alloc o, c, d, e, f.alloc f.size o, r.below (bl_alloc (Below.refl _ wr) o) (Nat.le_refl _), q⟩
theorem Dev3.mk' (h : Dev2 W1 wr g D g2 D2) (hb : Below wr.heap.size wr w3) (hr : Rd by1 1 w3 A xs) (ha : ∀ a, A = some a → wr.heap.size ≤ a.block) : Dev3 W1 w3 g D g2 D2 A xs := by
  obtain ⟨F, F2, a, b, c, d, e, f⟩ := h
  exact ⟨F, F2, a.below hb, b.below hb, c, d, e, bl_then f f.size hb, hr, fun _ x hx hf => by have := a.lt _ hf; have := ha x hx; omega⟩
theorem Dev3.step {F F2 : Nat → Prop} (a : DevAt wr g F D) (b : DevAt wr g2 F2 D2) (c : ∀ i, F i → W1.heap.size ≤ i) (d : ∀ i, F2 i → W1.heap.size ≤ i) (e : ∀ i, F i → ¬ F2 i) (f : Below W1.heap.size W1 wr) (r : Rd by1 1 wr A xs) (q : xs ≠ [] → ∀ a, A = some a → ¬ F a.block)
    (hh : Did F wr w3 g D') : Dev3 W1 w3 g D' g2 D2 A xs := by
  obtain ⟨F', k1, k2, k3⟩ := hh
  refine ⟨F', F2, k1, b.chg k2 (fun i hi hf => e i hf hi), fun i hi => (k3 i hi).elim (c i) (fun a => Nat.le_trans f.size a), d, fun i hi hf => ?_, bl_chg f f.size k2 c, ?_, fun hne x hx hf => ?_⟩
  · rcases k3 i hi with q | q
    · exact e i q hf
    · have := b.lt i hf
      omega
  · by_cases h0 : xs = []
    · exact .inl h0
    · exact r.chg k2 (q h0)
  · rcases k3 _ hf with q' | q'
    · exact q hne x hx q'
    · rcases r with r | ⟨bb, off, e1, e2, _⟩
      · exact hne r
      · rw [hx] at e1
        cases e1
        dsimp only at q'
        omega
theorem Dev3.calls {f : FuncId} {args : Array Value} {R : Ending → Prop} (h : Dev3 W1 wr g D g2 D2 A xs) (hc : ∀ F, DevAt wr g F D → Calls Try.prog f args wr fun e w' => R e ∧ Did F wr w' g D') :
    Calls Try.prog f args wr fun e w' => R e ∧ Dev3 W1 w' g D' g2 D2 A xs := by
  obtain ⟨F, F2, a, b, c, d, e, f, r, q⟩ := h
  exact (hc F a).mono fun e' w' hh => ⟨hh.1, Dev3.step a b c d e f r q hh.2⟩
theorem dev3_flush (h : Dev3 W1 wr g D g2 D2 A xs) : Calls Try.prog 33 #[.pointer (some ⟨g, 0, none⟩)] wr fun e w' => e = .returned (.int .i64 D.flush.1) ∧ Dev3 W1 w' g D.flush.2 g2 D2 A xs :=
  h.calls (R := fun e => e = .returned (.int .i64 D.flush.1)) fun F h1 => flush_calls h1
/-- A sector that the law has just made is written. -/
theorem dev3_write (h : Dev3 W1 wr g D g2 D2 A xs) (p : Int) (s : Sec) (hcl : D.cache.length ≤ 1000000000000) :
    Calls Try.prog 32 #[.pointer (some ⟨g, 0, none⟩), .int .i64 p, .slice (some ⟨wr.heap.size, 0, none⟩) 32 32] (wr.alloc (.cells (secCells s).toArray 5)) fun e w' => e = .returned (.int .i64 (D.write p s.1).1) ∧ Dev3 W1 w' g (D.write p s.1).2 g2 D2 A xs := by
  obtain ⟨F, F2, a, b, c, d, e, f, r, q⟩ := h
  exact (write_calls' (a.alloc _) p _ 32 32 s.1 s.2.1 (rd_sec (blk_new wr _)) s.2.2 (Nat.le_refl _) (fun _ x hx hf => by cases hx; exact Nat.lt_irrefl _ (a.lt wr.heap.size hf)) hcl).mono fun e' w' hh =>
    ⟨hh.1, Dev3.step (a.alloc _) (b.alloc _) c d e (f.alloc f.size _) (r.below (bl_alloc (Below.refl _ wr) _) (Nat.le_refl _)) q hh.2⟩
end
set_option maxRecDepth 100000 in
set_option maxHeartbeats 8000000 in
theorem devOwn_calls (w : World) (n p : Int) (A : Option Addr) (c : Nat) (b : List Int) (hb : Rd by1 1 w A b) (hbb : byteL b) (hbl : b.length ≤ c) :
    Calls Try.prog 10 #[.int .i64 n, .slice A b.length c, .int .i64 p] w fun e w' => e = .returned (.bool true) ∧ Below w.heap.size w w' := by
  have HR := Lib.hid hb
  have HB := Lib.hid hbb
  clear hb hbb
  go_enter Try.func10, Try.ntmps10
  go_wp2_with fail
  refine (awake04_calls w).mono ?_
  rintro e w2 ⟨rfl, hb2⟩
  have HB2 := Lib.hid hb2
  clear hb2
  rcases (Decidable.em ((50 : Int) < n)) with hn | hn
  case' inl =>
    go_wp2
    go_ret
    exact ⟨rfl, HB2.out⟩
  rcases (Decidable.em ((64 : Int) < (b.length : Int))) with hn2 | hn2
  case' inl =>
    go_wp2
    go_ret
    exact ⟨rfl, HB2.out⟩
  go_wp2_with fail
  refine (devB_new HB2.out n).mono ?_
  rintro e w3 ⟨g, rfl, hd⟩
  have HD3 := Lib.hid hd
  clear hd
  go_wp2_with fail
  refine (devB_write HD3.out p A _ c b rfl HR.out HB.out hbl (by simp [Dv.new])).mono ?_
  rintro e w4 ⟨rfl, hd⟩
  have HD4 := Lib.hid hd
  have L4 : Hid (((Dv.new n).write p b).2.cache.length ≤ 1) := by have := write_len (Dv.new n) p b; simpa [Dv.new, Hid] using this
  generalize (Dv.new n).write p b = r4 at *
  obtain ⟨e4, D4⟩ := r4
  clear hd HD3
  go_wp2_with fail
  refine (devB_flush HD4.out).mono ?_
  rintro e w5 ⟨rfl, hd⟩
  have HD5 := Lib.hid hd
  have L5 : Hid (D4.flush.2.cache.length ≤ 1) := Nat.le_trans (flush_len D4) L4.out
  dsimp only at HD5 L5 ⊢
  generalize D4.flush = r5 at *
  obtain ⟨e5, D5⟩ := r5
  clear hd HD4 L4
  go_wp2_with fail
  refine (devB_copy HD5.out (by have := L5.out; show D5.cache.length ≤ _; omega)).mono ?_
  rintro e w6 ⟨g2, rfl, hd⟩
  have HD6 := Lib.hid hd
  clear hd HD5
  go_wp2_with fail
  refine (devB_read HD6.out.snd p).mono ?_
  rintro e w7 ⟨A7, c7, rfl, hc7, hr7, ha7, hb7⟩
  have HD7 := Lib.hid (Dev3.mk' HD6.out hb7 hr7 ha7)
  have mk := run_make32 w7
  clear hb7 hr7 ha7 HD6
  go_wp2_with fail
  refine (dev3_write HD7.out p sec0 (by have := L5.out; show D5.cache.length ≤ _; omega)).mono ?_
  rintro e w9 ⟨rfl, hd⟩
  have HD9 := Lib.hid hd
  clear hd HD7 mk
  go_wp2_with fail
  refine (dev3_flush HD9.out).mono ?_
  rintro e w10 ⟨rfl, hd⟩
  have HD10 := Lib.hid hd
  clear hd HD9
  go_wp2_with fail
  refine (devB_read HD10.out.snd p).mono ?_
  rintro e w11 ⟨A11, c11, rfl, hc11, hr11, -, hb11⟩
  have hB11 : Hid (Below w.heap.size w w11) := bl_then HD10.out.bl HD10.out.bl.size hb11
  have hr7 := HD10.out.rd.below hb11 (Nat.le_refl _)
  have R7 := Lib.hid hr7
  have R11 := Lib.hid hr11
  generalize D5.readB p = xs at *
  generalize D5.readE p = er at *
  have heq : ((strB xs).toList == (strB xs).toList) = true := by simp
  clear hr7 hr11 hb11 HD10
  go_wp2_with fail
  refine (arm_none _ 3).mono ?_
  rintro e w12 ⟨rfl, rfl⟩
  go_wp2_with fail
  refine (crash_none _ _).mono ?_
  rintro e w12 ⟨rfl, hb12⟩
  have hB12 : Hid (Below w.heap.size w w12) := bl_then hB11.out hB11.out.size hb12
  have v7 := run_strB (W := w12) xs.length c7 rfl (R7.out.below hb12 (Nat.le_refl _))
  have v11 := run_strB (W := w12) xs.length c11 rfl (R11.out.below hb12 (Nat.le_refl _))
  clear hb12 hB11 R7 R11
  go_wp2_with fail
  refine (fault_none _ _ _).mono ?_
  rintro e w13 ⟨rfl, rfl⟩
  go_wp2_with fail
  refine (read_none _ _).mono ?_
  rintro e w13 ⟨rfl, rfl⟩
  go_wp2_with fail
  refine (write_none _ _ _).mono ?_
  rintro e w13 ⟨rfl, rfl⟩
  go_wp2_with fail
  refine (flush_none _).mono ?_
  rintro e w13 ⟨rfl, rfl⟩
  go_wp2_with fail
  refine (size_none _).mono ?_
  rintro e w13 ⟨rfl, rfl⟩
  go_wp2_with fail
  refine (cached_none _).mono ?_
  rintro e w13 ⟨rfl, rfl⟩
  go_wp2_with fail
  refine (dead_none _).mono ?_
  rintro e w13 ⟨rfl, rfl⟩
  go_wp2_with fail
  refine (copy_none _).mono ?_
  rintro e w13 ⟨rfl, rfl⟩
  go_wp2
  go_ret
  exact ⟨rfl, hB12.out⟩
theorem devOwn_row (w : World) (v0 v1 v2 : Value) (n p : Int) (b : List Int) (h0 : IntV v0 n) (h1 : Bytes w v1 b) (h2 : IntV v2 p) :
    Calls Try.prog 10 #[v0, v1, v2] w fun e w' => e = .returned (.bool true) ∧ Below w.heap.size w w' := by
  obtain ⟨rfl, _⟩ := h0
  obtain ⟨A, c, rfl, hc, hbb, hr⟩ := h1
  obtain ⟨rfl, _⟩ := h2
  exact devOwn_calls w n p A c b hr hbb hc
end Go.Proofs.Ytglpckdmiohciaa
