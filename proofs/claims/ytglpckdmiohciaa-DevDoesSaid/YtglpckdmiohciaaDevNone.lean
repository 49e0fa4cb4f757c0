/- A device that nobody made; two devices side by side; texts of bytes. -/
import Derived.Test.YtglpckdmiohciaaDevCopy
import Derived.Laws.BytesArg
namespace Go.Proofs.Ytglpckdmiohciaa
open Go.RowKit
set_option linter.unusedVariables false
set_option linter.unusedSimpArgs false

section
variable (w : World)
theorem write_none (p : Int) (v : Value) : Calls Try.prog 32 #[.pointer none, .int .i64 p, v] w fun e w' => e = .returned (.int .i64 1) ∧ w = w' := by
  go_enter Try.func32, Try.ntmps32
  go_wp2_with fail
  refine (dead_none w).mono ?_
  rintro e w1 ⟨rfl, rfl⟩
  go_wp2_with fail
  refine (has_none w p).mono ?_
  rintro e w1 ⟨rfl, rfl⟩
  go_wp2
  go_ret
  exact ⟨rfl, rfl⟩
theorem flush_none : Calls Try.prog 33 #[.pointer none] w fun e w' => e = .returned (.int .i64 0) ∧ w = w' := by
  go_enter Try.func33, Try.ntmps33
  go_wp2_with fail
  refine (ok_none w).mono ?_
  rintro e w1 ⟨rfl, rfl⟩
  go_wp2
  go_ret
  exact ⟨rfl, rfl⟩
theorem arm_none (n : Int) : Calls Try.prog 31 #[.pointer none, .int .i64 n] w fun e w' => e = .returned (.tuple #[]) ∧ w = w' := by
  go_enter Try.func31, Try.ntmps31
  go_wp2_with fail
  refine (ok_none w).mono ?_
  rintro e w1 ⟨rfl, rfl⟩
  go_wp2
  go_end0
  exact ⟨rfl, rfl⟩
theorem crash_none (cs : Array Value) : Calls Try.prog 35 #[.pointer none, .agg cs] w fun e w' => e = .returned (.tuple #[]) ∧ Below w.heap.size w w' := by
  go_enter Try.func35, Try.ntmps35
  go_wp2_with fail
  refine (ok_none _).mono ?_
  rintro e w1 ⟨rfl, rfl⟩
  go_wp2
  refine bodyPost_ret (results_none rfl _ _ _) rfl ?_
  exact ⟨rfl, bl_alloc (Below.refl _ w) _⟩
theorem fault_none (p : Int) (on : Bool) : Calls Try.prog 46 #[.pointer none, .int .i64 p, .bool on] w fun e w' => e = .returned (.tuple #[]) ∧ w = w' := by
  go_enter Try.func46, Try.ntmps46
  go_wp2_with fail
  refine (has_none w p).mono ?_
  rintro e w1 ⟨rfl, rfl⟩
  go_wp2
  refine bodyPost_ret (results_none rfl _ _ _) rfl ?_
  exact ⟨rfl, rfl⟩
theorem read_none (p : Int) : Calls Try.prog 38 #[.pointer none, .int .i64 p] w fun e w' => e = .returned (.tuple #[.slice none 0 0, .int .i64 1]) ∧ w = w' := by
  go_enter Try.func38, Try.ntmps38
  go_wp2_with fail
  refine (dead_none w).mono ?_
  rintro e w1 ⟨rfl, rfl⟩
  go_wp2_with fail
  refine (has_none w p).mono ?_
  rintro e w1 ⟨rfl, rfl⟩
  go_wp2
  go_ret2
  exact ⟨rfl, rfl⟩
theorem copy_none : Calls Try.prog 36 #[.pointer none] w fun e w' => e = .returned (.pointer none) ∧ w = w' := by
  go_enter Try.func36, Try.ntmps36
  go_wp2_with fail
  refine (ok_none w).mono ?_
  rintro e w1 ⟨rfl, rfl⟩
  go_wp2
  go_ret
  exact ⟨rfl, rfl⟩
end

/-! ### Two devices -/
/-- Two devices, each in blocks of its own, from W1 on. -/
def Dev2 (W1 wr : World) (g : Nat) (D : Dv) (g2 : Nat) (D2 : Dv) : Prop := ∃ F F2, DevAt wr g F D ∧ DevAt wr g2 F2 D2 ∧ (∀ i, F i → W1.heap.size ≤ i) ∧ (∀ i, F2 i → W1.heap.size ≤ i) ∧ (∀ i, F i → ¬ F2 i) ∧ Below W1.heap.size W1 wr
section
variable {W1 wr w3 : World} {g g2 : Nat} {D D' D2 : Dv}
theorem Dev2.fst (h : Dev2 W1 wr g D g2 D2) : DevB W1 wr g D := by obtain ⟨F, F2, a, b, c, d, e, f⟩ := h; exact ⟨F, a, c, f⟩
theorem Dev2.snd (h : Dev2 W1 wr g D g2 D2) : DevB W1 wr g2 D2 := by obtain ⟨F, F2, a, b, c, d, e, f⟩ := h; exact ⟨F2, b, d, f⟩
theorem Dev2.bl (h : Dev2 W1 wr g D g2 D2) : Below W1.heap.size W1 wr := h.fst.bl
theorem Dev2.below (h : Dev2 W1 wr g D g2 D2) (hb : Below wr.heap.size wr w3) : Dev2 W1 w3 g D g2 D2 := by
  obtain ⟨F, F2, a, b, c, d, e, f⟩ := h
  exact ⟨F, F2, a.below hb, b.below hb, c, d, e, bl_then f f.size hb⟩
theorem Dev2.alloc (h : Dev2 W1 wr g D g2 D2) (o : Obj) : Dev2 W1 (wr.alloc o) g D g2 D2 := h.below (bl_alloc (Below.refl _ wr) o)
/-- Whatever is done with the first, told of it alone. -/
theorem Dev2.calls {f : FuncId} {args : Array Value} {R : Ending → Prop} (h : Dev2 W1 wr g D g2 D2) (hc : ∀ F, DevAt wr g F D → (∀ i, F i → W1.heap.size ≤ i) → Below W1.heap.size W1 wr → Calls Try.prog f args wr fun e w' => R e ∧ Did F wr w' g D') :
    Calls Try.prog f args wr fun e w' => R e ∧ Dev2 W1 w' g D' g2 D2 := by
  obtain ⟨F, F2, a, b, c, d, e, f⟩ := h
  refine (hc F a c f).mono fun e' w' hh => ⟨hh.1, ?_⟩
  obtain ⟨F', k1, k2, k3⟩ := hh.2
  refine ⟨F', F2, k1, b.chg k2 (fun i hi hf => e i hf hi), fun i hi => (k3 i hi).elim (c i) (fun a => Nat.le_trans f.size a), d, fun i hi hf => ?_, bl_chg f f.size k2 c⟩
  rcases k3 i hi with q | q
  · exact e i q hf
  · have := b.lt i hf
    omega
theorem dev2_write (h : Dev2 W1 wr g D g2 D2) (p : Int) (A : Option Addr) (n c : Nat) (b : List Int) (hn : b.length = n) (hb : Rd by1 1 W1 A b) (hbb : byteL b) (hbl : n ≤ c) (hcl : D.cache.length ≤ 1000000000000) :
    Calls Try.prog 32 #[.pointer (some ⟨g, 0, none⟩), .int .i64 p, .slice A n c] wr fun e w' => e = .returned (.int .i64 (D.write p b).1) ∧ Dev2 W1 w' g (D.write p b).2 g2 D2 :=
  h.calls (R := fun e => e = .returned (.int .i64 (D.write p b).1)) fun F h1 h2 h3 => write_calls' h1 p A n c b hn (hb.below h3 (Nat.le_refl _)) hbb hbl (fun hne a ha hf => by
    rcases hb with e0 | ⟨bb, off, e0, hlt, _⟩
    · exact hne e0
    · rw [ha] at e0
      cases e0
      have : W1.heap.size ≤ bb := h2 bb hf
      omega) hcl
/-- The same, of bytes that the law made itself, beside both devices. -/
theorem dev2_write' (h : Dev2 W1 wr g D g2 D2) (p : Int) (bb : Nat) (s : Sec) (ho : ∃ F F2, DevAt wr g F D ∧ DevAt wr g2 F2 D2 ∧ (∀ i, F i → W1.heap.size ≤ i) ∧ (∀ i, F2 i → W1.heap.size ≤ i) ∧ (∀ i, F i → ¬ F2 i) ∧ Below W1.heap.size W1 wr ∧ ¬ F bb) (hb : wr.heap[bb]? = some (.cells (secCells s).toArray 5 (0, 0))) (hcl : D.cache.length ≤ 1000000000000) :
    Calls Try.prog 32 #[.pointer (some ⟨g, 0, none⟩), .int .i64 p, .slice (some ⟨bb, 0, none⟩) 32 32] wr fun e w' => e = .returned (.int .i64 (D.write p s.1).1) ∧ Dev2 W1 w' g (D.write p s.1).2 g2 D2 := by
  obtain ⟨F, F2, a, b, c, d, e, f, hF⟩ := ho
  refine (write_calls' a p _ 32 32 s.1 s.2.1 (rd_sec hb) s.2.2 (Nat.le_refl _) (fun _ x hx hf => by cases hx; exact hF hf) hcl).mono fun e' w' hh => ⟨hh.1, ?_⟩
  obtain ⟨F', k1, k2, k3⟩ := hh.2
  refine ⟨F', F2, k1, b.chg k2 (fun i hi hf => e i hf hi), fun i hi => (k3 i hi).elim (c i) (fun a => Nat.le_trans f.size a), d, fun i hi hf => ?_, bl_chg f f.size k2 c⟩
  rcases k3 i hi with q | q
  · exact e i q hf
  · have := b.lt i hf
    omega
theorem dev2_flush (h : Dev2 W1 wr g D g2 D2) : Calls Try.prog 33 #[.pointer (some ⟨g, 0, none⟩)] wr fun e w' => e = .returned (.int .i64 D.flush.1) ∧ Dev2 W1 w' g D.flush.2 g2 D2 :=
  h.calls (R := fun e => e = .returned (.int .i64 D.flush.1)) fun F h1 h2 h3 => flush_calls h1
theorem dev2_crash (h : Dev2 W1 wr g D g2 D2) (keep : List Bool) (torn bytes : Int) (K : Option Addr) (n ck : Nat) (hn : keep.length = n) (hf : Rd boolEnc 1 W1 K keep) :
    Calls Try.prog 35 #[.pointer (some ⟨g, 0, none⟩), .agg #[.slice K n ck, .int .i64 torn, .int .i64 bytes]] wr fun e w' => e = .returned (.tuple #[]) ∧ Dev2 W1 w' g (D.crash ⟨keep, torn, bytes⟩) g2 D2 := by
  subst hn
  exact h.calls (R := fun e => e = .returned (.tuple #[])) fun F h1 h2 h3 => crash_calls h1 ⟨keep, torn, bytes⟩ K ck (hf.below h3 (Nat.le_refl _))
theorem devB_copy (h : DevB W1 wr g D) (hcl : D.cache.length ≤ 1000000000000) : Calls Try.prog 36 #[.pointer (some ⟨g, 0, none⟩)] wr fun e w' => ∃ g2, e = .returned (.pointer (some ⟨g2, 0, none⟩)) ∧ Dev2 W1 w' g D g2 D := by
  obtain ⟨F, h1, h2, h3⟩ := h
  refine (copy_calls h1 hcl).mono fun e w' hh => ?_
  obtain ⟨g2, e1, F2, k1, k2, k3⟩ := hh
  exact ⟨g2, e1, F, F2, h1.below k3, k1, h2, fun i hi => Nat.le_trans h3.size (k2 i hi), fun i hi hf => by have := h1.lt i hi; have := k2 i hf; omega, bl_then h3 h3.size k3⟩
end

/-! ### Texts of bytes -/
def strB (xs : List Int) : Str := strOfNums xs
theorem strB_nil : strB [] = ByteArray.empty := rfl
theorem strB_inj {xs ys : List Int} (hx : byteL xs) (hy : byteL ys) (h : strB xs = strB ys) : xs = ys := by
  have e : xs.map (fun n => UInt8.ofNat n.toNat) = ys.map (fun n => UInt8.ofNat n.toNat) := by
    have := congrArg (fun s : ByteArray => s.data.toList) h
    simpa [strB, strOfNums] using this
  have hl : xs.length = ys.length := by have := congrArg List.length e; simpa using this
  apply List.ext_getElem hl
  intro i h1 h2
  have e1 : UInt8.ofNat (xs[i]).toNat = UInt8.ofNat (ys[i]).toNat := by
    have := congrArg (fun l => l[i]?) e
    simpa [List.getElem?_map, List.getElem?_eq_getElem h1, List.getElem?_eq_getElem h2] using this
  have e2 := congrArg UInt8.toNat e1
  have a := hx xs[i] (List.getElem_mem _)
  have b := hy ys[i] (List.getElem_mem _)
  simp only [UInt8.toNat_ofNat'] at e2
  omega
theorem strB_beq {xs ys : List Int} (hx : byteL xs) (hy : byteL ys) : ((strB xs).toList == (strB ys).toList) = decide (xs = ys) := by
  rw [toList_beq]
  by_cases h : xs = ys
  · subst h; simp
  · have : ¬ strB xs = strB ys := fun e => h (strB_inj hx hy e)
    simp [h, this]
/-- string(b), whatever b's address where it is empty. -/
theorem run_strB {W : World} {A : Option Addr} {xs : List Int} (n c : Nat) (hn : xs.length = n) (h : Rd by1 1 W A xs) : (convert 38 9 (.slice A n c)).run Try.prog W = .ok (.string (strB xs)) W := by
  subst hn
  by_cases h0 : xs = []
  · subst h0
    show (convert 38 9 (.slice A 0 c)).run Try.prog W = _
    rw [run_convert_bytes_string W 38 9 5 A 0 c Try.underlying38 Try.underlying5 Try.underlying9]
    cases A with
    | none => simp [Conv.bytesToString, strB_nil]
    | some a =>
      have hl : (loadCells a 0).run Try.prog W = .ok #[] W := by simpa using run_loadCells_list (P := Try.prog) W a [] (by simp)
      simp [Conv.bytesToString, hl, strB_nil]
  · rcases h with e | ⟨b, off, rfl, hlt, hc⟩
    · exact absurd e h0
    · refine run_convert_bytes_arg W 38 5 Try.underlying38 Try.underlying5 b off xs.length c xs rfl (fun i hi => ?_) 9 Try.underlying9
      have := hc i (xs.getD i 0) (by simp [hi]) 0 _ rfl
      simpa using this
end Go.Proofs.Ytglpckdmiohciaa
