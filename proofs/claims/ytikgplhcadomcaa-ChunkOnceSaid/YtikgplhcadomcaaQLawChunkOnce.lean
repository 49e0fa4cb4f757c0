/- law08.awake, law08.ChunkOnce -/
import Derived.Test.YtikgplhcadomcaaKM
import Derived.Lib.SlBytesConst
namespace Go.Proofs.Ytikgplhcadomcaa
open Go.RowKit
set_option linter.unusedVariables false
set_option linter.unusedSimpArgs false
/-- The store as a law holds it. -/
def StB (W1 wr : World) (s p g : Nat) (D : Dv) (S : Stor) : Prop := ∃ F, StAt wr s p g F D S ∧ (∀ i, F i → W1.heap.size ≤ i) ∧ Below W1.heap.size W1 wr
section
variable {W1 wr w3 : World} {s p g : Nat} {D D' : Dv} {S S' : Stor} {F : Nat → Prop}
theorem StB.of_did (h2 : ∀ i, F i → W1.heap.size ≤ i) (h3 : Below W1.heap.size W1 wr) (k : StDid F wr w3 s p g D' S') : StB W1 w3 s p g D' S' := by
  obtain ⟨F', k1, k2, k3⟩ := k
  exact ⟨F', k1, fun i hi => (k3 i hi).elim (h2 i) (fun a => Nat.le_trans h3.size a), bl_chg h3 h3.size k2 h2⟩
theorem StB.below (h : StB W1 wr s p g D S) (hb : Below wr.heap.size wr w3) : StB W1 w3 s p g D S := by
  obtain ⟨F, h1, h2, h3⟩ := h
  exact ⟨F, h1.below hb, h2, bl_then h3 h3.size hb⟩
theorem StB.bl (h : StB W1 wr s p g D S) : Below W1.heap.size W1 wr := by obtain ⟨F, h1, h2, h3⟩ := h; exact h3
def PutB (W1 w' : World) (s p g : Nat) (R : (Int × Int) × Dv × Stor) (e : Ending) : Prop := e = .returned (.tuple #[.int .u64 R.1.1, .int .i64 R.1.2]) ∧ StB W1 w' s p g R.2.1 R.2.2
/-- A text that lies ahead of the store, or behind all of it. -/
theorem stB_put (h : StB W1 wr s p g D S) (A : Option Addr) (c n : Nat) (b : List Int) (hn : b.length = n) (hcap : n ≤ c) (hbl : n ≤ 1000000) (hbb : byteL b) (hr : Rd by1 1 W1 A b) (hcl : D.cache.length ≤ 1000000000) (hput : S.P.put.length ≤ 1000000)
    (hids : (idsOf S.now (hashB b)).length ≤ 1000000) (hnx : S.now.next < 100000000000000000) : Calls Try.prog 23 #[.pointer (some ⟨s, 0, none⟩), .slice A n c] wr fun e w' => PutB W1 w' s p g (putC D S b) e := by
  subst hn
  obtain ⟨F, h1, h2, h3⟩ := h
  exact (chPut_calls h1 A c b hcap hbl hbb (hr.below h3 (Nat.le_refl _)) (rd_notin hr h2) hcl hput hids hnx).mono fun e w' hh => ⟨hh.1, StB.of_did h2 h3 hh.2⟩
/-- A text of one byte that was made for the call. -/
theorem stB_lit (h : StB W1 wr s p g D S) (x : Int) (hx : 0 ≤ x ∧ x ≤ 255) (hcl : D.cache.length ≤ 1000000000) (hput : S.P.put.length ≤ 1000000)
    (hids : (idsOf S.now (hashB [x])).length ≤ 1000000) (hnx : S.now.next < 100000000000000000) : Calls Try.prog 23 #[.pointer (some ⟨s, 0, none⟩), .slice (some ⟨wr.heap.size, 0, none⟩) 1 1] (wr.alloc (.cells #[.int .u8 x] 5 (1, 2))) fun e w' => PutB W1 w' s p g (putC D S [x]) e := by
  obtain ⟨F, h1, h2, h3⟩ := h
  have hb : Below wr.heap.size wr (wr.alloc (.cells #[.int .u8 x] 5 (1, 2))) := bl_alloc (Below.refl _ wr) _
  refine (chPut_calls (h1.below hb) (some ⟨wr.heap.size, 0, none⟩) 1 [x] (Nat.le_refl _) (by simp) (by intro y hy; simp at hy; omega) (Rd.lit (blk_new wr _) rfl) (fun _ a ha hf => by cases ha; exact Nat.lt_irrefl _ (h1.lt _ hf)) hcl hput hids hnx).mono fun e w' hh => ⟨hh.1, StB.of_did h2 (bl_then h3 h3.size hb) hh.2⟩
theorem devB_chOpenF (h : DevB W1 wr g D) {P : Pg} (hcl : D.cache.length ≤ 1000000000) (h1 : openR D = (none, 50)) (h2 : (formatR D).1 = 0) (h3 : openR (formatR D).2 = (some (P, []), 0)) :
    Calls Try.prog 22 #[.pointer (some ⟨g, 0, none⟩)] wr fun e w' => ∃ s p, e = .returned (.tuple #[.pointer (some ⟨s, 0, none⟩), .int .i64 0]) ∧ StB W1 w' s p g (formatR D).2 (stor0 P) := by
  obtain ⟨F, k1, k2, k3⟩ := h
  refine (chOpenF_calls k1 hcl h1 h2 h3).mono fun e w' hh => ?_
  obtain ⟨s, p, F', e1, e2, e3, e4⟩ := hh
  exact ⟨s, p, e1, F', e2, fun i hi => (e3 i hi).elim (k2 i) (fun q => Nat.le_trans k3.size q), bl_chg k3 k3.size e4 k2⟩
end
theorem ca_format : (formatR (Dv.new 200)).1 = 0 ∧ Formed ca1 ∧ ca1.n = 200 := by
  obtain ⟨c1, c2, c3, c4⟩ := new_calm 200
  exact format_ok c1 c2 c3 (by rw [c4]; decide)
theorem ca_opened : openR (formatR (Dv.new 200)).2 = (some (caP, []), 0) := by
  obtain ⟨-, f, n⟩ := ca_format
  have := formed_open f (by rw [n]; decide)
  rw [n] at this
  exact this
set_option maxRecDepth 100000 in
set_option maxHeartbeats 4000000 in
theorem awake08_calls (w : World) : Calls Try.prog 21 #[] w fun e w' => e = .returned (.bool true) ∧ Below w.heap.size w w' := by
  have kc := fun (w : World) (C : Array Value) (n c : Nat) => Lib.run_convert_bytes_const (P := Try.prog) w 23 5 C n c Try.underlying23 Try.underlying5
  go_enter Try.func21, Try.ntmps21
  go_wp2_with fail
  refine (devB_new (Below.refl w.heap.size w) 200).mono ?_
  rintro e w1 ⟨g, rfl, hd1⟩
  have D1 := Lib.hid hd1
  clear hd1
  go_wp2_with fail
  refine (devB_chOpenF D1.out (by show ([] : List Wr).length ≤ _; decide) (blank_open (by omega)) ca_format.1 ca_opened).mono ?_
  rintro e w2 ⟨s, p, rfl, hs2⟩
  have S2 : Hid (StB w w2 s p g ca1 ⟨caP, ⟨[], [], 1⟩, ⟨[], [], 1⟩, []⟩) := hs2
  clear hs2 D1
  go_wp2_with fail
  refine (stB_lit S2.out 97 (by omega) (by rw [ca_format.2.1.cache]; decide) (by decide) (by decide) (by decide)).mono ?_
  rintro e w3 ⟨rfl, h3⟩
  have S3 : Hid (StB w w3 s p g ca2.2.1 ca2.2.2) := h3
  clear h3 S2
  rw [show (putC ca1 ⟨caP, ⟨[], [], 1⟩, ⟨[], [], 1⟩, []⟩ [97]).1 = (1, 0) from ca_one]
  obtain ⟨k1, k2, k3, k4, k5, k6⟩ := ca_small
  go_wp2_with fail
  refine (stB_lit S3.out 98 (by omega) (by omega) (by omega) (by rw [ca_ids.1]; decide) (by rw [k5]; decide)).mono ?_
  rintro e w4 ⟨rfl, h4⟩
  have S4 : Hid (StB w w4 s p g ca3.2.1 ca3.2.2) := h4
  clear h4 S3
  rw [show (putC ca2.2.1 ca2.2.2 [98]).1 = (2, 0) from ca_two]
  go_wp2_with fail
  refine (stB_lit S4.out 97 (by omega) (by omega) (by omega) (by rw [ca_ids.2]; decide) (by rw [k6]; decide)).mono ?_
  rintro e w5 ⟨rfl, h5⟩
  have B5 := Lib.hid h5.bl
  clear h5 S4
  rw [show (putC ca3.2.1 ca3.2.2 [97]).1 = (1, 0) from ca_three]
  go_wp2
  go_ret
  exact ⟨rfl, B5.out⟩
set_option maxRecDepth 100000 in
set_option maxHeartbeats 4000000 in
theorem chunkOnce_calls (w : World) (A : Option Addr) (ca : Nat) (a : List Int) (hca : a.length ≤ ca) (hab : byteL a) (har : Rd by1 1 w A a) (B : Option Addr) (cb : Nat) (b : List Int) (hcb : b.length ≤ cb) (hbb : byteL b) (hbr : Rd by1 1 w B b) :
    Calls Try.prog 5 #[.slice A a.length ca, .slice B b.length cb] w fun e w' => e = .returned (.bool true) ∧ Below w.heap.size w w' := by
  have HAB := Lib.hid hab
  have HAR := Lib.hid har
  have HBB := Lib.hid hbb
  have HBR := Lib.hid hbr
  clear hab har hbb hbr
  go_enter Try.func5, Try.ntmps5
  go_wp2_with fail
  refine (awake08_calls _).mono ?_
  rintro e w1 ⟨rfl, hb1⟩
  have B1 := Lib.hid hb1
  clear hb1
  by_cases h1 : (1000 : Int) < (a.length : Int)
  case' pos =>
    go_wp2
    go_ret
    exact ⟨rfl, B1.out⟩
  by_cases h2 : (1000 : Int) < (b.length : Int)
  case' pos =>
    go_wp2
    go_ret
    exact ⟨rfl, B1.out⟩
  obtain ⟨c1, c2, c3, c4⟩ := new_calm 400
  obtain ⟨f1, f2, f3⟩ := format_ok c1 c2 c3 (by rw [c4]; decide)
  have hopen := formed_open f2 (by rw [f3, c4]; decide)
  have hn4 : (formatR (Dv.new 400)).2.n = 400 := by rw [f3, c4]; rfl
  have hone : Fr.new 1 (((400 : Nat) : Int) / 4) = one 1 := by kernel_rfl
  rw [hn4, hone] at hopen
  obtain ⟨D1, S1, p1, p2, p3, p4, p5, p6⟩ := two_puts f2 hn4 HAB.out HBB.out (by omega) (by omega)
  have hcache : (formatR (Dv.new 400)).2.cache.length ≤ 1000000000 := by rw [f2.cache]; decide
  clear c1 c2 c3 c4 f3 f2
  go_wp2_with fail
  refine (devB_new B1.out 400).mono ?_
  rintro e w2 ⟨g, rfl, hd2⟩
  have D2 := Lib.hid hd2
  clear hd2 B1
  go_wp2_with fail
  refine (devB_chOpenF D2.out (by show ([] : List Wr).length ≤ _; decide) (blank_open (by omega)) f1 hopen).mono ?_
  rintro e w3 ⟨s, p, rfl, hs3⟩
  have S3 := Lib.hid hs3
  clear hs3 D2 hopen f1
  unfold stor0 tbl0 at S3
  go_wp2_with fail
  refine (stB_put S3.out A ca a.length a rfl hca (by omega) HAB.out HAR.out hcache (by decide) (Nat.zero_le _) (by decide)).mono ?_
  rintro e w4 ⟨rfl, hs4⟩
  rw [p1] at hs4 ⊢
  have S4 := Lib.hid hs4
  clear hs4 S3 p1
  go_wp2_with fail
  refine (stB_put S4.out B cb b.length b rfl hcb (by omega) HBB.out HBR.out (by omega) (by omega) (by have := p5 (hashB b); omega) (by rw [p4]; decide)).mono ?_
  rintro e w5 ⟨rfl, hs5⟩
  have B5 := Lib.hid hs5.bl
  dsimp only
  rw [p6]
  have cv1 := run_strB a.length ca rfl (HAR.out.below B5.out (Nat.le_refl _))
  have cv2 := run_strB b.length cb rfl (HBR.out.below B5.out (Nat.le_refl _))
  have hcmp := strB_beq HAB.out HBB.out
  clear hs5 S4 p2 p3 p4 p5 p6
  by_cases hab : a = b
  · rw [decide_eq_true hab] at hcmp
    rw [if_pos hab]
    clear hab
    go_wp2
    go_ret
    exact ⟨rfl, B5.out⟩
  · rw [decide_eq_false hab] at hcmp
    rw [if_neg hab]
    clear hab
    go_wp2
    go_ret
    exact ⟨rfl, B5.out⟩
theorem chunkOnce_row (w : World) (v0 v1 : Value) (a b : List Int) (h0 : Bytes w v0 a) (h1 : Bytes w v1 b) :
    Calls Try.prog 5 #[v0, v1] w fun e w' => e = .returned (.bool true) ∧ Below w.heap.size w w' := by
  obtain ⟨A, c, rfl, hc, hb, hr⟩ := h0
  obtain ⟨B, d, rfl, hd, hb2, hr2⟩ := h1
  exact chunkOnce_calls w A c a hc hb hr B d b hd hb2 hr2
end Go.Proofs.Ytikgplhcadomcaa
