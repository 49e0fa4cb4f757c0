/- law07.awake; the pager as a law holds it. The pager as a law holds it. The pager as a law holds it, with a row of spans of the law's own beside it. The pager that nobody made. -/
import Derived.Test.YtikgplhcadomcaaKI
import Derived.Test.YtikgplhcadomcaaKJ
import Derived.Test.YtikgplhcadomcaaKK
import Derived.Lib.SlBytesConst
namespace Go.Proofs.Ytikgplhcadomcaa
open Go.RowKit
set_option linter.unusedVariables false
set_option linter.unusedSimpArgs false
theorem aw_formed : (formatR (Dv.new 40)).1 = 0 ∧ Formed aw1 ∧ aw1.n = 40 := by
  obtain ⟨c1, c2, c3, c4⟩ := new_calm 40
  exact format_ok c1 c2 c3 (by rw [c4]; decide)
theorem aw_open1 : openR aw1 = (some (awP, []), 0) := by
  obtain ⟨-, f, n⟩ := aw_formed
  rw [formed_open f (by rw [n]; decide), n]
  rfl
theorem aw_cache : aw1.cache.length ≤ 1000000000 := by rw [aw_formed.2.1.cache]; decide
theorem OpenR.known {w w' : World} {g : Nat} {F : Nat → Prop} {D : Dv} {P : Pg} {b : List Int} {e : Ending} (h : OpenR w w' g F D e) (ho : openR D = (some (P, b), 0)) :
    ∃ p F' A c, e = .returned (.tuple #[.pointer (some ⟨p, 0, none⟩), .slice A b.length c, .int .i64 0]) ∧ b.length ≤ c ∧ Rd by1 1 w' A b ∧ (∀ a, A = some a → w.heap.size ≤ a.block ∧ ¬ F' a.block) ∧ PgAt w' p g F' D P ∧ (∀ i, F' i → F i ∨ w.heap.size ≤ i) ∧ Below w.heap.size w w' := by
  rcases h with ⟨P', b', p, F', A, c, e1, e2, hc, hr, hA, hP, hF, hb⟩ | ⟨n, e1, e2, _⟩
  · rw [ho] at e1
    have e3 := congrArg Prod.fst e1
    simp only [Option.some.injEq, Prod.mk.injEq] at e3
    obtain ⟨rfl, rfl⟩ := e3
    exact ⟨p, F', A, c, e2, hc, hr, hA, hP, hF, hb⟩
  · rw [ho] at e1
    cases e1
theorem aw_read {w w' : World} {g : Nat} {F : Nat → Prop} {e : Ending} (h : OpenR w w' g F aw2 e) : ∃ p A c, e = .returned (.tuple #[.pointer (some ⟨p, 0, none⟩), .slice A 1 c, .int .i64 0]) ∧ 1 ≤ c ∧ Rd by1 1 w' A [97] ∧ Below w.heap.size w w' := by
  have h1 := aw_open
  have h2 := aw_text
  rcases h with ⟨P, b, p, F', A, c, e1, e2, hc, hr, hA, hP, hF, hb⟩ | ⟨n, e1, e2, _⟩
  · rw [e1] at h2
    have hbe : b = [97] := by simpa using h2
    subst hbe
    exact ⟨p, A, c, e2, hc, hr, hb⟩
  · rw [e1] at h1
    exact absurd h1 e2
set_option maxRecDepth 100000 in
set_option maxHeartbeats 4000000 in
theorem awake07_calls (w : World) : Calls Try.prog 7 #[] w fun e w' => e = .returned (.bool true) ∧ Below w.heap.size w w' := by
  go_enter Try.func7, Try.ntmps7
  go_wp2_with fail
  refine (new_calls w 40).mono ?_
  rintro e w1 ⟨g, F, rfl, hd, hF, hb⟩
  have HF := Lib.hid hF
  have HB := Lib.hid hb
  have HD := Lib.hid hd
  clear hd hF hb
  go_wp2_with fail
  refine (format_calls HD.out (by decide)).mono ?_
  rintro e w2 ⟨rfl, hd2⟩
  rw [aw_formed.1]
  obtain ⟨F2, d2, ch2, s2⟩ := hd2
  have D2 : Hid (DevAt w2 g F2 aw1) := d2
  have hF2 : Hid (∀ i, F2 i → w.heap.size ≤ i) := fun i hi => (s2 i hi).elim (HF.out i) (fun q => Nat.le_trans HB.out.size q)
  have B2 : Hid (Below w.heap.size w w2) := bl_chg HB.out HB.out.size ch2 HF.out
  clear d2 ch2 s2
  go_wp2_with fail
  refine (open_calls D2.out).mono ?_
  rintro e w3 h3
  obtain ⟨p, F3, A3, c3, rfl, -, -, -, hP3, hs3, hb3⟩ := h3.known aw_open1
  have P3 := Lib.hid hP3
  have s3 : Hid (∀ i, F3 i → w.heap.size ≤ i) := fun i hi => (hs3 i hi).elim (hF2.out i) (fun q => Nat.le_trans B2.out.size q)
  have b3 : Hid (Below w.heap.size w w3) := bl_then B2.out B2.out.size hb3
  clear h3 hP3 hs3 hb3
  have kc := fun (w : World) (C : Array Value) (n c : Nat) => Lib.run_convert_bytes_const (P := Try.prog) w 23 5 C n c Try.underlying23 Try.underlying5
  have hb4 : Below w3.heap.size w3 (w3.alloc (.cells #[.int .u8 97] 5 (1, 2))) := bl_alloc (Below.refl _ w3) _
  have hr4 : Rd by1 1 (w3.alloc (.cells #[.int .u8 97] 5 (1, 2))) (some ⟨w3.heap.size, 0, none⟩) [97] := Rd.lit (blk_new w3 _) rfl
  have HC := Lib.hid (pgCommit_calls (P3.out.below hb4) (some ⟨w3.heap.size, 0, none⟩) 1 [97] (Nat.le_refl _) (by decide) (by intro x hx; simp at hx; omega) hr4 (fun _ a ha hf => by cases ha; exact Nat.lt_irrefl _ (P3.out.lt w3.heap.size hf)) aw_cache (by decide))
  clear hr4
  have B4 := Lib.hid hb4
  clear hb4
  go_wp2_with fail
  refine HC.out.mono ?_
  rintro e w5 ⟨rfl, hd5⟩
  rw [aw_commit]
  obtain ⟨F5, P5, ch5, s5⟩ := hd5
  obtain ⟨FD5, D5, -⟩ := P5.dev
  have HD5 : Hid (DevAt w5 g FD5 aw2) := D5
  have B5 : Hid (Below w.heap.size w w5) := bl_chg (bl_then b3.out b3.out.size B4.out) (Nat.le_trans b3.out.size B4.out.size) ch5 s3.out
  clear P5 ch5 s5 D5 HC
  go_wp2_with fail
  refine (open_calls HD5.out).mono ?_
  rintro e w6 h6
  obtain ⟨p6, A6, c6, rfl, hc6, hr6, hb6⟩ := aw_read h6
  have B6 : Hid (Below w.heap.size w w6) := bl_then B5.out B5.out.size hb6
  have cv : (convert 23 9 (.slice A6 1 c6)).run Try.prog w6 = .ok (.string (strOfNums [97])) w6 := by
    rcases hr6 with q | ⟨bb, off, rfl, hlt, hcell⟩
    · cases q
    · exact string_of_rd c6 rfl (.inr ⟨bb, off, rfl, hlt, hcell⟩)
  have hs97 : strOfNums [97] = { data := #[97] } := by kernel_rfl
  rw [hs97] at cv
  clear h6 hr6 hb6 hs97
  go_wp2
  go_ret
  exact ⟨rfl, B6.out⟩
end Go.Proofs.Ytikgplhcadomcaa

namespace Go.Proofs.Ytikgplhcadomcaa
open Go.RowKit
set_option linter.unusedVariables false
set_option linter.unusedSimpArgs false
/-- The pager at p, with its device at g, in blocks from W1 on. -/
def PgB (W1 wr : World) (p g : Nat) (D : Dv) (P : Pg) : Prop := ∃ F, PgAt wr p g F D P ∧ (∀ i, F i → W1.heap.size ≤ i) ∧ Below W1.heap.size W1 wr
section
variable {W1 wr w3 : World} {p g : Nat} {D D' : Dv} {P P' : Pg} {F : Nat → Prop}
theorem PgB.of_did (h2 : ∀ i, F i → W1.heap.size ≤ i) (h3 : Below W1.heap.size W1 wr) (k : PgDid F wr w3 p g D' P') : PgB W1 w3 p g D' P' := by
  obtain ⟨F', k1, k2, k3⟩ := k
  exact ⟨F', k1, fun i hi => (k3 i hi).elim (h2 i) (fun a => Nat.le_trans h3.size a), bl_chg h3 h3.size k2 h2⟩
theorem PgB.below (h : PgB W1 wr p g D P) (hb : Below wr.heap.size wr w3) : PgB W1 w3 p g D P := by
  obtain ⟨F, h1, h2, h3⟩ := h
  exact ⟨F, h1.below hb, h2, bl_then h3 h3.size hb⟩
theorem PgB.alloc (h : PgB W1 wr p g D P) (o : Obj) : PgB W1 (wr.alloc o) p g D P := h.below (bl_alloc (Below.refl _ _) o)
theorem PgB.drew (h : PgB W1 wr p g D P) : PgB W1 wr.drew p g D P := h.below (Below.refl _ _).drew
theorem PgB.bl (h : PgB W1 wr p g D P) : Below W1.heap.size W1 wr := by obtain ⟨F, h1, h2, h3⟩ := h; exact h3
theorem PgB.dev (h : PgB W1 wr p g D P) : DevB W1 wr g D := by
  obtain ⟨F, h1, h2, h3⟩ := h
  obtain ⟨FD, d1, d2⟩ := h1.dev
  exact ⟨FD, d1, fun i hi => h2 i (d2 i hi), h3⟩
theorem PgB.frok (h : PgB W1 wr p g D P) : P.fr.Ok := by obtain ⟨F, h1, h2, h3⟩ := h; exact h1.frok
theorem PgB.sok (h : PgB W1 wr p g D P) : P.s.ok := by obtain ⟨F, h1, h2, h3⟩ := h; exact h1.sok
/-- A block of the law's own, ahead of the pager. -/
theorem rd_notin {A : Option Addr} {b : List Int} (hr : Rd by1 1 W1 A b) (h2 : ∀ i, F i → W1.heap.size ≤ i) : b ≠ [] → ∀ a, A = some a → ¬ F a.block := fun hne a ha hf => by
  rcases hr with e0 | ⟨bb, off, e0, hlt, _⟩
  · exact hne e0
  · rw [ha] at e0
    cases e0
    have : W1.heap.size ≤ bb := h2 bb hf
    omega
def LayB (W1 w' : World) (p g : Nat) (R : (Span × Int) × Dv × Pg) (e : Ending) : Prop := e = .returned (.tuple #[.agg #[.int .i64 R.1.1.start, .int .i64 R.1.1.pages], .int .i64 R.1.2]) ∧ PgB W1 w' p g R.2.1 R.2.2
theorem pgB_put (h : PgB W1 wr p g D P) (A : Option Addr) (c n : Nat) (b : List Int) (hn : b.length = n) (hcap : n ≤ c) (hbl : n ≤ 1000000) (hbb : byteL b) (hr : Rd by1 1 W1 A b) (hcl : D.cache.length ≤ 1000000000) (hput : P.put.length ≤ 1000000) :
    Calls Try.prog 11 #[.pointer (some ⟨p, 0, none⟩), .slice A n c] wr fun e w' => LayB W1 w' p g (putR D P b) e := by
  subst hn
  obtain ⟨F, h1, h2, h3⟩ := h
  exact (pgPut_calls h1 A c b hcap hbl hbb (hr.below h3 (Nat.le_refl _)) (rd_notin hr h2) hcl hput).mono fun e w' hh => ⟨hh.1, PgB.of_did h2 h3 hh.2⟩
theorem pgB_commit (h : PgB W1 wr p g D P) (A : Option Addr) (c n : Nat) (b : List Int) (hn : b.length = n) (hcap : n ≤ c) (hbl : n ≤ 1000000) (hbb : byteL b) (hr : Rd by1 1 W1 A b) (hcl : D.cache.length ≤ 1000000000) (hep : P.s.epoch + 1 < 18446744073709551616) :
    Calls Try.prog 12 #[.pointer (some ⟨p, 0, none⟩), .slice A n c] wr fun e w' => e = .returned (.int .i64 (commitR D P b).1) ∧ PgB W1 w' p g (commitR D P b).2.1 (commitR D P b).2.2 := by
  subst hn
  obtain ⟨F, h1, h2, h3⟩ := h
  exact (pgCommit_calls h1 A c b hcap hbl hbb (hr.below h3 (Nat.le_refl _)) (rd_notin hr h2) hcl hep).mono fun e w' hh => ⟨hh.1, PgB.of_did h2 h3 hh.2⟩
theorem pgB_root (h : PgB W1 wr p g D P) : Calls Try.prog 13 #[.pointer (some ⟨p, 0, none⟩)] wr fun e w' => e = .returned (.agg #[.int .i64 P.s.start, .int .i64 P.s.pages]) ∧ Below wr.heap.size wr w' := by
  obtain ⟨F, h1, h2, h3⟩ := h
  exact proot_calls h1
theorem pgB_epoch (h : PgB W1 wr p g D P) : Calls Try.prog 18 #[.pointer (some ⟨p, 0, none⟩)] wr fun e w' => e = .returned (.int .u64 P.s.epoch) ∧ wr = w' := by
  obtain ⟨F, h1, h2, h3⟩ := h
  exact pepoch_calls h1
theorem pgB_free (h : PgB W1 wr p g D P) : Calls Try.prog 14 #[.pointer (some ⟨p, 0, none⟩)] wr fun e w' => ∃ f, e = .returned (.pointer (some ⟨f, 0, none⟩)) ∧ FrB W1 w' f P.fr := by
  obtain ⟨F, h1, h2, h3⟩ := h
  refine (pfree_calls h1).mono fun e w' hh => ?_
  obtain ⟨f, F', e1, e2, e3, e4⟩ := hh
  exact ⟨f, e1, F', e2, fun i hi => Nat.le_trans h3.size (e3 i hi), bl_then h3 h3.size e4⟩
theorem pgB_get (h : PgB W1 wr p g D P) (s : Span) (size : Int) (hs0 : -500000 ≤ s.start) (hs1 : s.start ≤ 500000) (hz0 : -9223372036854775808 ≤ size) (hz1 : size ≤ 9223372036854775807) :
    Calls Try.prog 19 #[.pointer (some ⟨p, 0, none⟩), .agg #[.int .i64 s.start, .int .i64 s.pages], .int .i64 size] wr fun e w' => ReadR wr w' (getR D P s size).1 (getR D P s size).2 e := by
  obtain ⟨F, h1, h2, h3⟩ := h
  exact pgGet_calls h1 s size hs0 hs1 hz0 hz1
theorem pgB_claim (h : PgB W1 wr p g D P) (s : Span) : Calls Try.prog 20 #[.pointer (some ⟨p, 0, none⟩), .agg #[.int .i64 s.start, .int .i64 s.pages]] wr fun e w' => e = .returned (.bool (!P.ended && (P.fr.claim s).1)) ∧ PgB W1 w' p g D (if P.ended then P else { P with fr := (P.fr.claim s).2 }) := by
  obtain ⟨F, h1, h2, h3⟩ := h
  exact (pclaim_calls h1 s).mono fun e w' hh => ⟨hh.1, PgB.of_did h2 h3 hh.2⟩
theorem devB_format (h : DevB W1 wr g D) (hcl : D.cache.length ≤ 1000000000) : Calls Try.prog 9 #[.pointer (some ⟨g, 0, none⟩)] wr fun e w' => e = .returned (.int .i64 (formatR D).1) ∧ DevB W1 w' g (formatR D).2 := by
  obtain ⟨F, h1, h2, h3⟩ := h
  exact (format_calls h1 hcl).mono fun e w' hh => ⟨hh.1, DevB.of_did h2 h3 hh.2⟩
/-- Open, where it is known what is opened. -/
theorem devB_open (h : DevB W1 wr g D) {b : List Int} (ho : openR D = (some (P, b), 0)) : Calls Try.prog 10 #[.pointer (some ⟨g, 0, none⟩)] wr fun e w' =>
    ∃ p A c, e = .returned (.tuple #[.pointer (some ⟨p, 0, none⟩), .slice A b.length c, .int .i64 0]) ∧ b.length ≤ c ∧ Rd by1 1 w' A b ∧ PgB W1 w' p g D P ∧ Below wr.heap.size wr w' := by
  obtain ⟨F, h1, h2, h3⟩ := h
  refine (open_calls h1).mono fun e w' hh => ?_
  obtain ⟨p, F', A, c, e1, hc, hr, hA, hP, hF, hb⟩ := hh.known ho
  exact ⟨p, A, c, e1, hc, hr, ⟨F', hP, fun i hi => (hF i hi).elim (h2 i) (fun q => Nat.le_trans h3.size q), bl_then h3 h3.size hb⟩, hb⟩
/-- Something is done with the device of a pager. -/
theorem pgB_dev {Q : Ending → Prop} {fn : FuncId} {args : Array Value} (h : PgB W1 wr p g D P) (hc : ∀ F, DevAt wr g F D → (∀ i, F i → W1.heap.size ≤ i) → Calls Try.prog fn args wr fun e w' => Q e ∧ Did F wr w' g D') :
    Calls Try.prog fn args wr fun e w' => Q e ∧ PgB W1 w' p g D' P := by
  obtain ⟨F, h1, h2, h3⟩ := h
  obtain ⟨f, A, B, a, b, FD, FF, -, -, -, -, -, -, -, -, -, -, hd, -, -, -, hs, -, dD, -⟩ := h1.open
  exact (hc FD hd (fun i hi => h2 i (hs.fd i hi).1)).mono fun e w' hh => ⟨hh.1, PgB.of_did h2 h3 (dD _ _ hh.2)⟩
end
/-! ### How much there is in the cache -/
theorem wrRun_cache : ∀ (l : List (List Int)) (D : Dv) (p : Int), (wrRun D p l).2.cache.length ≤ D.cache.length + l.length
  | [], D, p => by simp [wrRun]
  | s :: l, D, p => by
    have h1 := write_cache D p s
    have h2 := wrRun_cache l (D.write p s).2 (p + 1)
    rw [wrRun_cons]
    simp only [List.length_cons]
    split <;> omega
theorem lay_cache {D : Dv} {P : Pg} {b : List Int} (hl : b.length ≤ 500) : (layR D P b).2.1.cache.length ≤ D.cache.length + 20 := by
  obtain ⟨n0, n1, n2⟩ := need500 hl
  have hw : ∀ st, (writeT D st b).2.cache.length ≤ D.cache.length + 20 := fun st => by
    unfold writeT
    rw [if_neg n0]
    have := wrRun_cache (textSecs b) D (st * 4)
    rw [textSecs_len] at this
    omega
  unfold layR
  simp only [if_neg n0]
  split
  · dsimp only; omega
  · split <;> exact hw _
theorem put_small {D : Dv} {P : Pg} {b : List Int} (hl : b.length ≤ 500) : (putR D P b).2.1.cache.length ≤ D.cache.length + 20 ∧ (putR D P b).2.2.put.length ≤ P.put.length + 1 ∧ (putR D P b).2.2.s = P.s := by
  have h1 := lay_cache (D := D) (P := P) hl
  obtain ⟨h2, -, h3⟩ := layR_put D P b
  unfold putR
  split
  · exact ⟨by dsimp only; omega, by dsimp only; omega, rfl⟩
  · split
    · exact ⟨h1, by simp [h2], h3⟩
    · exact ⟨h1, by rw [h2]; omega, h3⟩
end Go.Proofs.Ytikgplhcadomcaa

namespace Go.Proofs.Ytikgplhcadomcaa
open Go.RowKit
set_option linter.unusedVariables false
set_option linter.unusedSimpArgs false
def PgL (W1 wr : World) (p g : Nat) (D : Dv) (P : Pg) (v : Value) (sp : List Span) : Prop := ∃ F, PgAt wr p g F D P ∧ (∀ i, F i → W1.heap.size ≤ i) ∧ Below W1.heap.size W1 wr ∧ Own Span.enc 2 33 W1.heap.size wr v sp ∧ ∀ k, v.ownBlock = some k → ¬ F k
section
variable {W1 wr w3 : World} {p g : Nat} {D D' : Dv} {P P' : Pg} {F : Nat → Prop} {v : Value} {sp : List Span}
theorem PgL.pgB (h : PgL W1 wr p g D P v sp) : PgB W1 wr p g D P := by obtain ⟨F, h1, h2, h3, h4, h5⟩ := h; exact ⟨F, h1, h2, h3⟩
theorem PgL.bl (h : PgL W1 wr p g D P v sp) : Below W1.heap.size W1 wr := h.pgB.bl
theorem PgL.own (h : PgL W1 wr p g D P v sp) : Own Span.enc 2 33 W1.heap.size wr v sp := by obtain ⟨F, h1, h2, h3, h4, h5⟩ := h; exact h4
theorem PgB.nil (h : PgB W1 wr p g D P) : PgL W1 wr p g D P (.slice none 0 0) [] := by
  obtain ⟨F, h1, h2, h3⟩ := h
  exact ⟨F, h1, h2, h3, Own.nil, fun k hk => by cases hk⟩
theorem PgL.of_did (h2 : ∀ i, F i → W1.heap.size ≤ i) (h3 : Below W1.heap.size W1 wr) (h4 : Own Span.enc 2 33 W1.heap.size wr v sp) (h5 : ∀ k, v.ownBlock = some k → ¬ F k) (k : PgDid F wr w3 p g D' P') : PgL W1 w3 p g D' P' v sp := by
  obtain ⟨F', k1, k2, k3⟩ := k
  refine ⟨F', k1, fun i hi => (k3 i hi).elim (h2 i) (fun a => Nat.le_trans h3.size a), bl_chg h3 h3.size k2 h2, h4.chg k2 h5, fun i hi hf => ?_⟩
  rcases k3 i hf with q | q
  · exact h5 i hi q
  · have := (h4.lt i hi).2
    omega
theorem PgL.below (h : PgL W1 wr p g D P v sp) (hb : Below wr.heap.size wr w3) : PgL W1 w3 p g D P v sp := by
  obtain ⟨F, h1, h2, h3, h4, h5⟩ := h
  exact ⟨F, h1.below hb, h2, bl_then h3 h3.size hb, h4.below hb, h5⟩
theorem PgL.alloc (h : PgL W1 wr p g D P v sp) (o : Obj) : PgL W1 (wr.alloc o) p g D P v sp := h.below (bl_alloc (Below.refl _ _) o)
theorem PgL.drew (h : PgL W1 wr p g D P v sp) : PgL W1 wr.drew p g D P v sp := h.below (Below.refl _ _).drew
theorem PgL.push (h : PgL W1 wr p g D P v sp) {v' : Value} {s : Span} (hg : wr.grownBy w3 v.ownBlock) (ho : Own Span.enc 2 33 W1.heap.size w3 v' (sp ++ [s])) (hv : ∀ k, v'.ownBlock = some k → v.ownBlock = some k ∨ wr.heap.size ≤ k) : PgL W1 w3 p g D P v' (sp ++ [s]) := by
  obtain ⟨F, h1, h2, h3, h4, h5⟩ := h
  have hc : Chg (fun i => v.ownBlock = some i) wr w3 := Chg.grownO hg (fun i hi => hi)
  refine ⟨F, h1.chg hc (fun i hi e => h5 i e hi), h2, bl_chg h3 h3.size hc (fun i hi => (h4.lt i hi).1), ho, fun k hk hf => ?_⟩
  rcases hv k hk with q | q
  · exact h5 k q hf
  · have := h1.lt k hf
    omega
theorem pgL_put (h : PgL W1 wr p g D P v sp) (A : Option Addr) (c n : Nat) (b : List Int) (hn : b.length = n) (hcap : n ≤ c) (hbl : n ≤ 1000000) (hbb : byteL b) (hr : Rd by1 1 W1 A b) (hcl : D.cache.length ≤ 1000000000) (hput : P.put.length ≤ 1000000) :
    Calls Try.prog 11 #[.pointer (some ⟨p, 0, none⟩), .slice A n c] wr fun e w' => e = .returned (.tuple #[.agg #[.int .i64 (putR D P b).1.1.start, .int .i64 (putR D P b).1.1.pages], .int .i64 (putR D P b).1.2]) ∧ PgL W1 w' p g (putR D P b).2.1 (putR D P b).2.2 v sp := by
  subst hn
  obtain ⟨F, h1, h2, h3, h4, h5⟩ := h
  exact (pgPut_calls h1 A c b hcap hbl hbb (hr.below h3 (Nat.le_refl _)) (rd_notin hr h2) hcl hput).mono fun e w' hh => ⟨hh.1, PgL.of_did h2 h3 h4 h5 hh.2⟩
theorem pgL_commit (h : PgL W1 wr p g D P v sp) (A : Option Addr) (c n : Nat) (b : List Int) (hn : b.length = n) (hcap : n ≤ c) (hbl : n ≤ 1000000) (hbb : byteL b) (hr : Rd by1 1 W1 A b) (hcl : D.cache.length ≤ 1000000000) (hep : P.s.epoch + 1 < 18446744073709551616) :
    Calls Try.prog 12 #[.pointer (some ⟨p, 0, none⟩), .slice A n c] wr fun e w' => e = .returned (.int .i64 (commitR D P b).1) ∧ PgL W1 w' p g (commitR D P b).2.1 (commitR D P b).2.2 v sp := by
  subst hn
  obtain ⟨F, h1, h2, h3, h4, h5⟩ := h
  exact (pgCommit_calls h1 A c b hcap hbl hbb (hr.below h3 (Nat.le_refl _)) (rd_notin hr h2) hcl hep).mono fun e w' hh => ⟨hh.1, PgL.of_did h2 h3 h4 h5 hh.2⟩
theorem pgL_claim (h : PgL W1 wr p g D P v sp) (s : Span) (he : P.ended = false) : Calls Try.prog 20 #[.pointer (some ⟨p, 0, none⟩), .agg #[.int .i64 s.start, .int .i64 s.pages]] wr fun e w' => e = .returned (.bool (P.fr.claim s).1) ∧ PgL W1 w' p g D { P with fr := (P.fr.claim s).2 } v sp := by
  obtain ⟨F, h1, h2, h3, h4, h5⟩ := h
  obtain ⟨s0, fr0, pu0, dr0, en0⟩ := P
  dsimp only at he
  subst he
  refine (pclaim_calls h1 s).mono fun e w' hh => ?_
  exact ⟨by simpa using hh.1, PgL.of_did h2 h3 h4 h5 (by simpa using hh.2)⟩
/-- Something is done with the device of a pager. -/
theorem pgL_dev {Q : Ending → Prop} {fn : FuncId} {args : Array Value} (h : PgL W1 wr p g D P v sp) (hc : ∀ F, DevAt wr g F D → Calls Try.prog fn args wr fun e w' => Q e ∧ Did F wr w' g D') :
    Calls Try.prog fn args wr fun e w' => Q e ∧ PgL W1 w' p g D' P v sp := by
  obtain ⟨F, h1, h2, h3, h4, h5⟩ := h
  obtain ⟨f, A, B, a, b, FD, FF, -, -, -, -, -, -, -, -, -, -, hd, -, -, -, hs, -, dD, -⟩ := h1.open
  exact (hc FD hd).mono fun e w' hh => ⟨hh.1, PgL.of_did h2 h3 h4 h5 (dD _ _ hh.2)⟩
theorem pgL_open (h : PgL W1 wr p g D P v sp) {b : List Int} (ho : openR D = (some (P', b), 0)) : Calls Try.prog 10 #[.pointer (some ⟨g, 0, none⟩)] wr fun e w' =>
    ∃ p A c, e = .returned (.tuple #[.pointer (some ⟨p, 0, none⟩), .slice A b.length c, .int .i64 0]) ∧ b.length ≤ c ∧ Rd by1 1 w' A b ∧ PgL W1 w' p g D P' v sp := by
  obtain ⟨F, h1, h2, h3, h4, h5⟩ := h
  obtain ⟨FD, d1, d2⟩ := h1.dev
  refine (open_calls d1).mono fun e w' hh => ?_
  obtain ⟨p, F', A, c, e1, hc, hr, hA, hP, hF, hb⟩ := hh.known ho
  refine ⟨p, A, c, e1, hc, hr, F', hP, fun i hi => (hF i hi).elim (fun q => h2 i (d2 i q)) (fun q => Nat.le_trans h3.size q), bl_then h3 h3.size hb, h4.below hb, fun k hk hf => ?_⟩
  rcases hF k hf with q | q
  · exact h5 k hk (d2 k q)
  · have := (h4.lt k hk).2
    omega
end
/-! ### Spans one behind the other -/
theorem endOf_take {k0 : Int} : ∀ (xs : List (List Int)) (k : Nat) (x : List Int), xs[k]? = some x → endOf k0 (xs.take (k + 1)) = endOf k0 (xs.take k) + needP x.length ∧ (spansOf k0 xs)[k]? = some ⟨endOf k0 (xs.take k), needP x.length⟩
  | [], k, x, h => by simp at h
  | y :: l, 0, x, h => by
    simp only [List.getElem?_cons_zero, Option.some.injEq] at h
    subst h
    exact ⟨by simp [endOf], by simp [spansOf, endOf]⟩
  | y :: l, k + 1, x, h => by
    have ih := endOf_take (k0 := k0 + needP y.length) l k x (by simpa using h)
    exact ⟨by simpa [endOf] using ih.1, by simpa [spansOf, endOf] using ih.2⟩
theorem spans_len (k : Int) (l : List (List Int)) : (spansOf k l).length = l.length := crash_law.spans_len l k
theorem shorts_take {xs : List (List Int)} (h : Shorts xs) (k : Nat) : Shorts (xs.take k) := fun x hx => h x (List.mem_of_mem_take hx)
theorem endOf_le {k0 : Int} {xs : List (List Int)} (h : Shorts xs) (k : Nat) : endOf k0 (xs.take k) ≤ endOf k0 xs := by
  induction xs generalizing k0 k with
  | nil => simp
  | cons y l ih =>
    have hs : Shorts l := fun z hz => h z (List.mem_cons_of_mem _ hz)
    cases k with
    | zero =>
      have := (endOf_bound (y :: l) k0 h).1
      simpa [endOf] using this
    | succ k => simpa [endOf] using ih (k0 := k0 + needP y.length) hs k
end Go.Proofs.Ytikgplhcadomcaa

namespace Go.Proofs.Ytikgplhcadomcaa
open Go.RowKit
set_option linter.unusedVariables false
set_option linter.unusedSimpArgs false
set_option maxRecDepth 100000 in
set_option maxHeartbeats 1000000 in
theorem pgPut_none (w : World) (A : Option Addr) (n c : Nat) : Calls Try.prog 11 #[.pointer none, .slice A n c] w fun e w' => e = .returned (.tuple #[.agg #[.int .i64 0, .int .i64 0], .int .i64 40]) ∧ Below w.heap.size w w' := by
  have hz := blk_new w (.cells #[.int .i64 0, .int .i64 0] 33)
  have hf := row2 hz (.int .i64 0) (.int .i64 0)
  have hb := bl_set (bl_set (bl_alloc (Below.refl _ w) (.cells #[.int .i64 0, .int .i64 0] 33)) (Nat.le_refl _) (i := 0) (.int .i64 0)) (Nat.le_refl _) (i := 1) (.int .i64 0)
  go_enter Try.func11, Try.ntmps11
  go_wp2_with fail
  refine (pok_none _).mono ?_
  rintro e w1 ⟨rfl, rfl⟩
  go_wp2
  first
    | (refine ret_row_tmp #[.int .i64 0, .int .i64 0] (g := w.heap.size) (by rfl) (by rfl) Try.underlying33 (by rfl) rfl (by kernel_rfl) (rowOf_blk hf) ?_; exact ⟨rfl, hb⟩)
    | (refine ret_row_tmp #[.int .i64 0, .int .i64 0] (g := w.heap.size) (by rfl) (by rfl) Try.underlying33 (by rfl) rfl (by kernel_rfl) (rowOf_blk hz) ?_; exact ⟨rfl, bl_alloc (Below.refl _ w) _⟩)
set_option maxRecDepth 100000 in
set_option maxHeartbeats 1000000 in
theorem pgAbort_none (w : World) : Calls Try.prog 24 #[.pointer none] w fun e w' => e = .returned (.tuple #[]) ∧ w = w' := by
  go_enter Try.func24, Try.ntmps24
  go_wp2_with fail
  refine (pok_none _).mono ?_
  rintro e w1 ⟨rfl, rfl⟩
  go_wp2
  refine bodyPost_ret (results_none rfl _ _ _) rfl ?_
  exact ⟨rfl, rfl⟩
set_option maxRecDepth 100000 in
set_option maxHeartbeats 1000000 in
theorem pgClaim_none (w : World) (s : Span) : Calls Try.prog 20 #[.pointer none, .agg #[.int .i64 s.start, .int .i64 s.pages]] w fun e w' => e = .returned (.bool false) ∧ Below w.heap.size w w' := by
  go_enter Try.func20, Try.ntmps20
  go_wp2
  refine wp_region_noPanic ?_
  refine wp_region_held_drew (S := fun _ => True) (by kernel_rfl) (trivial) (fun hHeld => ?_)
  refine wpAnyH_take (i := 0) (oi := ⟨some 5, _, _, _, _, _⟩) (v := ?_) rfl (by kernel_rfl) (by kernel_rfl) (by kernel_rfl) (fun _ _ _ h => h) (Or.inl ⟨by rfl, ?_⟩) (by assumption) ?_
  rotate_left
  · (intro w hSw; (try dsimp only at hSw); skip; (go_simp <;> with_reducible rfl))
  try simp only [Act.put, List.setIfInBounds_toArray, List.set_cons_zero, List.set_cons_succ]
  refine wpAnyH_ready (rs := [1]) (by kernel_rfl) (by simp) ?_
  refine AllReadyH.cons rfl (fun K hK => ?_) AllReadyH.nil
  go_simp
  go_at_call 34
  refine (pok_none _).mono ?_
  rintro e w2 ⟨rfl, rfl⟩
  refine hK.out _ _ (by assumption) (fun _ => ?_)
  clear hK K
  try simp only [Act.put, List.setIfInBounds_toArray, List.set_cons_zero, List.set_cons_succ]
  refine wpAnyH_take (i := 2) (oi := ⟨some 7, _, _, _, _, _⟩) (v := ?_) rfl (by kernel_rfl) (by kernel_rfl) (by kernel_rfl) (fun _ _ _ h => h) (Or.inl ⟨by rfl, ?_⟩) (by assumption) ?_
  rotate_left
  · (intro w hSw; (try dsimp only at hSw); skip; (go_simp <;> with_reducible rfl))
  try simp only [Act.put, List.setIfInBounds_toArray, List.set_cons_zero, List.set_cons_succ]
  refine wpAnyH_take (i := 3) (oi := ⟨some 8, _, _, _, _, _⟩) rfl (by kernel_rfl) (by kernel_rfl) (by kernel_rfl) (fun _ _ _ h => h) (Or.inr ⟨by rfl, rfl⟩) (by assumption) ?_
  try simp only [Act.put, List.setIfInBounds_toArray, List.set_cons_zero, List.set_cons_succ]
  refine wpAnyH_take (i := 4) (oi := ⟨some 9, _, _, _, _, _⟩) rfl (by kernel_rfl) (by kernel_rfl) (by kernel_rfl) (fun _ _ _ h => h) (Or.inr ⟨by rfl, rfl⟩) (by assumption) ?_
  try simp only [Act.put, List.setIfInBounds_toArray, List.set_cons_zero, List.set_cons_succ]
  refine wpAnyH_take (i := 5) (oi := ⟨some 10, _, _, _, _, _⟩) rfl (by kernel_rfl) (by kernel_rfl) (by kernel_rfl) (fun _ _ _ h => h) (Or.inr ⟨by rfl, rfl⟩) (by assumption) ?_
  try simp only [Act.put, List.setIfInBounds_toArray, List.set_cons_zero, List.set_cons_succ]
  refine wpAnyH_take (i := 6) (oi := ⟨some 11, _, _, _, _, _⟩) rfl (by kernel_rfl) (by kernel_rfl) (by kernel_rfl) (fun _ _ _ h => h) (Or.inr ⟨by rfl, rfl⟩) (by assumption) ?_
  try simp only [Act.put, List.setIfInBounds_toArray, List.set_cons_zero, List.set_cons_succ]
  refine wpAnyH_take (i := 7) (oi := ⟨some 12, _, _, _, _, _⟩) rfl (by kernel_rfl) (by kernel_rfl) (by kernel_rfl) (fun _ _ _ h => h) (Or.inr ⟨by rfl, rfl⟩) (by assumption) ?_
  try simp only [Act.put, List.setIfInBounds_toArray, List.set_cons_zero, List.set_cons_succ]
  refine wpAnyH_take (i := 8) (oi := ⟨some 13, _, _, _, _, _⟩) rfl (by kernel_rfl) (by kernel_rfl) (by kernel_rfl) (fun _ _ _ h => h) (Or.inr ⟨by rfl, rfl⟩) (by assumption) ?_
  try simp only [Act.put, List.setIfInBounds_toArray, List.set_cons_zero, List.set_cons_succ]
  refine wpAnyH_take (i := 9) (oi := ⟨some 14, _, _, _, _, _⟩) (v := ?_) rfl (by kernel_rfl) (by kernel_rfl) (by kernel_rfl) (fun _ _ _ h => h) (Or.inl ⟨by rfl, ?_⟩) (by assumption) ?_
  rotate_left
  · (intro w hSw; (try dsimp only at hSw); skip; (go_simp <;> with_reducible rfl))
  try simp only [Act.put, List.setIfInBounds_toArray, List.set_cons_zero, List.set_cons_succ]
  refine wpAnyH_take (i := 10) (oi := ⟨some 4, _, _, _, _, _⟩) (v := ?_) rfl (by kernel_rfl) (by kernel_rfl) (by kernel_rfl) (fun _ _ _ h => h) (Or.inl ⟨by rfl, ?_⟩) (by assumption) ?_
  rotate_left
  · (intro w hSw; (try dsimp only at hSw); skip; (go_simp <;> with_reducible rfl))
  try simp only [Act.put, List.setIfInBounds_toArray, List.set_cons_zero, List.set_cons_succ]
  refine wpAnyH_done (by kernel_rfl) ?_ _
  refine NoPanic.normal ?_
  go_wp2
  go_ret
  exact ⟨rfl, (bl_alloc (Below.refl _ w) _).drew⟩
set_option maxRecDepth 100000 in
set_option maxHeartbeats 1000000 in
theorem pgDrop_none (w : World) (s : Span) : Calls Try.prog 25 #[.pointer none, .agg #[.int .i64 s.start, .int .i64 s.pages]] w fun e w' => e = .returned (.bool false) ∧ Below w.heap.size w w' := by
  go_enter Try.func25, Try.ntmps25
  go_wp2
  refine wp_region_noPanic ?_
  refine wp_region_held_drew (S := fun _ => True) (by kernel_rfl) (trivial) (fun hHeld => ?_)
  refine wpAnyH_take (i := 0) (oi := ⟨some 7, _, _, _, _, _⟩) (v := ?_) rfl (by kernel_rfl) (by kernel_rfl) (by kernel_rfl) (fun _ _ _ h => h) (Or.inl ⟨by rfl, ?_⟩) (by assumption) ?_
  rotate_left
  · (intro w hSw; (try dsimp only at hSw); skip; (go_simp <;> with_reducible rfl))
  try simp only [Act.put, List.setIfInBounds_toArray, List.set_cons_zero, List.set_cons_succ]
  refine wpAnyH_ready (rs := [1]) (by kernel_rfl) (by simp) ?_
  refine AllReadyH.cons rfl (fun K hK => ?_) AllReadyH.nil
  go_simp
  go_at_call 34
  refine (pok_none _).mono ?_
  rintro e w2 ⟨rfl, rfl⟩
  refine hK.out _ _ (by assumption) (fun _ => ?_)
  clear hK K
  try simp only [Act.put, List.setIfInBounds_toArray, List.set_cons_zero, List.set_cons_succ]
  refine wpAnyH_take (i := 2) (oi := ⟨some 9, _, _, _, _, _⟩) (v := ?_) rfl (by kernel_rfl) (by kernel_rfl) (by kernel_rfl) (fun _ _ _ h => h) (Or.inl ⟨by rfl, ?_⟩) (by assumption) ?_
  rotate_left
  · (intro w hSw; (try dsimp only at hSw); skip; (go_simp <;> with_reducible rfl))
  try simp only [Act.put, List.setIfInBounds_toArray, List.set_cons_zero, List.set_cons_succ]
  refine wpAnyH_take (i := 3) (oi := ⟨some 10, _, _, _, _, _⟩) (v := ?_) rfl (by kernel_rfl) (by kernel_rfl) (by kernel_rfl) (fun _ _ _ h => h) (Or.inl ⟨by rfl, ?_⟩) (by assumption) ?_
  rotate_left
  · (intro w hSw; (try dsimp only at hSw); skip; (go_simp <;> with_reducible rfl))
  try simp only [Act.put, List.setIfInBounds_toArray, List.set_cons_zero, List.set_cons_succ]
  refine wpAnyH_take (i := 4) (oi := ⟨some 11, _, _, _, _, _⟩) rfl (by kernel_rfl) (by kernel_rfl) (by kernel_rfl) (fun _ _ _ h => h) (Or.inr ⟨by rfl, rfl⟩) (by assumption) ?_
  try simp only [Act.put, List.setIfInBounds_toArray, List.set_cons_zero, List.set_cons_succ]
  refine wpAnyH_take (i := 5) (oi := ⟨some 12, _, _, _, _, _⟩) rfl (by kernel_rfl) (by kernel_rfl) (by kernel_rfl) (fun _ _ _ h => h) (Or.inr ⟨by rfl, rfl⟩) (by assumption) ?_
  try simp only [Act.put, List.setIfInBounds_toArray, List.set_cons_zero, List.set_cons_succ]
  refine wpAnyH_take (i := 6) (oi := ⟨some 13, _, _, _, _, _⟩) rfl (by kernel_rfl) (by kernel_rfl) (by kernel_rfl) (fun _ _ _ h => h) (Or.inr ⟨by rfl, rfl⟩) (by assumption) ?_
  try simp only [Act.put, List.setIfInBounds_toArray, List.set_cons_zero, List.set_cons_succ]
  refine wpAnyH_take (i := 7) (oi := ⟨some 14, _, _, _, _, _⟩) rfl (by kernel_rfl) (by kernel_rfl) (by kernel_rfl) (fun _ _ _ h => h) (Or.inr ⟨by rfl, rfl⟩) (by assumption) ?_
  try simp only [Act.put, List.setIfInBounds_toArray, List.set_cons_zero, List.set_cons_succ]
  refine wpAnyH_take (i := 8) (oi := ⟨some 15, _, _, _, _, _⟩) (v := ?_) rfl (by kernel_rfl) (by kernel_rfl) (by kernel_rfl) (fun _ _ _ h => h) (Or.inl ⟨by rfl, ?_⟩) (by assumption) ?_
  rotate_left
  · (intro w hSw; (try dsimp only at hSw); skip; (go_simp <;> with_reducible rfl))
  try simp only [Act.put, List.setIfInBounds_toArray, List.set_cons_zero, List.set_cons_succ]
  refine wpAnyH_take (i := 9) (oi := ⟨some 16, _, _, _, _, _⟩) (v := ?_) rfl (by kernel_rfl) (by kernel_rfl) (by kernel_rfl) (fun _ _ _ h => h) (Or.inl ⟨by rfl, ?_⟩) (by assumption) ?_
  rotate_left
  · (intro w hSw; (try dsimp only at hSw); skip; (go_simp <;> with_reducible rfl))
  try simp only [Act.put, List.setIfInBounds_toArray, List.set_cons_zero, List.set_cons_succ]
  refine wpAnyH_take (i := 10) (oi := ⟨some 17, _, _, _, _, _⟩) rfl (by kernel_rfl) (by kernel_rfl) (by kernel_rfl) (fun _ _ _ h => h) (Or.inr ⟨by rfl, rfl⟩) (by assumption) ?_
  try simp only [Act.put, List.setIfInBounds_toArray, List.set_cons_zero, List.set_cons_succ]
  refine wpAnyH_take (i := 11) (oi := ⟨some 18, _, _, _, _, _⟩) rfl (by kernel_rfl) (by kernel_rfl) (by kernel_rfl) (fun _ _ _ h => h) (Or.inr ⟨by rfl, rfl⟩) (by assumption) ?_
  try simp only [Act.put, List.setIfInBounds_toArray, List.set_cons_zero, List.set_cons_succ]
  refine wpAnyH_take (i := 12) (oi := ⟨some 19, _, _, _, _, _⟩) rfl (by kernel_rfl) (by kernel_rfl) (by kernel_rfl) (fun _ _ _ h => h) (Or.inr ⟨by rfl, rfl⟩) (by assumption) ?_
  try simp only [Act.put, List.setIfInBounds_toArray, List.set_cons_zero, List.set_cons_succ]
  refine wpAnyH_take (i := 13) (oi := ⟨some 20, _, _, _, _, _⟩) rfl (by kernel_rfl) (by kernel_rfl) (by kernel_rfl) (fun _ _ _ h => h) (Or.inr ⟨by rfl, rfl⟩) (by assumption) ?_
  try simp only [Act.put, List.setIfInBounds_toArray, List.set_cons_zero, List.set_cons_succ]
  refine wpAnyH_take (i := 14) (oi := ⟨some 21, _, _, _, _, _⟩) (v := ?_) rfl (by kernel_rfl) (by kernel_rfl) (by kernel_rfl) (fun _ _ _ h => h) (Or.inl ⟨by rfl, ?_⟩) (by assumption) ?_
  rotate_left
  · (intro w hSw; (try dsimp only at hSw); skip; (go_simp <;> with_reducible rfl))
  try simp only [Act.put, List.setIfInBounds_toArray, List.set_cons_zero, List.set_cons_succ]
  refine wpAnyH_done (by kernel_rfl) ?_ _
  refine NoPanic.normal ?_
  go_wp2
  go_ret
  exact ⟨rfl, (bl_alloc (Below.refl _ w) _).drew⟩
end Go.Proofs.Ytikgplhcadomcaa
