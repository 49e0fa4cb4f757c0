/- ref01.Reader.Text; Flag, Done of both; pack.Read -/
import Derived.Test.YtofdmkglhjpbcaaRead
namespace Go.Proofs.Ytofdmkglhjpbcaa
open Go.RowKit
set_option linter.unusedVariables false
set_option linter.unusedSimpArgs false

set_option maxRecDepth 100000 in
set_option maxHeartbeats 1000000 in
theorem rrText_calls (pl : Prop) (B g : Nat) (w : World) (bs : List Int) (bad : Bool) (lim : Nat) (hl : lim ≤ 1000) (s1 : Str) (bs1 : List Int) (bad1 : Bool) (he : rdText lim bs bad = (s1, bs1, bad1)) (h : RAt 109 pl B g w bs bad) :
    Calls Try.prog 68 #[.pointer (some ⟨g, 0, none⟩), .int .i64 lim] w fun e w' => e = .returned (.string s1) ∧ RAt 109 True B g w' bs1 bad1 ∧ w.grownBy w' (some g) := by
  have HA := Lib.hid h
  have HE := Lib.hid he
  have hw : IntKind.u64.wrap (lim : Int) = (lim : Int) := by rw [IntKind.wrap_u64]; omega
  obtain ⟨n, bs2, bad2, hq⟩ : ∃ n bs2 bad2, rdNum lim bs bad = (n, bs2, bad2) := ⟨_, _, _, rfl⟩
  have HQ := Lib.hid hq
  have hn : n ≤ lim := by have := (rdNum_le lim bs bad).1; rw [hq] at this; exact this
  clear h he hq
  go_enter Try.func68, Try.ntmps68
  go_wp2_with fail
  refine (rrNum_calls pl B g _ bs bad lim n bs2 bad2 HQ.out HA.out).mono ?_
  rintro e w1 ⟨rfl, hr1, hg1⟩
  have G1 := Lib.hid hg1
  obtain ⟨h1, h2, h3, h4, A, c, k1, k2, k3, k4, k5, k6⟩ := hr1
  have H1 := Lib.hid h1
  have H2 := Lib.hid h2
  have H3 := Lib.hid h3
  have K1 := Lib.hid k1
  have K3 := Lib.hid k3
  have K4 := Lib.hid k4
  have K5 := Lib.hid (k5 trivial)
  have K6 := Lib.hid k6
  have hlt := blk_lt k1
  have c0 : w1.cell? ⟨g, 0, none⟩ = some (.slice A bs2.length c) := by rw [blk_cell k1]; rfl
  have c1 : w1.cell? ⟨g, 1, none⟩ = some (.bool bad2) := by rw [blk_cell k1]; rfl
  have f0 := blk_free k1 0
  have hwl : IntKind.u64.wrap (bs2.length : Int) = (bs2.length : Int) := by rw [IntKind.wrap_u64]; omega
  clear h1 h2 h3 k1 k3 k4 k5 k6 hg1
  by_cases hbig : bs2.length < n
  · have he := HE.out
    rw [rdText_bad HQ.out (.inl hbig)] at he
    cases he
    have hbig' : (bs2.length : Int) < (n : Int) := by omega
    cases bad2
    · go_wp2_with fail
      refine (rrFail_calls _ g _ _ K1.out).mono ?_
      rintro e w2 ⟨rfl, rfl⟩
      go_wp2
      go_ret
      exact ⟨rfl, RAt.fails H1.out H2.out K1.out, grown_trans G1.out (fails_grown _ _ _ _)⟩
    · go_wp2_with fail
      refine (rrFail_calls _ g _ _ K1.out).mono ?_
      rintro e w2 ⟨rfl, rfl⟩
      go_wp2
      go_ret
      exact ⟨rfl, RAt.fails H1.out H2.out K1.out, grown_trans G1.out (fails_grown _ _ _ _)⟩
  · have hbig' : (n : Int) ≤ (bs2.length : Int) := by omega
    have hbig2 : n ≤ bs2.length := by omega
    cases bad2
    · have he := HE.out
      rw [rdText_ok HQ.out hbig2 rfl] at he
      cases he
      rcases K5.out with rfl | ⟨b, off, rfl⟩
      · have hb2 : bs2 = [] := by
          rcases K3.out with h | ⟨b, off, h, _⟩
          · exact h
          · cases h
        subst hb2
        obtain rfl : n = 0 := by simpa using hbig2
        have cn : ∀ m c', (convert 57 9 (.slice none m c')).run Try.prog w1 = .ok (.string ⟨#[]⟩) w1 := fun m c' => run_convert_bytes_nil w1 57 5 Try.underlying57 Try.underlying5 m c' 9 Try.underlying9
        clear hbig
        go_wp2
        go_ret
        exact ⟨rfl, ⟨H1.out, by simpa using H2.out, H3.out, h4, none, _, blk_set' K1.out 0 _ rfl, by simp, .inl rfl, (fun hn => absurd rfl hn), fun _ => .inl rfl, fun e => by cases e⟩, grown_trans G1.out (grown_set _ _ _ _)⟩
      · have hcv : Hid (∀ c', (convert 57 9 (.slice (some ⟨b, off, none⟩) n c')).run Try.prog w1 = .ok (.string (strOfNums (bs2.take n))) w1) := by
          intro c'
          rcases K3.out with h0 | ⟨b', off', e, hbl, hcc⟩
          · subst h0
            obtain rfl : n = 0 := by simpa using hbig2
            refine run_convert_bytes_arg w1 57 5 Try.underlying57 Try.underlying5 b off 0 c' [] rfl (fun i hi => by omega) 9 Try.underlying9
          · cases e
            exact rd_str hbig2 hbl hcc (Below.refl _ _)
        have cv := hcv.out
        clear hbig hcv
        go_wp2
        all_goals
          go_ret
          exact ⟨rfl, RAt.cut H1.out H2.out H3.out h4 K1.out k2 K3.out (fun hn => K4.out hn _ rfl) hbig2 rfl (by omega) (by omega), grown_trans G1.out (grown_set _ _ _ _)⟩
    · have he := HE.out
      rw [rdText_bad HQ.out (.inr rfl)] at he
      cases he
      obtain ⟨rfl, rfl⟩ := K6.out rfl
      obtain rfl := rdNum_true HQ.out
      clear hbig
      go_wp2_with fail
      refine (rrFail_calls _ g _ _ K1.out).mono ?_
      rintro e w2 ⟨rfl, rfl⟩
      go_wp2
      go_ret
      exact ⟨rfl, RAt.fails H1.out H2.out K1.out, grown_trans G1.out (fails_grown _ _ _ _)⟩

set_option maxRecDepth 100000 in
set_option maxHeartbeats 1000000 in
theorem prFlag_calls (pl : Prop) (B g : Nat) (w : World) (bs : List Int) (bad : Bool) (b1 : Bool) (bs1 : List Int) (bad1 : Bool) (he : rdFlag bs bad = (b1, bs1, bad1)) (h : RAt 137 pl B g w bs bad) :
    Calls Try.prog 65 #[.pointer (some ⟨g, 0, none⟩)] w fun e w' => e = .returned (.bool b1) ∧ RAt 137 True B g w' bs1 bad1 ∧ w.grownBy w' (some g) := by
  have HA := Lib.hid h
  obtain ⟨n, bs2, bad2, hq⟩ : ∃ n bs2 bad2, rdNum 1 bs bad = (n, bs2, bad2) := ⟨_, _, _, rfl⟩
  have HQ := Lib.hid hq
  have hn := Lib.hid (rdNum_le 1 bs bad).1
  unfold rdFlag at he
  rw [hq] at he hn
  cases he
  have hn2 : n = 0 ∨ n = 1 := by have := hn.out; simp at this; omega
  clear h hq hn
  rcases hn2 with rfl | rfl
  · go_enter Try.func65, Try.ntmps65
    go_wp2_with fail
    refine (prNum_calls pl B g _ bs bad 1 0 bs1 bad1 HQ.out HA.out).mono ?_
    rintro e w1 ⟨rfl, hr1, hg1⟩
    have R1 := Lib.hid hr1
    have G1 := Lib.hid hg1
    clear hr1 hg1
    go_wp2
    go_ret
    exact ⟨rfl, R1.out, G1.out⟩
  · go_enter Try.func65, Try.ntmps65
    go_wp2_with fail
    refine (prNum_calls pl B g _ bs bad 1 1 bs1 bad1 HQ.out HA.out).mono ?_
    rintro e w1 ⟨rfl, hr1, hg1⟩
    have R1 := Lib.hid hr1
    have G1 := Lib.hid hg1
    clear hr1 hg1
    go_wp2
    go_ret
    exact ⟨rfl, R1.out, G1.out⟩

set_option maxRecDepth 100000 in
set_option maxHeartbeats 1000000 in
theorem rrFlag_calls (pl : Prop) (B g : Nat) (w : World) (bs : List Int) (bad : Bool) (b1 : Bool) (bs1 : List Int) (bad1 : Bool) (he : rdFlag bs bad = (b1, bs1, bad1)) (h : RAt 109 pl B g w bs bad) :
    Calls Try.prog 69 #[.pointer (some ⟨g, 0, none⟩)] w fun e w' => e = .returned (.bool b1) ∧ RAt 109 True B g w' bs1 bad1 ∧ w.grownBy w' (some g) := by
  have HA := Lib.hid h
  obtain ⟨n, bs2, bad2, hq⟩ : ∃ n bs2 bad2, rdNum 1 bs bad = (n, bs2, bad2) := ⟨_, _, _, rfl⟩
  have HQ := Lib.hid hq
  have hn := Lib.hid (rdNum_le 1 bs bad).1
  unfold rdFlag at he
  rw [hq] at he hn
  cases he
  have hn2 : n = 0 ∨ n = 1 := by have := hn.out; simp at this; omega
  clear h hq hn
  rcases hn2 with rfl | rfl
  · go_enter Try.func69, Try.ntmps69
    go_wp2_with fail
    refine (rrNum_calls pl B g _ bs bad 1 0 bs1 bad1 HQ.out HA.out).mono ?_
    rintro e w1 ⟨rfl, hr1, hg1⟩
    have R1 := Lib.hid hr1
    have G1 := Lib.hid hg1
    clear hr1 hg1
    go_wp2
    go_ret
    exact ⟨rfl, R1.out, G1.out⟩
  · go_enter Try.func69, Try.ntmps69
    go_wp2_with fail
    refine (rrNum_calls pl B g _ bs bad 1 1 bs1 bad1 HQ.out HA.out).mono ?_
    rintro e w1 ⟨rfl, hr1, hg1⟩
    have R1 := Lib.hid hr1
    have G1 := Lib.hid hg1
    clear hr1 hg1
    go_wp2
    go_ret
    exact ⟨rfl, R1.out, G1.out⟩

set_option maxRecDepth 100000 in
set_option maxHeartbeats 1000000 in
theorem prDone_calls (pl : Prop) (B g : Nat) (w : World) (bs : List Int) (bad : Bool) (h : RAt 137 pl B g w bs bad) :
    Calls Try.prog 66 #[.pointer (some ⟨g, 0, none⟩)] w fun e w' => e = .returned (.bool (!bad && decide (bs.length = 0))) ∧ w = w' := by
  obtain ⟨h1, h2, h3, h4, A, c, k1, k2, k3, k4, k5, k6⟩ := h
  have K1 := Lib.hid k1
  have hlt := blk_lt k1
  have c0 : w.cell? ⟨g, 0, none⟩ = some (.slice A bs.length c) := by rw [blk_cell k1]; rfl
  have c1 : w.cell? ⟨g, 1, none⟩ = some (.bool bad) := by rw [blk_cell k1]; rfl
  have e0 : ((bs.length : Int) == 0) = decide (bs.length = 0) := by
    by_cases h : bs.length = 0
    · rw [h]; rfl
    · rw [decide_eq_false h, beq_eq_false_iff_ne]; omega
  obtain ⟨r, hr⟩ : ∃ r, decide (bs.length = 0) = r := ⟨_, rfl⟩
  rw [hr] at e0 ⊢
  clear h1 h2 h3 k1 k3 k4 k5 k6 hr
  cases bad
  · go_enter Try.func66, Try.ntmps66
    go_wp2_with fail
    refine (prOk_calls _ g _ false K1.out).mono ?_
    rintro e w3 ⟨rfl, rfl⟩
    go_wp2
    go_ret
    exact ⟨rfl, rfl⟩
  · go_enter Try.func66, Try.ntmps66
    go_wp2_with fail
    refine (prOk_calls _ g _ true K1.out).mono ?_
    rintro e w3 ⟨rfl, rfl⟩
    go_wp2
    go_ret
    exact ⟨rfl, rfl⟩

set_option maxRecDepth 100000 in
set_option maxHeartbeats 1000000 in
theorem rrDone_calls (pl : Prop) (B g : Nat) (w : World) (bs : List Int) (bad : Bool) (h : RAt 109 pl B g w bs bad) :
    Calls Try.prog 70 #[.pointer (some ⟨g, 0, none⟩)] w fun e w' => e = .returned (.bool (!bad && decide (bs.length = 0))) ∧ w = w' := by
  obtain ⟨h1, h2, h3, h4, A, c, k1, k2, k3, k4, k5, k6⟩ := h
  have K1 := Lib.hid k1
  have hlt := blk_lt k1
  have c0 : w.cell? ⟨g, 0, none⟩ = some (.slice A bs.length c) := by rw [blk_cell k1]; rfl
  have c1 : w.cell? ⟨g, 1, none⟩ = some (.bool bad) := by rw [blk_cell k1]; rfl
  have e0 : ((bs.length : Int) == 0) = decide (bs.length = 0) := by
    by_cases h : bs.length = 0
    · rw [h]; rfl
    · rw [decide_eq_false h, beq_eq_false_iff_ne]; omega
  obtain ⟨r, hr⟩ : ∃ r, decide (bs.length = 0) = r := ⟨_, rfl⟩
  rw [hr] at e0 ⊢
  clear h1 h2 h3 k1 k3 k4 k5 k6 hr
  cases bad
  · go_enter Try.func70, Try.ntmps70
    go_wp2
    go_ret
    exact ⟨rfl, rfl⟩
  · go_enter Try.func70, Try.ntmps70
    go_wp2
    go_ret
    exact ⟨rfl, rfl⟩

set_option maxRecDepth 100000 in
set_option maxHeartbeats 1000000 in
theorem pRead_calls (w : World) (A : Option Addr) (c : Nat) (bs : List Int) (hl : bs.length ≤ 1000000) (hb : bytesL bs) (h : Rd u8e 1 w A bs) :
    Calls Try.prog 62 #[.slice A bs.length c] w fun e w' => ∃ g, e = .returned (.pointer (some ⟨g, 0, none⟩)) ∧ w.heap.size ≤ g ∧ RAt 137 True w'.heap.size g w' bs false ∧ Below w.heap.size w w' := by
  have HR := Lib.hid h
  have HB := Lib.hid hb
  clear h hb
  go_enter Try.func62, Try.ntmps62
  go_wp2_with fail
  refine (cloneB_calls _ A c bs hl HR.out).mono ?_
  rintro e w1 ⟨v1, rfl, ho1, hb1⟩
  have O1 := Lib.hid ho1
  have B1 := Lib.hid hb1
  clear hb1
  rcases ho1.2 with ⟨rfl, h0⟩ | ⟨g1, cap, cur, rfl, hbg, hh, h1, h2, h3, h4⟩
  · have : bs = [] := List.eq_nil_of_length_eq_zero h0
    subst this
    clear ho1
    go_wp2
    go_ret
    refine ⟨_, rfl, B1.out.size, ⟨by simp, Nat.le_refl _, HB.out, hl, none, 0, blk_new _ _, by simp, .inl rfl, (fun hn => absurd rfl hn), fun _ => .inl rfl, fun e => by cases e⟩, bl_then B1.out B1.out.size (bl_alloc (Below.refl _ _) _)⟩
  · obtain ⟨_, k1, _, k3, _⟩ := Own.rd' u8ok ho1
    have K3 := Lib.hid k3
    have hlt := Lib.hid (ho1.lt g1 rfl).2
    clear ho1 h1 h2 h3 h4 k3 hh
    go_wp2
    go_ret
    refine ⟨_, rfl, B1.out.size, ⟨by simp, Nat.le_refl _, HB.out, hl, some ⟨g1, 0, none⟩, cap, blk_new _ _, k1, K3.out.below (bl_alloc (Below.refl _ _) _) (Nat.le_refl _), (fun hn a ha => ?_), fun _ => .inr ⟨g1, 0, rfl⟩, fun e => by cases e⟩, bl_then B1.out B1.out.size (bl_alloc (Below.refl _ _) _)⟩
    cases ha
    have := hlt.out
    exact ⟨by show g1 ≠ _; omega, by show g1 < _; simp; omega⟩
end Go.Proofs.Ytofdmkglhjpbcaa
