/- ref27.PatchOf -/
import Derived.Test.YtofdmkglhjpbcaaPatchOfP
namespace Go.Proofs.Ytofdmkglhjpbcaa
open Go.RowKit
set_option linter.unusedVariables false
set_option linter.unusedSimpArgs false

set_option maxRecDepth 100000 in
set_option maxHeartbeats 2000000 in
theorem rPatchOf_calls (w : World) (A : Option Addr) (c : Nat) (bs0 : List Int) (hl : bs0.length ≤ 1000000) (hcap : bs0.length ≤ c) (hB : bytesL bs0) (h : Rd u8e 1 w A bs0) :
    Calls Try.prog 36 #[.slice A bs0.length c] w fun e w' => ∃ v, e = .returned (.tuple #[v, .int .i64 (patchOf bs0).2]) ∧ Own Change.enc 5 35 w.heap.size w' v (patchOf bs0).1 ∧ Below w.heap.size w w' := by
  have HA := Lib.hid h
  have HB := Lib.hid hB
  obtain ⟨cnt, bsc, badc, hq⟩ : ∃ a b c, rdNum 16384 bs0 false = (a, b, c) := ⟨_, _, _, rfl⟩
  have hcnt : cnt ≤ 16384 := by have := (rdNum_le 16384 bs0 false).1; rw [hq] at this; exact this
  have hp : rdPatch bs0 = rdCs cnt bsc badc := by unfold rdPatch; rw [hq]
  have HP := Lib.hid hp
  have HQ := Lib.hid hq
  have R1 : Hid (RAt 109 False (w.heap.size + 1) w.heap.size (w.alloc (.cells #[.slice A bs0.length c, .bool false] 109)) bs0 false) := by
    refine ⟨by omega, by simp, hB, hl, A, c, blk_new _ _, hcap, h.below (bl_alloc (Below.refl _ _) _) (Nat.le_refl _), fun hn a ha => ?_, (fun e => e.elim), fun e => by cases e⟩
    rcases h with h | ⟨b, off, rfl, hlt, _⟩
    · exact absurd h hn
    · cases ha
      exact ⟨by show b ≠ _; omega, by show b < _; omega⟩
  have B1 : Hid (Below w.heap.size w (w.alloc (.cells #[.slice A bs0.length c, .bool false] 109))) := bl_alloc (Below.refl _ _) _
  clear h hB hq hp
  obtain ⟨g, hg⟩ : ∃ g, w.heap.size = g := ⟨_, rfl⟩
  obtain ⟨B, hBB⟩ : ∃ B, g + 1 = B := ⟨_, rfl⟩
  have hgB : Hid (w.heap.size ≤ g) := by show _ ≤ _; omega
  rw [hg, hBB] at R1
  clear hBB
  go_enter Try.func36, Try.ntmps36
  go_wp2_with fail
  refine (rrNum_calls False B g _ bs0 false 16384 cnt bsc badc HQ.out R1.out).mono ?_
  rintro e w2 ⟨rfl, hr2, hg2⟩
  have R2 := Lib.hid hr2
  have B2 := Lib.hid (B1.out.grown hg2 B1.out.size (fun k e => by injection e with e; have := hgB.out; omega))
  clear hr2 hg2 R1 B1
  go_wp2
  go_loopg [6, 7] cnt (fun n u i wr => ∃ (k : Nat) (done : List Change) (bs : List Int) (bad : Bool), i = .int .u64 (k : Int) ∧ k + n = cnt ∧ Hid (done.length + n ≤ 16384) ∧ Hid (RAt 109 True B g wr bs bad) ∧ Hid (Own Change.enc 5 35 B wr u done) ∧ Hid (Below w.heap.size w wr) ∧
    Hid (rdPatch bs0 = (done ++ (rdCs n bs bad).1, (rdCs n bs bad).2)) ∧ Hid (ShortC done))
  case atStart => exact ⟨0, [], bsc, badc, rfl, by omega, by show _ ≤ _; simpa using hcnt, R2.out, Own.nil, B2.out, by show _ = _; rw [HP.out]; rfl, ShortC.nil⟩
  case round =>
    obtain ⟨k, done, bs, bad, rfl, hk, hn, hr, ho, hb, hs, hsh⟩ := hrel
    obtain ⟨h1, h2, h3, h4, Ar, cr, k1, k2, k3, k4, k5, k6⟩ := hr.out
    have hlt := blk_lt k1
    have cb : wr.cell? ⟨g, 1, none⟩ = some (.bool bad) := by rw [blk_cell k1]; rfl
    clear h1 h2 h3 h4 k1 k2 k3 k4 k5 k6
    by_cases h0 : gk = 0
    · subst h0
      have hkc : (cnt : Int) ≤ (k : Int) := by omega
      go_wp2_with fail
      refine (rrDone_calls True B g _ bs bad hr.out).mono ?_
      rintro e w3 ⟨rfl, rfl⟩
      cases hx : (!bad && decide (bs.length = 0)) with
      | false =>
        have hv : Hid (patchOf bs0 = ([], 20)) := by
          show _ = _
          unfold patchOf
          rw [hs.out, if_neg]
          rintro ⟨h1, h2, -⟩
          simp only [rdCs] at h1 h2
          rw [h1, h2] at hx
          simp at hx
        go_wp2
        go_ret2
        exact ⟨.slice none 0 0, by rw [hv.out]; rfl, by rw [hv.out]; exact Own.nil, hb.out⟩
      | true =>
        simp only [Bool.and_eq_true, Bool.not_eq_true', decide_eq_true_eq] at hx
        obtain ⟨hx1, hx2⟩ := hx
        have hx3 : bs = [] := List.eq_nil_of_length_eq_zero hx2
        obtain ⟨A1, c1, rfl, i1, i1', e1, -⟩ := ho.out.rd Change.ok
        have E1 := Lib.hid e1
        clear e1
        have HZ : Hid (∀ x ∈ done, x.key.size ≤ 9223372036854775807 ∧ x.was.size ≤ 9223372036854775807 ∧ x.now.size ≤ 9223372036854775807) := fun x hx => by have := hsh.out x hx; omega
        have hv : Hid (patchOf bs0 = if patchErr done = 0 then (done, 0) else ([], 20)) := by
          show _ = _
          unfold patchOf
          rw [hs.out]
          simp only [rdCs, hx1, hx3, List.append_nil, true_and]
        go_wp2_with fail
        refine (Patch_calls _ A1 c1 done (by have := hn.out; omega) HZ.out E1.out).mono ?_
        rintro e w4 ⟨rfl, q⟩
        have hb4 := Lib.hid (bl_then hb.out hb.out.size q)
        have O4 := Lib.hid ((ho.out.below q).mono (show w.heap.size ≤ B by have := hgB.out; have := hr.out.1; omega))
        clear q
        by_cases hpe : patchErr done = 0
        · rw [if_pos hpe] at hv
          rw [hpe]
          clear hpe
          go_wp2
          go_ret2
          exact ⟨_, by rw [hv.out]; rfl, by rw [hv.out]; exact O4.out, hb4.out⟩
        · rw [if_neg hpe] at hv
          have hpb : (patchErr done != 0) = true := by simpa using hpe
          generalize patchErr done = pe at *
          clear hpe
          go_wp2
          go_ret2
          exact ⟨.slice none 0 0, by rw [hv.out]; rfl, by rw [hv.out]; exact Own.nil, hb4.out⟩
    · obtain ⟨n', hn'⟩ : ∃ n', gk = n' + 1 := ⟨gk - 1, by omega⟩
      subst hn'
      have hkc : (k : Int) < (cnt : Int) := by omega
      have hwn : IntKind.u64.wrap ((k : Int) + 1) = ((k + 1 : Nat) : Int) := by rw [IntKind.wrap_u64]; omega
      clear h0
      cases bad with
      | true =>
        have hv : Hid (patchOf bs0 = ([], 20)) := by
          show _ = _
          unfold patchOf
          rw [hs.out, if_neg]
          rintro ⟨h1, h2, -⟩
          simp only [rdCs_true] at h1
          cases h1
        go_wp2_with fail
        refine (rrDone_calls True B g _ bs true hr.out).mono ?_
        rintro e w3 ⟨rfl, rfl⟩
        go_wp2
        go_ret2
        exact ⟨.slice none 0 0, by rw [hv.out]; rfl, by rw [hv.out]; exact Own.nil, hb.out⟩
      | false =>
        obtain ⟨key, bs1, bad1, q1⟩ : ∃ a b c, rdText 40 bs false = (a, b, c) := ⟨_, _, _, rfl⟩
        obtain ⟨had, bs2, bad2, q2⟩ : ∃ a b c, rdFlag bs1 bad1 = (a, b, c) := ⟨_, _, _, rfl⟩
        obtain ⟨was, bs3, bad3, q3⟩ : ∃ a b c, rdText 200 bs2 bad2 = (a, b, c) := ⟨_, _, _, rfl⟩
        obtain ⟨has, bs4, bad4, q4⟩ : ∃ a b c, rdFlag bs3 bad3 = (a, b, c) := ⟨_, _, _, rfl⟩
        obtain ⟨now, bs5, bad5, q5⟩ : ∃ a b c, rdText 200 bs4 bad4 = (a, b, c) := ⟨_, _, _, rfl⟩
        have Q := Lib.hid (rdC_eq q1 q2 q3 q4 q5)
        have Q1 := Lib.hid q1
        have Q2 := Lib.hid q2
        have Q3 := Lib.hid q3
        have Q4 := Lib.hid q4
        have Q5 := Lib.hid q5
        clear q1 q2 q3 q4 q5
        go_wp2_with fail
        refine (rrText_calls True B g _ bs false 40 (by omega) key bs1 bad1 Q1.out hr.out).mono ?_
        rintro e x1 ⟨rfl, r1, g1⟩
        have O1 := Lib.hid (ho.out.kept g1 (.inr fun e => by have := (ho.out.lt _ e).1; have := hr.out.1; omega))
        have S1 := Lib.hid (RdSt.new (w0 := w) r1 O1.out hgB.out (hb.out.grown g1 hb.out.size (fun k e => by injection e with e; have := hgB.out; omega)) #[.string key, .bool false, .string ⟨#[]⟩, .bool false, .string ⟨#[]⟩])
        clear r1 g1 O1
        obtain ⟨d, hd⟩ : ∃ d, x1.heap.size = d := ⟨_, rfl⟩
        rw [hd] at S1
        go_wp2_with fail
        refine (rrFlag_calls True B g _ bs1 bad1 had bs2 bad2 Q2.out S1.out.1).mono ?_
        rintro e x2 ⟨rfl, r2, g2⟩
        have S2 := Lib.hid (S1.out.step g2 r2)
        have S2' := Lib.hid (S2.out.put 1 (.bool had) rfl)
        have c2 := blk_cell S2.out.2.2.1 1
        have f2 := blk_free S2.out.2.2.1 1
        have l2 := blk_lt S2.out.2.2.1
        clear r2 g2 S1
        go_wp2_with fail
        refine (rrText_calls True B g _ bs2 bad2 200 (by omega) was bs3 bad3 Q3.out S2'.out.1).mono ?_
        rintro e x3 ⟨rfl, r3, g3⟩
        have S3 := Lib.hid (S2'.out.step g3 r3)
        have S3' := Lib.hid (S3.out.put 2 (.string was) rfl)
        have c3 := blk_cell S3.out.2.2.1 2
        have f3 := blk_free S3.out.2.2.1 2
        have l3 := blk_lt S3.out.2.2.1
        clear r3 g3 S2 S2' c2 f2 l2
        go_wp2_with fail
        refine (rrFlag_calls True B g _ bs3 bad3 has bs4 bad4 Q4.out S3'.out.1).mono ?_
        rintro e x4 ⟨rfl, r4, g4⟩
        have S4 := Lib.hid (S3'.out.step g4 r4)
        have S4' := Lib.hid (S4.out.put 3 (.bool has) rfl)
        have c4 := blk_cell S4.out.2.2.1 3
        have f4 := blk_free S4.out.2.2.1 3
        have l4 := blk_lt S4.out.2.2.1
        clear r4 g4 S3 S3' c3 f3 l3
        go_wp2_with fail
        refine (rrText_calls True B g _ bs4 bad4 200 (by omega) now bs5 bad5 Q5.out S4'.out.1).mono ?_
        rintro e x5 ⟨rfl, r5, g5⟩
        have S5 := Lib.hid (S4'.out.step g5 r5)
        have S5' := Lib.hid (S5.out.put 4 (.string now) rfl)
        have c5 := blk_cell S5.out.2.2.1 4
        have f5 := blk_free S5.out.2.2.1 4
        have l5 := blk_lt S5.out.2.2.1
        clear r5 g5 S4 S4' c4 f4 l4
        obtain ⟨x6, hx6⟩ : ∃ x, x5.setCell ⟨d, 4, none⟩ (.string now) = x := ⟨_, rfl⟩
        rw [hx6] at S5'
        have c60 := blk_cell S5'.out.2.2.1 0
        have c61 := blk_cell S5'.out.2.2.1 1
        have c62 := blk_cell S5'.out.2.2.1 2
        have c63 := blk_cell S5'.out.2.2.1 3
        have c64 := blk_cell S5'.out.2.2.1 4
        have l6 := blk_lt S5'.out.2.2.1
        have HZ : Hid (B ≤ x6.heap.size) := S5'.out.1.2.1
        have HO : Hid (Own Change.enc 5 35 B x6 u6 done) := S5'.out.2.1
        have hob := Lib.hid HO.out.lt
        have HC2 : Hid ((done.length + 1) * 64 ≤ 140737488355328) := by show _ ≤ _; have := hn.out; omega
        have HC3 : Hid (done.length + 1 ≤ 140737488355328) := by show _ ≤ _; have := hn.out; omega
        go_wp2_with (at_builtin; refine ap_own Change.ok rfl _ _ _ _ _ _ rfl Try.underlying25 infoChJ rfl B u6 done ⟨key, had, was, has, now⟩ #[_, _, _, _, _] rfl rfl x6.heap.size rfl rfl HO.out HZ.out HC2.out HC3.out ?_; intro gg cap x7 o7 hg7 hat7 hlt7)
        have H7 : Hid (Own Change.enc 5 35 B x7 (.slice (some ⟨gg, 0, none⟩) (done.length + 1) cap) (done ++ [⟨key, had, was, has, now⟩])) := o7
        have R7 : Hid (RAt 109 True B g x7 bs5 bad5) := by
          show RAt _ _ _ _ _ _ _
          cases ho7 : u6.ownBlock with
          | none => rw [ho7] at hg7; exact S5'.out.1.below ⟨hg7.os, hg7.tape, hg7.output, hg7.size, fun i hi => hg7.block i (Nat.lt_of_lt_of_le hi HZ.out) (fun e => by cases e)⟩
          | some r => rw [ho7] at hg7; exact S5'.out.1.grown hg7 (hob.out _ ho7).1
        have B7 : Hid (Below w.heap.size w x7) := S5'.out.2.2.2.2.2.2.grown hg7 S5'.out.2.2.2.2.2.2.size (fun k e => by have := (hob.out _ e).1; have := hgB.out; have := hr.out.1; omega)
        clear o7 hg7 hat7
        go_wp2
        go_roundg n'
        case measure => omega
        case rel => exact ⟨k + 1, done ++ [⟨key, had, was, has, now⟩], bs5, bad5, by simp [hwn], by omega, by show _ ≤ _; have := hn.out; simp; omega, R7, H7, B7, by show _ = _; rw [hs.out, rdCs_succ Q.out]; simp, hsh.out.next Q.out⟩
end Go.Proofs.Ytofdmkglhjpbcaa
