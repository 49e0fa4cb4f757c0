/- patch.Of, ref27.PatchOf -/
import Derived.Test.YtofdmkglhjpbcaaRead2
import Derived.Test.YtofdmkglhjpbcaaPatchPut
import Derived.Test.YtofdmkglhjpbcaaPatchQ
import Derived.Test.YtofdmkglhjpbcaaPatchJoin
namespace Go.Proofs.Ytofdmkglhjpbcaa
open Go.RowKit
set_option linter.unusedVariables false
set_option linter.unusedSimpArgs false

/-! ### Plain: what the bytes of a patch tell -/
def rdC (bs : List Int) (bad : Bool) : Change × List Int × Bool :=
  let k := rdText 40 bs bad
  let h := rdFlag k.2.1 k.2.2
  let a := rdText 200 h.2.1 h.2.2
  let s := rdFlag a.2.1 a.2.2
  let n := rdText 200 s.2.1 s.2.2
  (⟨k.1, h.1, a.1, s.1, n.1⟩, n.2)
def rdCs : Nat → List Int → Bool → List Change × List Int × Bool
  | 0, bs, bad => ([], bs, bad)
  | n + 1, bs, bad => ((rdC bs bad).1 :: (rdCs n (rdC bs bad).2.1 (rdC bs bad).2.2).1, (rdCs n (rdC bs bad).2.1 (rdC bs bad).2.2).2)
def rdPatch (bs : List Int) : List Change × List Int × Bool := rdCs (rdNum 16384 bs false).1 (rdNum 16384 bs false).2.1 (rdNum 16384 bs false).2.2
def patchOf (bs : List Int) : List Change × Int := if (rdPatch bs).2.2 = false ∧ (rdPatch bs).2.1 = [] ∧ patchErr (rdPatch bs).1 = 0 then ((rdPatch bs).1, 0) else ([], 20)
theorem rdC_eq {bs bs1 bs2 bs3 bs4 bs5 : List Int} {bad bad1 bad2 bad3 bad4 bad5 : Bool} {key was now : Str} {had has : Bool} (h1 : rdText 40 bs bad = (key, bs1, bad1)) (h2 : rdFlag bs1 bad1 = (had, bs2, bad2)) (h3 : rdText 200 bs2 bad2 = (was, bs3, bad3))
    (h4 : rdFlag bs3 bad3 = (has, bs4, bad4)) (h5 : rdText 200 bs4 bad4 = (now, bs5, bad5)) : rdC bs bad = (⟨key, had, was, has, now⟩, bs5, bad5) := by
  simp [rdC, h1, h2, h3, h4, h5]
theorem rdCs_succ {n : Nat} {bs bs5 : List Int} {bad bad5 : Bool} {c : Change} (h : rdC bs bad = (c, bs5, bad5)) : rdCs (n + 1) bs bad = (c :: (rdCs n bs5 bad5).1, (rdCs n bs5 bad5).2) := by
  rw [rdCs, h]
theorem rdText_true (lim : Nat) (bs : List Int) : (rdText lim bs true).2.2 = true := by rw [rdText_bad (rdNum_bad lim bs) (.inr rfl)]
theorem rdFlag_true (bs : List Int) : (rdFlag bs true).2.2 = true := by unfold rdFlag; rw [rdNum_bad]
theorem rdC_true (bs : List Int) : (rdC bs true).2.2 = true := by
  simp only [rdC, rdText_true, rdFlag_true]
theorem rdCs_true : ∀ (n : Nat) (bs : List Int), (rdCs n bs true).2.2 = true := by
  intro n
  induction n with
  | zero => intro bs; rfl
  | succ n ih => intro bs; rw [rdCs, rdC_true]; exact ih _
theorem rdText_size (lim : Nat) (bs : List Int) (bad : Bool) : (rdText lim bs bad).1.size ≤ lim := by
  unfold rdText
  split
  · exact Nat.zero_le _
  · have := (rdNum_le lim bs bad).1
    show (strOfNums _).data.size ≤ _
    simp only [strOfNums, List.size_toArray, List.length_map, List.length_take]
    omega
def ShortC (l : List Change) : Prop := ∀ c ∈ l, c.key.size ≤ 200 ∧ c.was.size ≤ 200 ∧ c.now.size ≤ 200
theorem ShortC.nil : ShortC [] := fun c hc => by cases hc
theorem ShortC.next {l : List Change} {c : Change} {bs bs5 : List Int} {bad bad5 : Bool} (h : ShortC l) (hc : rdC bs bad = (c, bs5, bad5)) : ShortC (l ++ [c]) := by
  intro x hx
  rcases List.mem_append.1 hx with hx | hx
  · exact h x hx
  · simp at hx
    subst hx
    have e : x = (rdC bs bad).1 := by rw [hc]
    rw [e]
    exact ⟨Nat.le_trans (rdText_size 40 _ _) (by omega), rdText_size 200 _ _, rdText_size 200 _ _⟩

/-! ### A reader, the changes read so far and the change at hand -/
def RdSt (t : TypeId) (w0 : World) (B g : Nat) (W : World) (bs : List Int) (bad : Bool) (u : Value) (done : List Change) (d : Nat) (cs : Array Value) : Prop :=
  RAt t True B g W bs bad ∧ Own Change.enc 5 35 B W u done ∧ W.heap[d]? = some (.cells cs 35 (0, 0)) ∧ B ≤ d ∧ u.ownBlock ≠ some d ∧ w0.heap.size ≤ g ∧ Below w0.heap.size w0 W
section
variable {t : TypeId} {w0 : World} {B g : Nat} {W W' : World} {bs bs' : List Int} {bad bad' : Bool} {u : Value} {done : List Change} {d : Nat} {cs cs' : Array Value}
theorem RdSt.new (h : RAt t True B g W bs bad) (ho : Own Change.enc 5 35 B W u done) (hg : w0.heap.size ≤ g) (hb : Below w0.heap.size w0 W) (cs : Array Value) : RdSt t w0 B g (W.alloc (.cells cs 35)) bs bad u done W.heap.size cs :=
  ⟨h.below ((Below.refl _ _).alloc h.2.1 _), ho.alloc _, blk_new _ _, h.2.1, fun e => by have := (ho.lt _ e).2; omega, hg, hb.alloc (Nat.le_trans hg (by have := h.1; have := h.2.1; omega)) _⟩
theorem RdSt.step (h : RdSt t w0 B g W bs bad u done d cs) (hg : W.grownBy W' (some g)) (hr : RAt t True B g W' bs' bad') : RdSt t w0 B g W' bs' bad' u done d cs := by
  obtain ⟨h1, h2, h3, h4, h5, h6, h7⟩ := h
  refine ⟨hr, h2.kept hg (.inr fun e => by have := (h2.lt _ e).1; have := h1.1; omega), (hg.block d (blk_lt h3) (fun e => by injection e with e; have := h1.1; omega)).trans h3, h4, h5, h6, h7.grown hg h7.size (fun k e => by injection e with e; omega)⟩
theorem RdSt.put (h : RdSt t w0 B g W bs bad u done d cs) (i : Nat) (v : Value) (e : cs.setIfInBounds i v = cs') : RdSt t w0 B g (W.setCell ⟨d, i, none⟩ v) bs bad u done d cs' := by
  obtain ⟨h1, h2, h3, h4, h5, h6, h7⟩ := h
  exact ⟨h1.below (bl_set (Below.refl _ _) h4 v), h2.far h5 v, blk_set' h3 i v e, h4, h5, h6, bl_set h7 (by have := h1.1; omega) v⟩
end

set_option maxRecDepth 100000 in
set_option maxHeartbeats 2000000 in
theorem patchOf_calls (w : World) (A : Option Addr) (c : Nat) (bs0 : List Int) (hl : bs0.length ≤ 1000000) (hB : bytesL bs0) (h : Rd u8e 1 w A bs0) :
    Calls Try.prog 35 #[.slice A bs0.length c] w fun e w' => ∃ v, e = .returned (.tuple #[v, .int .i64 (patchOf bs0).2]) ∧ Own Change.enc 5 35 w.heap.size w' v (patchOf bs0).1 ∧ Below w.heap.size w w' := by
  have HA := Lib.hid h
  have HB := Lib.hid hB
  obtain ⟨cnt, bsc, badc, hq⟩ : ∃ a b c, rdNum 16384 bs0 false = (a, b, c) := ⟨_, _, _, rfl⟩
  have hcnt : cnt ≤ 16384 := by have := (rdNum_le 16384 bs0 false).1; rw [hq] at this; exact this
  have hp : rdPatch bs0 = rdCs cnt bsc badc := by unfold rdPatch; rw [hq]
  have HP := Lib.hid hp
  have HQ := Lib.hid hq
  clear h hB hq hp
  go_enter Try.func35, Try.ntmps35
  go_wp2_with fail
  refine (pRead_calls _ A c bs0 hl HB.out HA.out).mono ?_
  rintro e w1 ⟨g, rfl, hg, hr1, hb1⟩
  obtain ⟨B, hBw⟩ : ∃ B, B = w1.heap.size := ⟨_, rfl⟩
  rw [← hBw] at hr1
  have R1 := Lib.hid hr1
  have B1 := Lib.hid hb1
  have hgB := Lib.hid hg
  have HBw := Lib.hid hBw
  clear hr1 hb1 hg hBw
  go_wp2_with fail
  refine (prNum_calls True B g _ bs0 false 16384 cnt bsc badc HQ.out R1.out).mono ?_
  rintro e w2 ⟨rfl, hr2, hg2⟩
  have R2 := Lib.hid hr2
  have B2 := Lib.hid (B1.out.grown hg2 B1.out.size (fun k e => by injection e with e; have := hgB.out; omega))
  clear hr2 hg2
  go_wp2
  go_loopg [5, 6] cnt (fun n u i wr => ∃ (done : List Change) (bs : List Int) (bad : Bool), i = .int .u64 (n : Int) ∧ Hid (done.length + n ≤ 16384) ∧ Hid (RAt 137 True B g wr bs bad) ∧ Hid (Own Change.enc 5 35 B wr u done) ∧ Hid (Below w.heap.size w wr) ∧
    Hid (rdPatch bs0 = (done ++ (rdCs n bs bad).1, (rdCs n bs bad).2)) ∧ Hid (ShortC done))
  case atStart => exact ⟨[], bsc, badc, rfl, by show _ ≤ _; simpa using hcnt, R2.out, Own.nil, B2.out, by show _ = _; rw [HP.out]; rfl, ShortC.nil⟩
  case round =>
    obtain ⟨done, bs, bad, rfl, hn, hr, ho, hb, hs, hsh⟩ := hrel
    by_cases h0 : gk = 0
    · subst h0
      go_wp2_with fail
      refine (prDone_calls True B g _ bs bad hr.out).mono ?_
      rintro e w3 ⟨rfl, rfl⟩
      cases hx : (!bad && decide (bs.length = 0)) with
      | false =>
        have hv : Hid (patchOf bs0 = ([], 20)) := by
          show _ = _
          unfold patchOf
          rw [hs.out, if_neg]
          rintro ⟨h1, h2, -⟩
          simp only [rdCs] at h1 h2
          rw [h1, h2] at hx
          simp at hx
        go_wp2
        go_ret2
        exact ⟨.slice none 0 0, by rw [hv.out]; rfl, by rw [hv.out]; exact Own.nil, hb.out⟩
      | true =>
        simp only [Bool.and_eq_true, Bool.not_eq_true', decide_eq_true_eq] at hx
        obtain ⟨hx1, hx2⟩ := hx
        have hx3 : bs = [] := List.eq_nil_of_length_eq_zero hx2
        obtain ⟨A1, c1, rfl, i1, i1', e1, -⟩ := ho.out.rd Change.ok
        have E1 := Lib.hid e1
        clear e1
        have HZ : Hid (∀ x ∈ done, x.key.size ≤ 9223372036854775807 ∧ x.was.size ≤ 9223372036854775807 ∧ x.now.size ≤ 9223372036854775807) := fun x hx => by have := hsh.out x hx; omega
        have hv : Hid (patchOf bs0 = if patchErr done = 0 then (done, 0) else ([], 20)) := by
          show _ = _
          unfold patchOf
          rw [hs.out]
          simp only [rdCs, hx1, hx3, List.append_nil, true_and]
        go_wp2_with fail
        refine (Right_calls28 _ A1 c1 done (by have := hn.out; omega) HZ.out E1.out).mono ?_
        rintro e w4 ⟨rfl, q⟩
        have hb4 := Lib.hid (bl_then hb.out hb.out.size q)
        have O4 := Lib.hid ((ho.out.below q).mono (show w.heap.size ≤ B by have := hgB.out; have := hr.out.1; omega))
        clear q
        by_cases hpe : patchErr done = 0
        · rw [if_pos hpe] at hv
          rw [hpe]
          clear hpe
          go_wp2
          go_ret2
          exact ⟨_, by rw [hv.out]; rfl, by rw [hv.out]; exact O4.out, hb4.out⟩
        · rw [if_neg hpe] at hv
          have hpb : (patchErr done != 0) = true := by simpa using hpe
          generalize patchErr done = pe at *
          clear hpe
          go_wp2
          go_ret2
          exact ⟨.slice none 0 0, by rw [hv.out]; rfl, by rw [hv.out]; exact Own.nil, hb4.out⟩
    · obtain ⟨n', hn'⟩ : ∃ n', gk = n' + 1 := ⟨gk - 1, by omega⟩
      subst hn'
      have hwn : IntKind.u64.wrap (((n' + 1 : Nat) : Int) - 1) = (n' : Int) := by rw [IntKind.wrap_u64]; have := hn.out; omega
      have hwn2 : IntKind.u64.wrap ((n' : Int) + 1 - 1) = (n' : Int) := by rw [IntKind.wrap_u64]; have := hn.out; omega
      have hwn3 : IntKind.u64.wrap (n' : Int) = (n' : Int) := by rw [IntKind.wrap_u64]; have := hn.out; omega
      have hpos : (0 : Int) < (n' : Int) + 1 := by omega
      clear h0
      obtain ⟨key, bs1, bad1, q1⟩ : ∃ a b c, rdText 40 bs bad = (a, b, c) := ⟨_, _, _, rfl⟩
      obtain ⟨had, bs2, bad2, q2⟩ : ∃ a b c, rdFlag bs1 bad1 = (a, b, c) := ⟨_, _, _, rfl⟩
      obtain ⟨was, bs3, bad3, q3⟩ : ∃ a b c, rdText 200 bs2 bad2 = (a, b, c) := ⟨_, _, _, rfl⟩
      obtain ⟨has, bs4, bad4, q4⟩ : ∃ a b c, rdFlag bs3 bad3 = (a, b, c) := ⟨_, _, _, rfl⟩
      obtain ⟨now, bs5, bad5, q5⟩ : ∃ a b c, rdText 200 bs4 bad4 = (a, b, c) := ⟨_, _, _, rfl⟩
      have Q := Lib.hid (rdC_eq q1 q2 q3 q4 q5)
      have Q1 := Lib.hid q1
      have Q2 := Lib.hid q2
      have Q3 := Lib.hid q3
      have Q4 := Lib.hid q4
      have Q5 := Lib.hid q5
      clear q1 q2 q3 q4 q5
      go_wp2_with fail
      refine (prText_calls True B g _ bs bad 40 (by omega) key bs1 bad1 Q1.out hr.out).mono ?_
      rintro e x1 ⟨rfl, r1, g1⟩
      have O1 := Lib.hid (ho.out.kept g1 (.inr fun e => by have := (ho.out.lt _ e).1; have := hr.out.1; omega))
      have S1 := Lib.hid (RdSt.new (w0 := w) r1 O1.out hgB.out (hb.out.grown g1 hb.out.size (fun k e => by injection e with e; have := hgB.out; omega)) #[.string key, .bool false, .string ⟨#[]⟩, .bool false, .string ⟨#[]⟩])
      clear r1 g1 O1
      obtain ⟨d, hd⟩ : ∃ d, x1.heap.size = d := ⟨_, rfl⟩
      rw [hd] at S1
      go_wp2_with fail
      refine (prFlag_calls True B g _ bs1 bad1 had bs2 bad2 Q2.out S1.out.1).mono ?_
      rintro e x2 ⟨rfl, r2, g2⟩
      have S2 := Lib.hid (S1.out.step g2 r2)
      have S2' := Lib.hid (S2.out.put 1 (.bool had) rfl)
      have c2 := blk_cell S2.out.2.2.1 1
      have f2 := blk_free S2.out.2.2.1 1
      have l2 := blk_lt S2.out.2.2.1
      clear r2 g2 S1
      go_wp2_with fail
      refine (prText_calls True B g _ bs2 bad2 200 (by omega) was bs3 bad3 Q3.out S2'.out.1).mono ?_
      rintro e x3 ⟨rfl, r3, g3⟩
      have S3 := Lib.hid (S2'.out.step g3 r3)
      have S3' := Lib.hid (S3.out.put 2 (.string was) rfl)
      have c3 := blk_cell S3.out.2.2.1 2
      have f3 := blk_free S3.out.2.2.1 2
      have l3 := blk_lt S3.out.2.2.1
      clear r3 g3 S2 S2' c2 f2 l2
      go_wp2_with fail
      refine (prFlag_calls True B g _ bs3 bad3 has bs4 bad4 Q4.out S3'.out.1).mono ?_
      rintro e x4 ⟨rfl, r4, g4⟩
      have S4 := Lib.hid (S3'.out.step g4 r4)
      have S4' := Lib.hid (S4.out.put 3 (.bool has) rfl)
      have c4 := blk_cell S4.out.2.2.1 3
      have f4 := blk_free S4.out.2.2.1 3
      have l4 := blk_lt S4.out.2.2.1
      clear r4 g4 S3 S3' c3 f3 l3
      go_wp2_with fail
      refine (prText_calls True B g _ bs4 bad4 200 (by omega) now bs5 bad5 Q5.out S4'.out.1).mono ?_
      rintro e x5 ⟨rfl, r5, g5⟩
      have S5 := Lib.hid (S4'.out.step g5 r5)
      have S5' := Lib.hid (S5.out.put 4 (.string now) rfl)
      have c5 := blk_cell S5.out.2.2.1 4
      have f5 := blk_free S5.out.2.2.1 4
      have l5 := blk_lt S5.out.2.2.1
      clear r5 g5 S4 S4' c4 f4 l4
      obtain ⟨x6, hx6⟩ : ∃ x, x5.setCell ⟨d, 4, none⟩ (.string now) = x := ⟨_, rfl⟩
      rw [hx6] at S5'
      have c60 := blk_cell S5'.out.2.2.1 0
      have c61 := blk_cell S5'.out.2.2.1 1
      have c62 := blk_cell S5'.out.2.2.1 2
      have c63 := blk_cell S5'.out.2.2.1 3
      have c64 := blk_cell S5'.out.2.2.1 4
      have l6 := blk_lt S5'.out.2.2.1
      have HZ : Hid (B ≤ x6.heap.size) := S5'.out.1.2.1
      have HO : Hid (Own Change.enc 5 35 B x6 u5 done) := S5'.out.2.1
      have hob := Lib.hid HO.out.lt
      have HC2 : Hid ((done.length + 1) * 64 ≤ 140737488355328) := by show _ ≤ _; have := hn.out; omega
      have HC3 : Hid (done.length + 1 ≤ 140737488355328) := by show _ ≤ _; have := hn.out; omega
      go_wp2_with (at_builtin; refine ap_own Change.ok rfl _ _ _ _ _ _ rfl Try.underlying25 infoChJ rfl B u5 done ⟨key, had, was, has, now⟩ #[_, _, _, _, _] rfl rfl x6.heap.size rfl rfl HO.out HZ.out HC2.out HC3.out ?_; intro gg cap x7 o7 hg7 hat7 hlt7)
      have H7 : Hid (Own Change.enc 5 35 B x7 (.slice (some ⟨gg, 0, none⟩) (done.length + 1) cap) (done ++ [⟨key, had, was, has, now⟩])) := o7
      have R7 : Hid (RAt 137 True B g x7 bs5 bad5) := by
        show RAt _ _ _ _ _ _ _
        cases ho7 : u5.ownBlock with
        | none => rw [ho7] at hg7; exact S5'.out.1.below ⟨hg7.os, hg7.tape, hg7.output, hg7.size, fun i hi => hg7.block i (Nat.lt_of_lt_of_le hi HZ.out) (fun e => by cases e)⟩
        | some r => rw [ho7] at hg7; exact S5'.out.1.grown hg7 (hob.out _ ho7).1
      have B7 : Hid (Below w.heap.size w x7) := S5'.out.2.2.2.2.2.2.grown hg7 S5'.out.2.2.2.2.2.2.size (fun k e => by have := (hob.out _ e).1; have := hgB.out; have := hr.out.1; omega)
      clear o7 hg7 hat7
      go_wp2
      go_roundg n'
      case measure => omega
      case rel => exact ⟨done ++ [⟨key, had, was, has, now⟩], bs5, bad5, by simp [hwn3], by show _ ≤ _; have := hn.out; simp; omega, R7, H7, B7, by show _ = _; rw [hs.out, rdCs_succ Q.out]; simp, hsh.out.next Q.out⟩
end Go.Proofs.Ytofdmkglhjpbcaa
