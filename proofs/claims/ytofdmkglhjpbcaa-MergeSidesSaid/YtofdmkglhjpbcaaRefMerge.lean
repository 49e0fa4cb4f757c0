/- ref09.Merge -/
import Derived.Test.YtofdmkglhjpbcaaMergeOf
import Derived.Test.YtofdmkglhjpbcaaKeys
namespace Go.Proofs.Ytofdmkglhjpbcaa
open Go.RowKit Go.Maps
set_option linter.unusedVariables false
set_option linter.unusedSimpArgs false

/-- Three sides in blocks of their own, in a row. -/
structure Trip (N : Nat) (W : World) (a b c : Side) : Prop where
  a : W.heap[N]? = some (bxS a)
  b : W.heap[N + 1]? = some (bxS b)
  c : W.heap[N + 1 + 1]? = some (bxS c)
theorem Trip.cells {N : Nat} {W : World} {a b c : Side} (h : Trip N W a b c) :
    (W.cell? ⟨N, 0, none⟩ = some (.bool a.has) ∧ W.cell? ⟨N, 1, none⟩ = some (.string a.val)) ∧ (W.cell? ⟨N + 1, 0, none⟩ = some (.bool b.has) ∧ W.cell? ⟨N + 1, 1, none⟩ = some (.string b.val)) ∧
    (W.cell? ⟨N + 1 + 1, 0, none⟩ = some (.bool c.has) ∧ W.cell? ⟨N + 1 + 1, 1, none⟩ = some (.string c.val)) :=
  ⟨side_cells h.a, side_cells h.b, side_cells h.c⟩
theorem Trip.below {N : Nat} {W W' : World} {a b c : Side} (h : Trip N W a b c) (hb : Below W.heap.size W W') : Trip N W' a b c :=
  ⟨blk_below hb h.a (blk_lt h.a), blk_below hb h.b (blk_lt h.b), blk_below hb h.c (blk_lt h.c)⟩
theorem Trip.alloc {N : Nat} {W : World} {a b c : Side} (h : Trip N W a b c) (o : Obj) : Trip N (W.alloc o) a b c := ⟨blk_alloc h.a _, blk_alloc h.b _, blk_alloc h.c _⟩
theorem Trip.grown {N : Nat} {W W' : World} {a b c : Side} (h : Trip N W a b c) {row : Option Nat} (hg : W.grownBy W' row) (hr : ∀ k, row = some k → k < N) : Trip N W' a b c :=
  ⟨(hg.block _ (blk_lt h.a) (fun e => by have := hr _ e.symm; omega)).trans h.a, (hg.block _ (blk_lt h.b) (fun e => by have := hr _ e.symm; omega)).trans h.b, (hg.block _ (blk_lt h.c) (fun e => by have := hr _ e.symm; omega)).trans h.c⟩
theorem Trip.made (w : World) (a b c : Side) : Trip w.heap.size (((w.alloc (bxS a)).alloc (bxS b)).alloc (bxS c)) a b c := by
  have e1 : (w.alloc (bxS a)).heap.size = w.heap.size + 1 := World.size_alloc _ _
  have e2 : ((w.alloc (bxS a)).alloc (bxS b)).heap.size = w.heap.size + 1 + 1 := by rw [World.size_alloc, e1]
  refine ⟨blk_alloc (blk_alloc (blk_new _ _) _) _, blk_alloc ?_ _, ?_⟩
  · have := blk_new (w.alloc (bxS a)) (bxS b); rwa [e1] at this
  · have := blk_new ((w.alloc (bxS a)).alloc (bxS b)) (bxS c); rwa [e2] at this

set_option maxRecDepth 100000 in
set_option maxHeartbeats 2000000 in
theorem RefMerge_calls (w : World) (A B C : Option Addr) (ca cb cc : Nat) (b o t : List Entry) (lb : b.length ≤ 100) (lo : o.length ≤ 100) (lt : t.length ≤ 100)
    (qa : b.length ≤ ca) (qb : o.length ≤ cb) (qc : t.length ≤ cc) (qa' : ca ≤ 9223372036854775807) (qb' : cb ≤ 9223372036854775807) (qc' : cc ≤ 9223372036854775807)
    (hA : Rd Entry.enc 2 w A b) (hB : Rd Entry.enc 2 w B o) (hC : Rd Entry.enc 2 w C t) :
    Calls Try.prog 26 #[.slice A b.length ca, .slice B o.length cb, .slice C t.length cc] w fun e w' => ∃ v u, e = .returned (.tuple #[v, u]) ∧
      Own Entry.enc 2 72 w.heap.size w' v (mergeE b o t) ∧ Own Clash.enc 7 47 w.heap.size w' u (mergeC b o t) ∧ Below w.heap.size w w' := by
  have HA := Lib.hid hA
  have HB := Lib.hid hB
  have HC := Lib.hid hC
  clear hA hB hC
  have hcnt : Hid (cnt [b, o, t] ≤ 1000000) := by show _ ≤ _; simp [cnt]; omega
  have hL : Hid (RdL (w.alloc (.cells #[.slice A b.length ca, .slice B o.length cb, .slice C t.length cc] 22)) (some ⟨w.heap.size, 0, none⟩) [b, o, t]) := by
    refine .inr ⟨_, _, rfl, by simp, fun i x hx => ?_⟩
    have b0 := bl_alloc (Below.refl w.heap.size w) (.cells #[.slice A b.length ca, .slice B o.length cb, .slice C t.length cc] 22)
    rw [blk_cell (blk_new _ _)]
    match i, hx with
    | 0, hx => simp at hx; subst hx; exact ⟨A, ca, rfl, qa, qa', HA.out.below b0 (Nat.le_refl _)⟩
    | 1, hx => simp at hx; subst hx; exact ⟨B, cb, rfl, qb, qb', HB.out.below b0 (Nat.le_refl _)⟩
    | 2, hx => simp at hx; subst hx; exact ⟨C, cc, rfl, qc, qc', HC.out.below b0 (Nat.le_refl _)⟩
  go_enter Try.func26, Try.ntmps26
  go_wp2_with fail
  refine (Keys_calls _ _ 3 [b, o, t] (by simp) (by omega) hcnt.out hL.out).mono ?_
  rintro e w4 ⟨kv, rfl, hok, hb4⟩
  have B4 : Hid (Below w.heap.size w w4) := bl_then (bl_alloc (Below.refl _ _) _) (by simp) hb4
  have KLen : (keysOf [b, o, t]).length ≤ 300 := by have := keys3_len b o t; omega
  have HE : Hid (mergeE b o t = (keysOf [b, o, t]).flatMap (entAt b o t)) := rfl
  have HCl : Hid (mergeC b o t = (keysOf [b, o, t]).flatMap (claAt b o t)) := rfl
  obtain ⟨Ak, ck, rfl, kc, kc', kr, kbase⟩ := hok.rd strOk
  have KR := Lib.hid kr
  clear hok hb4 kr kbase hL hcnt
  generalize keysOf [b, o, t] = ks at *
  go_wp2
  go_loopg [8, 9, 23] ks.length (fun n v u i wr => ∃ k : Nat, i = .int .i64 k ∧ k + n = ks.length ∧ Hid (Own Entry.enc 2 72 w4.heap.size wr v ((ks.take k).flatMap (entAt b o t))) ∧ Hid (Own Clash.enc 7 47 w4.heap.size wr u ((ks.take k).flatMap (claAt b o t))) ∧ Hid (Apart v u) ∧ Hid (Below w4.heap.size w4 wr))
  case atStart => exact ⟨0, rfl, by omega, Own.nil, Own.nil, .inl rfl, Below.refl _ _⟩
  case round =>
    obtain ⟨k, rfl, hk, hoe, hoc, hap, hb⟩ := hrel
    by_cases hlt : k < ks.length
    · obtain ⟨n', hn'⟩ : ∃ n', gk = n' + 1 := ⟨gk - 1, by omega⟩
      subst hn'
      have hrk := Lib.hid (KR.out.below hb.out (Nat.le_refl _))
      rcases hrk.out with h0 | ⟨bk, off, rfl, hbl, hcell⟩
      · simp [h0] at hlt
      have hx := List.getElem?_eq_getElem hlt
      have c0 : wr.cell? ⟨bk, off + k, none⟩ = some (.string ks[k]) := by have := hcell k ks[k] hx 0 _ rfl; simpa using this
      have hde : Hid ((ks.take (k + 1)).flatMap (entAt b o t) = (ks.take k).flatMap (entAt b o t) ++ entAt b o t ks[k]) := take_flat hx
      have hdc : Hid ((ks.take (k + 1)).flatMap (claAt b o t) = (ks.take k).flatMap (claAt b o t) ++ claAt b o t ks[k]) := take_flat hx
      have hle := Lib.hid (flat_take_len (ent_len b o t) ks k)
      have hlc := Lib.hid (flat_take_len (cla_len b o t) ks k)
      have hk1 : Hid (k ≤ 300) := by show _ ≤ _; omega
      generalize ks[k] = key at *
      clear hcell hx hrk
      obtain ⟨de, hde0⟩ : ∃ de, de = (ks.take k).flatMap (entAt b o t) := ⟨_, rfl⟩
      obtain ⟨dc, hdc0⟩ : ∃ dc, dc = (ks.take k).flatMap (claAt b o t) := ⟨_, rfl⟩
      rw [← hde0] at hoe hde hle
      rw [← hdc0] at hoc hdc hlc
      clear hde0 hdc0
      have pb := plain_get b key
      have po := plain_get o key
      have pt := plain_get t key
      have G1 : Hid (∀ W, Below w.heap.size w W → Calls Try.prog 28 #[.slice A b.length ca, .string key] W fun e w' => e = .returned (.agg #[.bool (get b key).has, .string (get b key).val]) ∧ Below W.heap.size W w') := fun W hW => Get_calls' W A ca b key (by omega) (HA.out.below hW (Nat.le_refl _))
      have G2 : Hid (∀ W, Below w.heap.size w W → Calls Try.prog 28 #[.slice B o.length cb, .string key] W fun e w' => e = .returned (.agg #[.bool (get o key).has, .string (get o key).val]) ∧ Below W.heap.size W w') := fun W hW => Get_calls' W B cb o key (by omega) (HB.out.below hW (Nat.le_refl _))
      have G3 : Hid (∀ W, Below w.heap.size w W → Calls Try.prog 28 #[.slice C t.length cc, .string key] W fun e w' => e = .returned (.agg #[.bool (get t key).has, .string (get t key).val]) ∧ Below W.heap.size W w') := fun W hW => Get_calls' W C cc t key (by omega) (HC.out.below hW (Nat.le_refl _))
      have hee : Hid (entAt b o t key = entOf key (pickP (get b key) (get o key) (get t key))) := rfl
      have hec : Hid (claAt b o t key = claOf key (get b key) (get o key) (get t key) (pickP (get b key) (get o key) (get t key))) := rfl
      generalize get b key = sb at *
      generalize get o key = so at *
      generalize get t key = st at *
      have KEY := Lib.hid (fun W => Pick_calls W sb so st pb po pt)
      clear pb po pt
      generalize pickP sb so st = p at *
      obtain ⟨⟨has, val⟩, is⟩ := p
      have hbw := Lib.hid (bl_then B4.out B4.out.size hb.out)
      go_wp2_with fail
      refine (G1.out _ hbw.out).mono ?_
      rintro e x1 ⟨rfl, q1⟩
      have hbw1 := Lib.hid (bl_then hbw.out hbw.out.size q1)
      have hb1 := Lib.hid (bl_then hb.out hb.out.size q1)
      have oe1 := Lib.hid (hoe.out.below q1)
      have oc1 := Lib.hid (hoc.out.below q1)
      clear q1 hoe hoc hb hbw
      go_wp2_with fail
      refine (G2.out _ hbw1.out).mono ?_
      rintro e x2 ⟨rfl, q1⟩
      have hbw2 := Lib.hid (bl_then hbw1.out hbw1.out.size q1)
      have hb2 := Lib.hid (bl_then hb1.out hb1.out.size q1)
      have oe2 := Lib.hid (oe1.out.below q1)
      have oc2 := Lib.hid (oc1.out.below q1)
      clear q1 oe1 oc1 hb1 hbw1
      go_wp2_with fail
      refine (G3.out _ hbw2.out).mono ?_
      rintro e x3 ⟨rfl, q1⟩
      have hb3 := Lib.hid (bl_then hb2.out hb2.out.size q1)
      have oe3 := Lib.hid (oe2.out.below q1)
      have oc3 := Lib.hid (oc2.out.below q1)
      clear q1 oe2 oc2 hb2 hbw2 G1 G2 G3 c0
      have T4 := Lib.hid (Trip.made x3 sb so st)
      have hb4 : Hid (Below w4.heap.size w4 (((x3.alloc (bxS sb)).alloc (bxS so)).alloc (bxS st))) := bl_alloc (bl_alloc (bl_alloc hb3.out _) _) _
      have oe4 : Hid (Own Entry.enc 2 72 w4.heap.size (((x3.alloc (bxS sb)).alloc (bxS so)).alloc (bxS st)) u8 de) := ((oe3.out.alloc _).alloc _).alloc _
      have oc4 : Hid (Own Clash.enc 7 47 w4.heap.size (((x3.alloc (bxS sb)).alloc (bxS so)).alloc (bxS st)) u9 dc) := ((oc3.out.alloc _).alloc _).alloc _
      have lo3 := Lib.hid oe3.out.lt
      have lc3 := Lib.hid oc3.out.lt
      go_wp2_with fail
      refine (KEY.out _).mono ?_
      rintro e w5 ⟨rfl, hb5⟩
      have hb6 := Lib.hid (bl_then hb4.out hb4.out.size hb5)
      have ho5 := Lib.hid (oe4.out.below hb5)
      have hc5 := Lib.hid (oc4.out.below hb5)
      have T5 := Lib.hid (T4.out.below hb5)
      clear hb5 hb4 oe4 oc4 T4
      have hb7 := Lib.hid (bl_alloc hb6.out (.cells #[.bool has, .string val] 45))
      have ho6 := Lib.hid (ho5.out.alloc (.cells #[.bool has, .string val] 45))
      have hc6 := Lib.hid (hc5.out.alloc (.cells #[.bool has, .string val] 45))
      have T6 := Lib.hid (T5.out.alloc (.cells #[.bool has, .string val] 45))
      have hz6 : Hid ((w5.alloc (.cells #[.bool has, .string val] 45)).heap.size = w5.heap.size + 1) := by show _ = _; simp
      have hbs6 : Hid (w4.heap.size ≤ (w5.alloc (.cells #[.bool has, .string val] 45)).heap.size) := hb7.out.size
      have HC2 : Hid ((de.length + 1) * 32 ≤ 140737488355328) := by show _ ≤ _; have := hle.out; have := hk1.out; omega
      have HC3 : Hid (de.length + 1 ≤ 140737488355328) := by show _ ≤ _; have := hle.out; have := hk1.out; omega
      have HD2 : Hid ((dc.length + 1) * 88 ≤ 140737488355328) := by show _ ≤ _; have := hlc.out; have := hk1.out; omega
      have HD3 : Hid (dc.length + 1 ≤ 140737488355328) := by show _ ≤ _; have := hlc.out; have := hk1.out; omega
      cases has with
      | true =>
        have hee2 : Hid (entAt b o t key = [⟨key, val⟩]) := hee.out
        cases is with
        | true =>
          have hec2 : Hid (claAt b o t key = []) := hec.out
          clear hee hec KEY
          go_wp2_with (at_builtin; refine ap_own Entry.ok rfl _ _ _ _ _ _ rfl Try.underlying22 infoEnM rfl w4.heap.size u8 de ⟨key, val⟩ #[_, _] rfl rfl (w5.heap.size + 1) hz6.out rfl ho6.out hbs6.out HC2.out HC3.out ?_; intro gg cap w7 o7 hg7 hat7 hlt7)
          have O7 := Lib.hid o7
          have hob := Lib.hid ho6.out.lt
          have C7 := Lib.hid (hc6.out.kept hg7 hap.out.kept)
          have P7 := Lib.hid (hap.out.next (n := de.length + 1) (c := cap) hc6.out hat7)
          have hb8 := Lib.hid (hb7.out.grown hg7 hb7.out.size (fun k e => (hob.out _ e).1))
          go_roundg n'
          case measure => omega
          case rel =>
            refine ⟨k + 1, by go_num, by omega, ?_, ?_, P7.out, hb8.out⟩
            · show Own _ _ _ _ _ _ _
              rw [hde.out, hee2.out]
              simpa using O7.out
            · show Own _ _ _ _ _ _ _
              rw [hdc.out, hec2.out]
              simpa using C7.out
        | false =>
          have hec2 : Hid (claAt b o t key = [⟨key, sb, so, st⟩]) := hec.out
          clear hee hec KEY
          go_wp2_with (first
            | (at_builtin; refine ap_own Entry.ok rfl _ _ _ _ _ _ rfl Try.underlying22 infoEnM rfl w4.heap.size u8 de ⟨key, val⟩ #[_, _] rfl rfl (w5.heap.size + 1) hz6.out rfl ho6.out hbs6.out HC2.out HC3.out ?_; intro gg cap w7 o7 hg7 hat7 hlt7; have O7 := Lib.hid o7; have HG7 := Lib.hid hg7; have hob := Lib.hid ho6.out.lt; have C7 := Lib.hid (hc6.out.kept hg7 hap.out.kept); have P7 := Lib.hid (hap.out.next (n := de.length + 1) (c := cap) hc6.out hat7); have hb8 := Lib.hid (hb7.out.grown hg7 hb7.out.size (fun k e => (hob.out _ e).1)); clear o7 hg7 hat7; obtain ⟨⟨r1, r2⟩, ⟨r3, r4⟩, ⟨r5, r6⟩⟩ := (T6.out.grown HG7.out (fun k e => (lo3.out _ e).2)).cells; have hz8 : Hid (w4.heap.size ≤ w7.heap.size) := hb8.out.size)
            | (at_builtin; refine ap_own Clash.ok rfl _ _ _ _ _ _ rfl Try.underlying39 infoCl rfl w4.heap.size u9 dc ⟨key, sb, so, st⟩ #[_, _, _, _, _, _, _] rfl rfl w7.heap.size rfl rfl C7.out hz8.out HD2.out HD3.out ?_; intro g2' cap2 w9 o9 hg9 hat9 hlt9))
          have hoc9 := Lib.hid C7.out.lt
          have E9 := Lib.hid (O7.out.kept hg9 P7.out.symm.kept)
          have P9 := Lib.hid ((P7.out.symm.next (n := dc.length + 1) (c := cap2) O7.out hat9).symm)
          have hb9 := Lib.hid (hb8.out.grown hg9 hb8.out.size (fun k e => (hoc9.out _ e).1))
          go_roundg n'
          case measure => omega
          case rel =>
            refine ⟨k + 1, by go_num, by omega, ?_, ?_, P9.out, hb9.out⟩
            · show Own _ _ _ _ _ _ _
              rw [hde.out, hee2.out]
              simpa using E9.out
            · show Own _ _ _ _ _ _ _
              rw [hdc.out, hec2.out]
              simpa using o9
      | false =>
        have hee2 : Hid (entAt b o t key = []) := hee.out
        cases is with
        | true =>
          have hec2 : Hid (claAt b o t key = []) := hec.out
          clear hee hec KEY
          go_wp2
          go_roundg n'
          case measure => omega
          case rel =>
            refine ⟨k + 1, by go_num, by omega, ?_, ?_, hap.out, hb7.out⟩
            · show Own _ _ _ _ _ _ _
              rw [hde.out, hee2.out]
              simpa using ho6.out
            · show Own _ _ _ _ _ _ _
              rw [hdc.out, hec2.out]
              simpa using hc6.out
        | false =>
          have hec2 : Hid (claAt b o t key = [⟨key, sb, so, st⟩]) := hec.out
          clear hee hec KEY
          obtain ⟨⟨r1, r2⟩, ⟨r3, r4⟩, ⟨r5, r6⟩⟩ := T6.out.cells
          go_wp2_with (at_builtin; refine ap_own Clash.ok rfl _ _ _ _ _ _ rfl Try.underlying39 infoCl rfl w4.heap.size u9 dc ⟨key, sb, so, st⟩ #[_, _, _, _, _, _, _] rfl rfl (w5.heap.size + 1) hz6.out rfl hc6.out hbs6.out HD2.out HD3.out ?_; intro g2' cap2 w9 o9 hg9 hat9 hlt9)
          have hoc9 := Lib.hid hc6.out.lt
          have E9 := Lib.hid (ho6.out.kept hg9 hap.out.symm.kept)
          have P9 := Lib.hid ((hap.out.symm.next (n := dc.length + 1) (c := cap2) ho6.out hat9).symm)
          have hb9 := Lib.hid (hb7.out.grown hg9 hb7.out.size (fun k e => (hoc9.out _ e).1))
          go_roundg n'
          case measure => omega
          case rel =>
            refine ⟨k + 1, by go_num, by omega, ?_, ?_, P9.out, hb9.out⟩
            · show Own _ _ _ _ _ _ _
              rw [hde.out, hee2.out]
              simpa using E9.out
            · show Own _ _ _ _ _ _ _
              rw [hdc.out, hec2.out]
              simpa using o9
    · have hk' : k = ks.length := by omega
      subst hk'
      rw [List.take_length] at hoe hoc
      clear hlt hk
      go_wp2
      go_ret2
      exact ⟨_, _, rfl, by rw [HE.out]; exact hoe.out.mono B4.out.size, by rw [HCl.out]; exact hoc.out.mono B4.out.size, bl_then B4.out B4.out.size hb.out⟩
end Go.Proofs.Ytofdmkglhjpbcaa
