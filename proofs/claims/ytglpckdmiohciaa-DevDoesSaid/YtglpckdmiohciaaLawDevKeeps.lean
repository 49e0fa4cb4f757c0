/- law04.DevKeeps -/
import Derived.Test.YtglpckdmiohciaaKeepsPure
namespace Go.Proofs.Ytglpckdmiohciaa
open Go.RowKit
set_option linter.unusedVariables false
set_option linter.unusedSimpArgs false

theorem DevB.nd {W1 wr : World} {g : Nat} {D : Dv} (h : DevB W1 wr g D) : Nd D.kept := by
  obtain ⟨F, h1, _, _⟩ := h
  obtain ⟨km, bm, A, c, -, -, -, -, -, -, -, -, hk, -, -, -, -⟩ := h1.cells
  exact hk.nodup
theorem from_write {l : List Deed} {D : Dv} {x : Deed} (h : From l D.cache) (hx : x ∈ l) (hc : (D.write x.pos x.b).2.cache = D.cache ∨ ∃ s : Sec, s.1 = x.b ∧ (D.write x.pos x.b).2.cache = D.cache ++ [⟨x.pos, s⟩]) : From l (D.write x.pos x.b).2.cache := by
  rcases hc with e | ⟨s, hs, e⟩
  · rw [e]; exact h
  · rw [e]
    intro y hy
    rcases List.mem_append.1 hy with hy | hy
    · exact h y hy
    · simp at hy
      subst hy
      exact ⟨x, hx, rfl, hs.symm⟩
/-- What the inner loop has found. -/
def isAt (l : List Deed) (k : Nat) (i : Int) (b : List Int) (r0 : Bool) : Bool := r0 || (l.take k).any fun y => decide (y.pos = i ∧ b = y.b)
theorem isAt_step {l : List Deed} {k : Nat} {x : Deed} (hx : l[k]? = some x) (i : Int) (b : List Int) (r0 : Bool) : isAt l (k + 1) i b r0 = (isAt l k i b r0 || decide (x.pos = i ∧ b = x.b)) := by
  unfold isAt
  rw [List.take_add_one, hx, List.any_append]
  simp [Bool.or_assoc]
set_option maxRecDepth 100000 in
set_option maxHeartbeats 8000000 in
theorem devKeeps_calls (w : World) (n : Int) (A : Option Addr) (c : Nat) (l : List Deed) (B : Option Addr) (d : Nat) (m : List Deed) (fk : List Bool) (ft fb : Int) (K : Option Addr) (ck : Nat) (hA : Rd Deed.enc 7 w A l) (hc : l.length ≤ c) (hbig : c ≤ 9223372036854775807) (hg : ∀ x ∈ l, x.good w)
    (hB : Rd Deed.enc 7 w B m) (hd : m.length ≤ d) (hbig2 : d ≤ 9223372036854775807) (hg2 : ∀ x ∈ m, x.good w) (hK : Rd boolEnc 1 w K fk) :
    Calls Try.prog 8 #[.int .i64 n, .slice A l.length c, .slice B m.length d, .agg #[.slice K fk.length ck, .int .i64 ft, .int .i64 fb]] w fun e w' => e = .returned (.bool true) ∧ Below w.heap.size w w' := by
  obtain ⟨W1, hW1⟩ : ∃ W, W = w.alloc (.cells #[.slice K fk.length ck, .int .i64 ft, .int .i64 fb] 47) := ⟨_, rfl⟩
  have hb1 : Hid (Below w.heap.size w W1) := hW1 ▸ bl_alloc (Below.refl _ w) _
  have hs1 : W1.heap.size = w.heap.size + 1 := by rw [hW1]; simp
  have hx1 : W1.heap[w.heap.size]? = some (.cells #[.slice K fk.length ck, .int .i64 ft, .int .i64 fb] 47 (0, 0)) := hW1 ▸ blk_new w _
  have HR := Lib.hid (hA.below hb1.out (Nat.le_refl _))
  have HR2 := Lib.hid (hB.below hb1.out (Nat.le_refl _))
  have HK := Lib.hid (hK.below hb1.out (Nat.le_refl _))
  have HX := Lib.hid hx1
  have HG : Hid (∀ x ∈ l, (x.b.length ≤ x.cb ∧ byteL x.b ∧ Rd by1 1 W1 x.A x.b)) := fun x hx => by
    obtain ⟨⟨a1, a2, a3⟩, _⟩ := hg x hx
    exact ⟨a1, a2, a3.below hb1.out (Nat.le_refl _)⟩
  have HG2 : Hid (∀ x ∈ m, (x.b.length ≤ x.cb ∧ byteL x.b ∧ Rd by1 1 W1 x.A x.b)) := fun x hx => by
    obtain ⟨⟨a1, a2, a3⟩, _⟩ := hg2 x hx
    exact ⟨a1, a2, a3.below hb1.out (Nat.le_refl _)⟩
  clear hA hB hK hg hg2 hx1
  go_enter Try.func8, Try.ntmps8
  go_upto_region 1 with fail
  rw [← hW1]
  clear hW1
  go_wp2_with fail
  refine (awake04_calls W1).mono ?_
  rintro e w2 ⟨rfl, hb2⟩
  have HB2 := Lib.hid hb2
  clear hb2
  go_wp2_with fail
  refine (few04_calls w2 A c l (HR.out.below HB2.out (Nat.le_refl _)) hc hbig).mono ?_
  rintro e w3 ⟨r, rfl, hb3, hr⟩
  have HB3 : Hid (Below W1.heap.size W1 w3) := bl_then HB2.out HB2.out.size hb3
  clear hb3 HB2
  rcases r with _ | _
  case' false =>
    go_wp2
    go_ret
    exact ⟨rfl, hb1.out.trans (HB3.out.mono (by omega))⟩
  have hl40 := hr rfl
  clear hr
  go_wp2_with fail
  refine (few04_calls w3 B d m (HR2.out.below HB3.out (Nat.le_refl _)) hd hbig2).mono ?_
  rintro e w4 ⟨r, rfl, hb4, hr⟩
  have HB4 : Hid (Below W1.heap.size W1 w4) := bl_then HB3.out HB3.out.size hb4
  clear hb4 HB3
  rcases r with _ | _
  case' false =>
    go_wp2
    go_ret
    exact ⟨rfl, hb1.out.trans (HB4.out.mono (by omega))⟩
  have hm40 := hr rfl
  clear hr
  have hX4 := blk_below HB4.out HX.out (by omega)
  have x0 := blk_cell hX4 0
  simp at x0
  clear hX4
  rcases (Decidable.em ((50 : Int) < n)) with hn | hn
  case' inl =>
    go_wp2
    go_ret
    exact ⟨rfl, hb1.out.trans (HB4.out.mono (by omega))⟩
  rcases (Decidable.em ((100 : Int) < (fk.length : Int))) with hn2 | hn2
  case' inl =>
    go_wp2
    go_ret
    exact ⟨rfl, hb1.out.trans (HB4.out.mono (by omega))⟩
  go_wp2_with fail
  refine (devB_new HB4.out n).mono ?_
  rintro e w5 ⟨g, rfl, hd5⟩
  have HD5 := Lib.hid hd5
  clear hd5 x0
  go_wp2
  go_loopg [48] l.length (fun mm i wr => ∃ (k : Nat) (D : Dv), i = .int .i64 k ∧ k + mm = l.length ∧ Hid (DevB W1 wr g D) ∧ Hid (Calm D) ∧ Hid (D.cache.length ≤ k))
  case atStart => exact ⟨0, _, rfl, by omega, HD5.out, ⟨rfl, rfl, rfl⟩, by show _ ≤ _; simp [Dv.new]⟩
  case round =>
    obtain ⟨k, D, rfl, hk, hD, ha, hcl⟩ := hrel
    rcases Nat.lt_or_ge k l.length with hlt | hge
    · rcases HR.out with h0 | ⟨b, off, rfl, hbl, hcell⟩
      · simp [h0] at hlt
      have hx : l[k]? = some l[k] := List.getElem?_eq_getElem hlt
      have hgx := Lib.hid (HG.out _ (List.getElem_mem hlt))
      obtain ⟨c0, c1, c2, c3, c4, c5, c6⟩ := Deed.cells (HR.out.below hD.out.bl (Nat.le_refl _)) hx
      generalize l[k] = x at *
      have i0 : (0 : Int) ≤ (k : Int) := by omega
      have i1 : (k : Int) < (l.length : Int) := by omega
      have hD2 : Hid (∀ o, DevB W1 (wr.alloc o) g D) := fun o => hD.out.alloc o
      have hcl2 : D.cache.length ≤ 1000000000000 := by have := hcl.out; omega
      clear hcell hx
      go_wp2_with fail
      refine (devB_write (hD2.out _) x.pos x.A _ x.cb x.b rfl hgx.out.2.2 hgx.out.2.1 hgx.out.1 hcl2).mono ?_
      rintro e w6 ⟨rfl, hd6⟩
      obtain ⟨ca, -, -, cc⟩ := calm_write ha.out x.pos x.b
      have HD6 := Lib.hid hd6
      have HC6 := Lib.hid ca
      have HL6 : Hid ((D.write x.pos x.b).2.cache.length ≤ k + 1) := by
        have := hcl.out
        show _ ≤ _
        rcases cc with e | ⟨s, _, e⟩ <;> rw [e]
        · omega
        · simp; omega
      clear hd6 ca cc c0 c1 c2 c3 c4 c5 c6
      go_wp2
      go_roundg (gk - 1)
      case measure => omega
      case rel => exact ⟨k + 1, _, by go_num, by omega, HD6, HC6, HL6⟩
    · go_wp2_with fail
      refine (devB_flush hD.out).mono ?_
      rintro e w6 ⟨rfl, hd6⟩
      obtain ⟨f1, f2, f3, -⟩ := calm_flush ha.out
      rw [f1]
      have HD6 := Lib.hid hd6
      have HC6 := Lib.hid f2
      have HE6 := Lib.hid f3
      generalize D.flush.2 = D0 at *
      clear hd6 f1 f2 f3 hD ha hcl hk hge
      go_wp2_with fail
      refine (devB_copy HD6.out (by rw [HE6.out]; simp)).mono ?_
      rintro e w7 ⟨g2, rfl, hd7⟩
      have HD7 := Lib.hid hd7
      clear hd7 HD6
      go_wp2
      go_loopg [66] m.length (fun mm i wr => ∃ (k : Nat) (D : Dv), i = .int .i64 k ∧ k + mm = m.length ∧ Hid (Dev2 W1 wr g D g2 D0) ∧ Hid (Calm D ∧ D.kept = D0.kept ∧ D.n = D0.n) ∧ Hid (D.cache.length ≤ k) ∧ Hid (From m D.cache))
      case atStart => exact ⟨0, D0, rfl, by omega, HD7.out, ⟨HC6.out, rfl, rfl⟩, by show _ ≤ _; rw [HE6.out]; simp, fun x hx => by rw [HE6.out] at hx; cases hx⟩
      case round =>
        obtain ⟨k, D, rfl, hk, hD, ha, hcl, hfr⟩ := hrel
        rcases Nat.lt_or_ge k m.length with hlt | hge
        · rcases HR2.out with h0 | ⟨b, off, rfl, hbl, hcell⟩
          · simp [h0] at hlt
          have hx : m[k]? = some m[k] := List.getElem?_eq_getElem hlt
          have hmx := Lib.hid (List.getElem_mem hlt)
          have hgx := Lib.hid (HG2.out _ hmx.out)
          obtain ⟨c0, c1, c2, c3, c4, c5, c6⟩ := Deed.cells (HR2.out.below hD.out.bl (Nat.le_refl _)) hx
          generalize m[k] = x at *
          have i0 : (0 : Int) ≤ (k : Int) := by omega
          have i1 : (k : Int) < (m.length : Int) := by omega
          have hD2 : Hid (∀ o, Dev2 W1 (wr.alloc o) g D g2 D0) := fun o => hD.out.alloc o
          have hcl2 : D.cache.length ≤ 1000000000000 := by have := hcl.out; omega
          clear hcell hx
          go_wp2_with fail
          refine (dev2_write (hD2.out _) x.pos x.A _ x.cb x.b rfl hgx.out.2.2 hgx.out.2.1 hgx.out.1 hcl2).mono ?_
          rintro e w8 ⟨rfl, hd8⟩
          obtain ⟨ca, cb, cn, cc⟩ := calm_write ha.out.1 x.pos x.b
          have HD8 := Lib.hid hd8
          have HC8 : Hid (Calm (D.write x.pos x.b).2 ∧ (D.write x.pos x.b).2.kept = D0.kept ∧ (D.write x.pos x.b).2.n = D0.n) := ⟨ca, cb.trans ha.out.2.1, cn.trans ha.out.2.2⟩
          have HF8 := Lib.hid (from_write hfr.out hmx.out cc)
          have HL8 : Hid ((D.write x.pos x.b).2.cache.length ≤ k + 1) := by
            have := hcl.out
            show _ ≤ _
            rcases cc with e | ⟨s, _, e⟩ <;> rw [e]
            · omega
            · simp; omega
          clear hd8 ca cb cn cc c0 c1 c2 c3 c4 c5 c6
          go_wp2
          go_roundg (gk - 1)
          case measure => omega
          case rel => exact ⟨k + 1, _, by go_num, by omega, HD8, HC8, HL8, HF8⟩
        · have hXt := blk_below hD.out.bl HX.out (by omega)
          have t0 := blk_cell hXt 0
          have t1 := blk_cell hXt 1
          have t2 := blk_cell hXt 2
          simp at t0 t1 t2
          clear hXt
          go_wp2_with fail
          refine (dev2_crash hD.out fk ft fb K _ ck rfl HK.out).mono ?_
          rintro e w8 ⟨rfl, hd8⟩
          have HD8 := Lib.hid hd8
          have HND : Hid (Nd D0.kept) := HD7.out.snd.nd
          have hC9 : Calm (D.crash ⟨fk, ft, fb⟩) := ⟨rfl, rfl, ha.out.1.2.2⟩
          have HC9 := Lib.hid hC9
          have HE9 : Hid ((D.crash ⟨fk, ft, fb⟩).cache = []) := rfl
          have HN9 : Hid ((D.crash ⟨fk, ft, fb⟩).n = D0.n) := ha.out.2.2
          have HAT : Hid (∀ j, j ≠ tornAt ⟨fk, ft, fb⟩ D.cache → kv (D.crash ⟨fk, ft, fb⟩).kept j = kv D0.kept j ∨ ∃ y ∈ m, y.pos = j ∧ (kv (D.crash ⟨fk, ft, fb⟩).kept j).1 = y.b) := fun j hj => by
            have := keeps_at ⟨fk, ft, fb⟩ HND.out hfr.out j hj
            rw [← ha.out.2.1] at this ⊢
            exact this
          generalize tornAt ⟨fk, ft, fb⟩ D.cache = pt at *
          generalize D.crash ⟨fk, ft, fb⟩ = D9 at *
          have hn0 : D0.n ≤ 65536 := by
            obtain ⟨F, F2, _, q, _⟩ := HD7.out
            exact q.n_le
          clear hd8 hD ha hcl hfr t0 t1 t2 hge hk hC9 HD7
          go_wp2
          go_loopg [16, 15] D0.n (fun mm i tn wr => ∃ (k t : Nat), i = .int .i64 k ∧ tn = .int .i64 t ∧ k + mm = D0.n ∧ Hid (Dev2 W1 wr g D9 g2 D0) ∧ Hid (t = 0 ∨ (t = 1 ∧ pt < k)))
          case atStart => exact ⟨0, 0, rfl, rfl, by omega, HD8.out, .inl rfl⟩
          case round =>
            obtain ⟨k, t, rfl, rfl, hk, hD, ht⟩ := hrel
            have ht1 : t ≤ 1 := by rcases ht.out with e | ⟨e, _⟩ <;> omega
            rcases Nat.lt_or_ge k D0.n with hlt | hge
            · obtain ⟨re1, rb1⟩ := calm_read HC9.out HE9.out k (by omega) (by rw [HN9.out]; omega)
              obtain ⟨re2, rb2⟩ := calm_read HC6.out HE6.out k (by omega) (by omega)
              have i0 : (0 : Int) ≤ (k : Int) := by omega
              have i1 : (k : Int) < (D0.n : Int) := by omega
              go_wp2_with fail
              refine (devB_size hD.out.fst).mono ?_
              rintro e wq ⟨rfl, rfl⟩
              rw [HN9.out]
              go_wp2_with fail
              refine (devB_read hD.out.fst k).mono ?_
              rintro e wa ⟨Aa, ca, rfl, hca, hra, -, hba⟩
              rw [re1]
              have hDa := Lib.hid (hD.out.below hba)
              have hRa := Lib.hid hra
              rw [rb1] at hRa hca ⊢
              clear hra hba hD re1 rb1
              go_wp2_with fail
              refine (devB_read hDa.out.snd k).mono ?_
              rintro e wb ⟨Ab, cb, rfl, hcb, hrb, -, hbb⟩
              rw [re2]
              have hDb := Lib.hid (hDa.out.below hbb)
              have hRa2 := Lib.hid (hRa.out.below hbb (Nat.le_refl _))
              have hRb := Lib.hid hrb
              rw [rb2] at hRb hcb ⊢
              clear hrb hbb hDa re2 rb2 hRa
              have hat := Lib.hid (HAT.out k)
              generalize hsx : kv D9.kept k = sx at *
              generalize hsy : kv D0.kept k = sy at *
              have va := run_strB (W := wb) sx.1.length ca rfl hRa2.out
              have vb := run_strB (W := wb) sy.1.length cb rfl hRb.out
              obtain ⟨r0, hbe, hr0⟩ : ∃ r0, ((strB sx.1).toList == (strB sy.1).toList) = r0 ∧ Hid (r0 = decide (sx.1 = sy.1)) := ⟨_, rfl, strB_beq (sec_byte sx) (sec_byte sy)⟩
              obtain ⟨G, hG⟩ : ∃ G, G = gk := ⟨_, rfl⟩
              have hG1 : k + G = D0.n := by omega
              have HBW := Lib.hid (Below.refl wb.heap.size wb)
              clear hsx hsy hca hcb
              go_wp2
              go_loopg [111, 21] m.length (fun mm i is wr => ∃ (k2 : Nat) (r : Bool), i = .int .i64 k2 ∧ is = .bool r ∧ k2 + mm = m.length ∧ Hid (Below wb.heap.size wb wr) ∧ Hid (r = isAt m k2 k sx.1 r0))
              case atStart => exact ⟨0, r0, rfl, rfl, by omega, Below.refl _ _, by show _ = _; simp [isAt]⟩
              case round =>
                obtain ⟨k2, r, rfl, rfl, hk2, hbw, hri⟩ := hrel
                rcases Nat.lt_or_ge k2 m.length with hlt2 | hge2
                · rcases HR2.out with h0 | ⟨b, off, rfl, hbl, hcell⟩
                  · simp [h0] at hlt2
                  have hx : m[k2]? = some m[k2] := List.getElem?_eq_getElem hlt2
                  have hgx := Lib.hid (HG2.out _ (List.getElem_mem hlt2))
                  have hbW : Below W1.heap.size W1 wr := bl_then hDb.out.bl hDb.out.bl.size hbw.out
                  obtain ⟨c0, c1, c2, c3, c4, c5, c6⟩ := Deed.cells (HR2.out.below hbW (Nat.le_refl _)) hx
                  have hst := Lib.hid (isAt_step hx k sx.1 r0)
                  generalize m[k2] = x at *
                  have j0 : (0 : Int) ≤ (k2 : Int) := by omega
                  have j1 : (k2 : Int) < (m.length : Int) := by omega
                  have va2 : ∀ o, (convert 38 9 (.slice Aa sx.1.length ca)).run Try.prog (wr.alloc o) = .ok (.string (strB sx.1)) (wr.alloc o) := fun o => run_strB _ ca rfl (hRa2.out.below (hbw.out.alloc hbw.out.size o) (Nat.le_refl _))
                  have vx2 : ∀ o, (convert 38 9 (.slice x.A x.b.length x.cb)).run Try.prog (wr.alloc o) = .ok (.string (strB x.b)) (wr.alloc o) := fun o => run_strB _ x.cb rfl (hgx.out.2.2.below (hbW.alloc hbW.size o) (Nat.le_refl _))
                  have hbw2 : Hid (∀ o, Below wb.heap.size wb (wr.alloc o)) := fun o => hbw.out.alloc hbw.out.size o
                  obtain ⟨q, hq, hq2⟩ : ∃ q, ((strB sx.1).toList == (strB x.b).toList) = q ∧ Hid (q = decide (sx.1 = x.b)) := ⟨_, rfl, strB_beq (sec_byte sx) hgx.out.2.1⟩
                  clear hcell hx hbW
                  rcases r with _ | _
                  · rcases (Decidable.em (x.pos = k)) with hp | hp
                    · have hpb : (x.pos == (k : Int)) = true := by simpa using hp
                      have hfin : Hid (q = isAt m (k2 + 1) k sx.1 r0) := by
                        show _ = _
                        rw [hst.out, ← hri.out, hq2.out]
                        simp [hp]
                      go_wp2
                      go_roundg (gk - 1)
                      case measure => omega
                      case rel => exact ⟨k2 + 1, q, by go_num, rfl, by omega, hbw2.out _, hfin⟩
                    · have hpb : (x.pos == (k : Int)) = false := by simpa using hp
                      have hfin : Hid (false = isAt m (k2 + 1) k sx.1 r0) := by
                        show _ = _
                        rw [hst.out, ← hri.out]
                        simp [hp]
                      go_wp2
                      go_roundg (gk - 1)
                      case measure => omega
                      case rel => exact ⟨k2 + 1, false, by go_num, rfl, by omega, hbw2.out _, hfin⟩
                  · have hfin : Hid (true = isAt m (k2 + 1) k sx.1 r0) := by
                      show _ = _
                      rw [hst.out, ← hri.out]
                      rfl
                    go_wp2
                    go_roundg (gk - 1)
                    case measure => omega
                    case rel => exact ⟨k2 + 1, true, by go_num, rfl, by omega, hbw2.out _, hfin⟩
                · have hDw := Lib.hid (hDb.out.below hbw.out)
                  have hrf : Hid (r = isAt m m.length k sx.1 r0) := by
                    show _ = _
                    rw [hri.out]
                    unfold isAt
                    rw [List.take_of_length_le hge2, List.take_of_length_le (Nat.le_refl _)]
                  rcases r with _ | _
                  · have hpt : Hid ((k : Int) = pt) := by
                      show _ = _
                      refine Decidable.byContradiction fun hne => ?_
                      have h1 := hrf.out
                      unfold isAt at h1
                      rw [List.take_of_length_le (Nat.le_refl _)] at h1
                      have h2 := (Bool.or_eq_false_iff.1 h1.symm)
                      rcases hat.out hne with e | ⟨y, hy, e1, e2⟩
                      · have := h2.1
                        rw [hr0.out, e] at this
                        simp at this
                      · have := List.any_eq_false.1 h2.2 y hy
                        simp [e1, e2] at this
                    have ht2 : Hid (t + 1 = 0 ∨ (t + 1 = 1 ∧ pt < ((k + 1 : Nat) : Int))) := by
                      have := hpt.out
                      rcases ht.out with e | ⟨e1, e2⟩
                      · exact .inr ⟨by omega, by omega⟩
                      · omega
                    go_wp2
                    go_roundg (G - 1)
                    case measure => omega
                    case rel => exact ⟨k + 1, t + 1, by go_num, by go_num, by omega, hDw, ht2⟩
                  · have ht2 : Hid (t = 0 ∨ (t = 1 ∧ pt < ((k + 1 : Nat) : Int))) := by
                      rcases ht.out with e | ⟨e1, e2⟩
                      · exact .inl e
                      · exact .inr ⟨e1, by omega⟩
                    go_wp2
                    go_roundg (G - 1)
                    case measure => omega
                    case rel => exact ⟨k + 1, t, by go_num, rfl, by omega, hDw, ht2⟩
            · have i1 : ¬ (k : Int) < (D0.n : Int) := by omega
              have t1 : (t : Int) ≤ 1 := by omega
              go_wp2_with fail
              refine (devB_size hD.out.fst).mono ?_
              rintro e wq ⟨rfl, rfl⟩
              rw [HN9.out]
              go_wp2_with fail
              refine (devB_cached hD.out.fst).mono ?_
              rintro e wq ⟨rfl, rfl⟩
              rw [HE9.out]
              go_wp2
              go_ret
              exact ⟨rfl, hb1.out.trans (hD.out.bl.mono (by omega))⟩
theorem devKeeps_row (w : World) (v0 v1 v2 v3 : Value) (n : Int) (l m : List Deed) (f : Fate) (h0 : IntV v0 n) (h1 : Deeds w v1 l) (h2 : Deeds w v2 m) (h3 : FateV w v3 f) :
    Calls Try.prog 8 #[v0, v1, v2, v3] w fun e w' => e = .returned (.bool true) ∧ Below w.heap.size w w' := by
  obtain ⟨rfl, _⟩ := h0
  obtain ⟨A, c, rfl, hc, hbig, hA, hg⟩ := h1
  obtain ⟨B, d, rfl, hd, hbig2, hB, hg2⟩ := h2
  obtain ⟨K, ck, rfl, hk, hK⟩ := h3
  exact devKeeps_calls w n A c l B d m f.keep f.torn f.bytes K ck hA hc hbig hg hB hd hbig2 hg2 hK
end Go.Proofs.Ytglpckdmiohciaa
