/- law07.PagerCounts -/
import Derived.Test.YtikgplhcadomcaaKL
import Derived.Test.YtikgplhcadomcaaKG
import Derived.Test.YtikgplhcadomcaaKI
namespace Go.Proofs.Ytikgplhcadomcaa
open Go.RowKit
set_option linter.unusedVariables false
set_option linter.unusedSimpArgs false
theorem format_no {n : Int} (h : n < 8) : (formatR (Dv.new n)).1 = 70 := by
  unfold formatR
  rw [if_pos]
  show (min (max n 0) 65536).toNat / 4 < 2
  omega
theorem format_yes {n : Int} (h : 8 ≤ n) (h4 : n ≤ 400) : (formatR (Dv.new n)).1 = 0 ∧ Formed (formatR (Dv.new n)).2 ∧ (((formatR (Dv.new n)).2.n : Nat) : Int) = n := by
  obtain ⟨c1, c2, c3, c4⟩ := new_calm n
  obtain ⟨e1, e2, e3⟩ := format_ok c1 c2 c3 (by rw [c4]; omega)
  exact ⟨e1, e2, by rw [e3, c4]; omega⟩
set_option maxRecDepth 100000 in
set_option maxHeartbeats 4000000 in
theorem pagerCounts_calls (w : World) (n : Int) (hn0 : -9223372036854775808 ≤ n) (hn1 : n ≤ 9223372036854775807) (A : Option Addr) (c : Nat) (l : List Tx) (hc : l.length ≤ c) (hr : Rd Tx.enc 1 w A l) (hg : ∀ x ∈ l, x.good w) (B : Option Addr) (d : Nat) (root : List Int) (hd : root.length ≤ d) (hbb : byteL root) (hrr : Rd by1 1 w B root) :
    Calls Try.prog 3 #[.int .i64 n, .slice A l.length c, .slice B root.length d] w fun e w' => e = .returned (.bool true) ∧ Below w.heap.size w w' := by
  have HR := Lib.hid hr
  have HG := Lib.hid hg
  have HBB := Lib.hid hbb
  have HRR := Lib.hid hrr
  clear hr hg hbb hrr
  go_enter Try.func3, Try.ntmps3
  go_wp2_with fail
  refine (awake07_calls _).mono ?_
  rintro e w1 ⟨rfl, hb1⟩
  have B1 := Lib.hid hb1
  clear hb1
  by_cases h1 : (400 : Int) < n
  case' pos =>
    go_wp2
    go_ret
    exact ⟨rfl, B1.out⟩
  by_cases h2 : (6 : Int) < (l.length : Int)
  case' pos =>
    go_wp2
    go_ret
    exact ⟨rfl, B1.out⟩
  by_cases h3 : (500 : Int) < (root.length : Int)
  case' pos =>
    go_wp2
    go_ret
    exact ⟨rfl, B1.out⟩
  go_wp2_with fail
  refine (devB_new B1.out n).mono ?_
  rintro e w2 ⟨g, rfl, hd2⟩
  have D2 := Lib.hid hd2
  clear hd2
  go_wp2_with fail
  refine (devB_format D2.out (by show ([] : List Wr).length ≤ _; decide)).mono ?_
  rintro e w3 ⟨rfl, hd3⟩
  have D3 := Lib.hid hd3
  clear hd3 D2
  by_cases h8 : n < 8
  case' pos =>
    rw [format_no h8]
    have BL := Lib.hid D3.out.bl
    go_wp2
    go_ret
    exact ⟨rfl, BL.out⟩
  obtain ⟨f1, f2, f3⟩ := format_yes (n := n) (by omega) (by omega)
  rw [f1]
  generalize (formatR (Dv.new n)).2 = D at *
  have hcnt := cnt_start f2 (by omega) (by omega)
  have hopen := formed_open f2 (by omega)
  rw [f3] at hcnt hopen
  have CN := Lib.hid hcnt
  have F0 := Lib.hid f2.cache
  have hq : n.tdiv 4 = n / 4 := by rw [Int.tdiv_eq_ediv_of_nonneg (by omega)]
  clear hcnt f1 f2 f3
  go_wp2_with fail
  refine (devB_open D3.out hopen).mono ?_
  rintro e w4 ⟨p, A4, c4, rfl, -, -, hp4, -⟩
  have P4 := Lib.hid hp4
  clear hp4 hopen D3
  go_wp2
  go_loopg [11, 45] l.length (fun m s11 i wr => ∃ (k : Nat) (D : Dv) (P : Pg) (u : Int), s11 = .int .i64 u ∧ i = .int .i64 k ∧ k + m = l.length ∧ Hid (PgB w wr p g D P) ∧ Hid (Cnt n D P u) ∧ 1 ≤ u ∧ u ≤ 1 + 5 * k ∧ Hid (D.cache.length ≤ 20 * k) ∧ Hid (P.put.length ≤ k))
  case atStart => exact ⟨0, D, _, 1, rfl, rfl, by omega, P4.out, CN.out, by omega, by omega, by show _ ≤ _; rw [F0.out]; exact Nat.le_refl _, Nat.le_refl _⟩
  case round =>
    clear P4 CN F0 D
    obtain ⟨k, D, P, u, rfl, rfl, hk, hP, hC, hu0, hu1, hcl, hpl⟩ := hrel
    have hcl' := hcl.out
    have hpl' := hpl.out
    by_cases hkn : k < l.length
    · obtain ⟨m', hm'⟩ : ∃ m', gk = m' + 1 := ⟨gk - 1, by omega⟩
      subst hm'
      have hki : (k : Int) < (l.length : Int) := by omega
      have hk0 : (0 : Int) ≤ (k : Int) := by omega
      rcases HR.out with h0 | ⟨bb, off, rfl, hlt, hcell⟩
      · rw [h0] at hkn; simp at hkn
      have hxk : l[k]? = some l[k] := List.getElem?_eq_getElem hkn
      have z0 := ((HR.out.below hP.out.bl (Nat.le_refl _)).range hxk) 0 _ rfl
      have hgx := HG.out l[k] (List.getElem_mem hkn)
      have hbl : bb < wr.heap.size := Nat.lt_of_lt_of_le hlt hP.out.bl.size
      generalize l[k] = x at *
      have e1 : off + k * 1 + 0 = off + k := by omega
      rw [e1] at z0
      obtain ⟨xA, xb, xc⟩ := x
      have hg1 : xb.length ≤ xc := hgx.1
      have hg2 := Lib.hid (show byteL xb from hgx.2.1)
      have hg3 := Lib.hid (show Rd by1 1 w xA xb from hgx.2.2)
      dsimp only at z0
      clear hgx hxk hcell hlt
      by_cases h5 : (500 : Int) < (xb.length : Int)
      · have BL := Lib.hid hP.out.bl
        go_wp2
        go_ret
        exact ⟨rfl, BL.out⟩
      have hcn := put_cnt hC.out hg2.out (by omega : xb.length ≤ 500)
      obtain ⟨q1, q2, -⟩ := put_small (D := D) (P := P) (b := xb) (by omega)
      have HC := Lib.hid hcn
      clear hcn
      go_wp2_with fail
      refine (pgB_put hP.out xA xc xb.length xb rfl hg1 (by omega) hg2.out hg3.out (by omega) (by omega)).mono ?_
      rintro e w6 ⟨rfl, hp6⟩
      have P6 := Lib.hid hp6
      clear hp6 hP hC hcl hpl
      generalize putR D P xb = R at *
      obtain ⟨⟨⟨st, pgs⟩, er⟩, D6, P6'⟩ := R
      simp only at HC P6 q1 q2 ⊢
      have P7 := Lib.hid (P6.out.alloc (.cells #[.int .i64 st, .int .i64 pgs] 33))
      have Q1 : Hid (D6.cache.length ≤ 20 * (k + 1)) := by show _ ≤ _; omega
      have Q2 : Hid (P6'.put.length ≤ k + 1) := by show _ ≤ _; omega
      rcases HC.out with ⟨hz, g1, g2, hcn⟩ | ⟨hz, hcn⟩
      · subst hz
        have CN := Lib.hid hcn
        clear hcn HC q1 q2
        go_wp2
        go_roundg m'
        case measure => omega
        case rel => exact ⟨k + 1, D6, P6', u + pgs, rfl, by go_num, by omega, P7.out, CN.out, by omega, by omega, Q1.out, Q2.out⟩
      · subst hz
        have CN := Lib.hid hcn
        clear hcn HC q1 q2
        go_wp2
        go_roundg m'
        case measure => omega
        case rel => exact ⟨k + 1, D6, P6', u, rfl, by go_num, by omega, P7.out, CN.out, by omega, by omega, Q1.out, Q2.out⟩
    · have hkk : ¬ (k : Int) < (l.length : Int) := by omega
      have hcn := commit_cnt hC.out HBB.out (by omega : root.length ≤ 500)
      have hs1 : P.s.epoch = 1 := by rw [hC.out.s]; rfl
      have HC := Lib.hid hcn
      clear hcn
      go_wp2_with fail
      refine (pgB_commit hP.out B d root.length root rfl hd (by omega) HBB.out HRR.out (by omega) (by rw [hs1]; decide)).mono ?_
      rintro e w6 ⟨rfl, hp6⟩
      have P6 := Lib.hid hp6
      clear hp6 hP hC hcl hpl hs1
      generalize commitR D P root = R at *
      obtain ⟨er, D6, P6'⟩ := R
      simp only at HC P6 ⊢
      rcases HC.out with ⟨hz, hok, hsum, g1, g2⟩ | ⟨hz, hok, hsum⟩
      · subst hz
        have hcw := cntW_sum hok
        clear HC hok
        go_wp2_with fail
        refine (pgB_root P6.out).mono ?_
        rintro e w7 ⟨rfl, hb7⟩
        have P7 := Lib.hid (P6.out.below hb7)
        clear hb7 P6
        have hfld : ∀ W : World, (Instr.field 33 (.agg #[.int .i64 P6'.s.start, .int .i64 P6'.s.pages]) 1).run Try.prog W = .ok (.int .i64 P6'.s.pages) W := fun _ => by kernel_rfl
        go_wp2_with fail
        refine (pgB_free P7.out).mono ?_
        rintro e w8 ⟨f, rfl, hf8⟩
        have F8 := Lib.hid hf8
        clear hf8 P7
        go_wp2_with fail
        refine (frB_count F8.out).mono ?_
        rintro e w9 ⟨rfl, hb9⟩
        have B9 := Lib.hid (bl_then F8.out.bl F8.out.bl.size hb9)
        have hfin : (cntW P6'.fr.l == n / 4 - (u + P6'.s.pages)) = true := by rw [hcw]; simp; omega
        generalize cntW P6'.fr.l = cc at *
        clear hb9 F8 hcw hsum
        go_wp2
        go_ret
        exact ⟨rfl, B9.out⟩
      · subst hz
        have hcw := cntW_sum hok
        clear HC hok
        go_wp2_with fail
        refine (pgB_free P6.out).mono ?_
        rintro e w8 ⟨f, rfl, hf8⟩
        have F8 := Lib.hid hf8
        clear hf8 P6
        go_wp2_with fail
        refine (frB_count F8.out).mono ?_
        rintro e w9 ⟨rfl, hb9⟩
        have B9 := Lib.hid (bl_then F8.out.bl F8.out.bl.size hb9)
        have hfin : (cntW P6'.fr.l == n / 4 - u) = true := by rw [hcw]; simp; omega
        generalize cntW P6'.fr.l = cc at *
        clear hb9 F8 hcw hsum
        go_wp2
        go_ret
        exact ⟨rfl, B9.out⟩
theorem pagerCounts_row (w : World) (v0 v1 v2 : Value) (n : Int) (l : List Tx) (b : List Int) (h0 : IntV v0 n) (h1 : Texts w v1 l) (h2 : Bytes w v2 b) :
    Calls Try.prog 3 #[v0, v1, v2] w fun e w' => e = .returned (.bool true) ∧ Below w.heap.size w w' := by
  obtain ⟨rfl, hn⟩ := h0
  obtain ⟨A, c, rfl, hc, hcb, hr, hg⟩ := h1
  obtain ⟨B, d, rfl, hd, hb, hrr⟩ := h2
  exact pagerCounts_calls w n hn.1 hn.2 A c l hc hr hg B d b hd hb hrr
end Go.Proofs.Ytikgplhcadomcaa
