/- ref09.Levels -/
import Derived.Test.YtikgplhcadomcaaGreatQLevP
import Derived.Test.YtikgplhcadomcaaGreatQRefEnds
import Derived.Test.YtikgplhcadomcaaGreatQShape2
namespace Go.Proofs.YtikgplhcadomcaaGreat
open Go.RowKit
set_option linter.unusedVariables false
set_option linter.unusedSimpArgs false
/-- A row of texts in memory, apart from the row of rows u. -/
def RowAt (base : Nat) (w : World) (u : Value) (A : Option Addr) (c : Nat) (r : List Str) : Prop := r.length ≤ c ∧ Rd strEnc 1 w A r ∧ ∀ a, A = some a → base ≤ a.block ∧ a.block < w.heap.size ∧ some a.block ≠ u.ownBlock
structure LeS (w : World) (l : List Entry) (f : Nat) (A : Option Addr) (c : Nat) (r : List Str) (u : Value) (up : List (List Str)) (wr : World) : Prop where
  row : RowAt w.heap.size wr u A c r
  rws : Rws strEnc 1 49 w.heap.size wr u up
  below : Below w.heap.size w wr
  eq : up ++ levT f (22 - (f : Int)) r = levels l
  top : f = 1 → r.length ≤ 1
  len : r.length ≤ 60
  ulen : up.length + f ≤ 21
  szs : ∀ x ∈ r, x.size ≤ 1000000
  pos : 1 ≤ f
set_option maxRecDepth 100000 in
set_option maxHeartbeats 4000000 in
theorem levels_calls (w : World) (A : Option Addr) (c : Nat) (l : List Entry) (hc : l.length ≤ c) (hlen : l.length ≤ 60) (hsz : ∀ x ∈ l, x.key.size ≤ 1000000) (h : Rd Entry.enc 2 w A l) :
    Calls Tryz.prog 16 #[.slice A l.length c] w fun e w' => RowsMd strEnc 1 49 w w' (levels l) e := by
  have HE := Lib.hid h
  have HS := Lib.hid hsz
  clear h hsz
  go_enter Tryz.func16, Tryz.ntmps16
  go_wp2
  go_loopg [3, 13] l.length (fun m v i wr => ∃ (k : Nat) (done : List Str), i = .int .i64 k ∧ k + m = l.length ∧ done.length ≤ k ∧ Hid (Own strEnc 1 9 w.heap.size wr v done) ∧ Hid (Below w.heap.size w wr) ∧ Hid (done ++ lastsF (fun k => endsN 0 k) ((l.drop k).map Entry.key) = lastsF (fun k => endsN 0 k) (l.map Entry.key)))
  case atStart => exact ⟨0, [], rfl, by omega, Nat.le_refl _, Own.nil, Below.refl _ _, rfl⟩
  case round =>
    obtain ⟨k, done, rfl, hk, hdk, ho, hb, hd⟩ := hrel
    by_cases hkn : k < l.length
    · obtain ⟨m', hm'⟩ : ∃ m', gk = m' + 1 := ⟨gk - 1, by omega⟩
      subst hm'
      have hki : (k : Int) < (l.length : Int) := by omega
      have hkz : (0 : Int) ≤ (k : Int) := by omega
      rcases HE.out.below hb.out (Nat.le_refl _) with h0 | ⟨bb, off, rfl, hlt, hcell⟩
      · rw [h0] at hkn; simp at hkn
      have hxk : l[k]? = some l[k] := List.getElem?_eq_getElem hkn
      have z0 := hcell k _ hxk 0 _ rfl
      have z1 := hcell k _ hxk 1 _ rfl
      have hs := HS.out _ (List.getElem_mem hkn)
      have hdr : Hid ((l.drop k).map Entry.key = l[k].key :: (l.drop (k + 1)).map Entry.key) := by show _ = _; rw [List.drop_eq_getElem_cons hkn]; rfl
      generalize l[k] = x at *
      obtain ⟨xk, xv⟩ := x
      dsimp only at z0 z1 hs hdr
      simp only [Nat.add_zero] at z0
      have ks : xk.size ≤ 9223372036854775807 := by omega
      obtain ⟨W3, hW3⟩ : ∃ W, wr.alloc (.cells #[.string xk, .string xv] 113) = W := ⟨_, rfl⟩
      have hb3 : Below wr.heap.size wr W3 := by rw [← hW3]; exact bl_alloc (Below.refl _ wr) _
      have hz3 : W3.heap[wr.heap.size]? = some (.cells #[.string xk, .string xv] 113 (0, 0)) := by rw [← hW3]; exact blk_new wr _
      have y0 := blk_cell hz3 0
      have yl := blk_lt hz3
      have B3 := Lib.hid (bl_then hb.out hb.out.size hb3)
      have O3 := Lib.hid (ho.out.below hb3)
      have Z3 := Lib.hid hz3
      clear hcell hlt hxk hb3 hz3 ho hs
      by_cases hlast : k + 1 = l.length
      · have hlq : ((k : Int) + 1 == (l.length : Int)) = true := by rw [beq_iff_eq]; omega
        have HN : Hid (done ++ [xk] ++ lastsF (fun k => endsN 0 k) ((l.drop (k + 1)).map Entry.key) = lastsF (fun k => endsN 0 k) (l.map Entry.key)) := by
          show _ = _
          have := hd.out
          rw [hdr.out, lastsF_cons, if_pos (.inl (by rw [hlast, List.drop_length]; rfl))] at this
          rw [← this]; simp
        clear hlast
        have z4 := Lib.hid B3.out.size
        have l1 : Hid ((done.length + 1) * 16 ≤ 140737488355328) := by show _ ≤ _; omega
        have l2 : Hid (done.length + 1 ≤ 140737488355328) := by show _ ≤ _; omega
        go_wp2_with (at_builtin; refine ap_own strOk rfl _ _ _ _ _ _ rfl Tryz.underlying49 infoSt rfl w.heap.size u3 done xk #[_] rfl rfl W3.heap.size rfl rfl O3.out z4.out l1.out l2.out ?_; intro g7 cap7 w7 ho7 hg7 hat7 hlt7)
        have O7 := Lib.hid ho7
        have B7 := Lib.hid (B3.out.grown hg7 z4.out (fun k e => (O3.out.lt _ e).1))
        clear ho7 hg7 hat7 hlt7
        go_roundg m'
        case measure => omega
        case rel => exact ⟨k + 1, done ++ [xk], by go_num, by omega, by simp; omega, O7.out, B7.out, HN.out⟩
      · have hlq : ((k : Int) + 1 == (l.length : Int)) = false := by rw [beq_eq_false_iff_ne]; omega
        have hne : Hid ((l.drop (k + 1)).map Entry.key ≠ []) := by
          show _ ≠ _
          intro e
          have := congrArg List.length e
          simp at this
          omega
        go_wp2_with fail
        refine (rEnds_calls _ 0 xk ks).mono ?_
        rintro e w4 ⟨rfl, hb4⟩
        have B4 := Lib.hid (bl_then B3.out B3.out.size hb4)
        have O4 := Lib.hid (O3.out.below hb4)
        have Z4 := blk_below hb4 Z3.out (blk_lt Z3.out)
        obtain ⟨r4, hr4, Z4r⟩ : ∃ r, wr.heap.size = r ∧ Hid (w4.heap[r]? = some (.cells #[.string xk, .string xv] 113 (0, 0))) := ⟨_, rfl, Z4⟩
        rw [hr4]
        have y0' := blk_cell Z4r.out 0
        have yl' := blk_lt Z4r.out
        clear hb4 y0 yl Z3 Z4 hr4 hW3 O3 B3 hlast
        rcases hq' : endsN 0 xk with _ | _
        · have HN : Hid (done ++ lastsF (fun k => endsN 0 k) ((l.drop (k + 1)).map Entry.key) = lastsF (fun k => endsN 0 k) (l.map Entry.key)) := by
            show _ = _
            have := hd.out
            rw [hdr.out, lastsF_cons, if_neg (by rintro (e | e); exact hne.out e; rw [hq'] at e; cases e)] at this
            exact this
          clear hq'
          go_wp2
          go_roundg m'
          case measure => omega
          case rel => exact ⟨k + 1, done, by go_num, by omega, by omega, O4.out, B4.out, HN.out⟩
        · have HN : Hid (done ++ [xk] ++ lastsF (fun k => endsN 0 k) ((l.drop (k + 1)).map Entry.key) = lastsF (fun k => endsN 0 k) (l.map Entry.key)) := by
            show _ = _
            have := hd.out
            rw [hdr.out, lastsF_cons, if_pos (.inr hq')] at this
            rw [← this]; simp
          clear hq'
          have z4 := Lib.hid B4.out.size
          have l1 : Hid ((done.length + 1) * 16 ≤ 140737488355328) := by show _ ≤ _; omega
          have l2 : Hid (done.length + 1 ≤ 140737488355328) := by show _ ≤ _; omega
          go_wp2_with (at_builtin; refine ap_own strOk rfl _ _ _ _ _ _ rfl Tryz.underlying49 infoSt rfl w.heap.size u3 done xk #[_] rfl rfl w4.heap.size rfl rfl O4.out z4.out l1.out l2.out ?_; intro g7 cap7 w7 ho7 hg7 hat7 hlt7)
          have O7 := Lib.hid ho7
          have B7 := Lib.hid (B4.out.grown hg7 z4.out (fun k e => (O4.out.lt _ e).1))
          clear ho7 hg7 hat7 hlt7
          go_roundg m'
          case measure => omega
          case rel => exact ⟨k + 1, done ++ [xk], by go_num, by omega, by simp; omega, O7.out, B7.out, HN.out⟩
    · have hkk : ¬ (k : Int) < (l.length : Int) := by omega
      have hfull : Hid (done = upK 0 (l.map Entry.key)) := by
        show _ = _
        have := hd.out
        rw [List.drop_of_length_le (by omega)] at this
        rw [upK_eq, ← this]
        simp [lastsF]
      obtain ⟨A1, c1, rfl, i1, i1', hr1, hA1⟩ := ho.out.rd strOk
      have S1 : Hid (LeS w l 21 A1 c1 done (.slice none 0 0) [] wr) := {
        row := ⟨i1, hr1, fun a ha => ⟨hA1 a ha, (ho.out.lt a.block (by rw [ha]; rfl)).2, fun e => by cases e⟩⟩
        rws := Rws.nil
        below := hb.out
        eq := by rw [hfull.out]; rfl
        top := fun e => by cases e
        len := by omega
        ulen := Nat.le_refl _
        szs := fun x hx => by
          rw [hfull.out] at hx
          obtain ⟨y, hy, rfl⟩ := List.mem_map.1 ((upK_sub _ _).subset hx)
          exact HS.out y hy
        pos := by omega }
      clear hkn hd ho hb i1 i1' hr1 hA1 hk hdk hfull
      go_wp2
      go_loopg [3, 6, 7] 21 (fun m v u lv wr => ∃ (f : Nat) (A : Option Addr) (c : Nat) (r : List Str) (up : List (List Str)), v = .slice A r.length c ∧ lv = .int .i64 (22 - (f : Int)) ∧ m = f ∧ Hid (LeS w l f A c r u up wr))
      case atStart => exact ⟨21, A1, c1, done, [], rfl, by go_num, rfl, S1.out⟩
      case round =>
        clear S1
        obtain ⟨f, A, c, r, up, rfl, rfl, hm, hs⟩ := hrel
        have hf1 : gk = f := hm
        subst hf1
        obtain ⟨f, hfe⟩ : ∃ f, gk = f + 1 := ⟨gk - 1, by have := hs.out.pos; omega⟩
        subst hfe
        have hf20 : f ≤ 20 := by have := hs.out.ulen; omega
        clear hm
        by_cases h0 : r.length = 0
        · have hr0 : ¬ (0 : Int) < (r.length : Int) := by omega
          have hv : Hid (up = levels l) := by
            show _ = _
            have := hs.out.eq
            rw [levT, if_pos h0] at this
            simpa using this
          clear h0
          go_wp2
          go_ret
          exact ⟨_, rfl, by rw [← hv.out]; exact hs.out.rws, hs.out.below⟩
        · have hr0 : (0 : Int) < (r.length : Int) := by omega
          obtain ⟨vs, hO, hvl, hvs⟩ := hs.out.rws
          obtain ⟨q1, q2, q3⟩ := hs.out.row
          have OV := Lib.hid hO
          have VL := Lib.hid hvl
          have VS := Lib.hid hvs
          have HR : Hid (r.length ≤ c ∧ Rd strEnc 1 wr A r ∧ ∀ a, A = some a → w.heap.size ≤ a.block ∧ a.block < wr.heap.size ∧ some a.block ≠ u6.ownBlock) := ⟨q1, q2, q3⟩
          have hvl21 : Hid (vs.length ≤ 21) := by show _ ≤ _; rw [hvl]; have := hs.out.ulen; omega
          have m1 : Hid ((vs.length + 1) * 24 ≤ 140737488355328) := by show _ ≤ _; have := hvl21.out; omega
          have m2 : Hid (vs.length + 1 ≤ 140737488355328) := by show _ ≤ _; have := hvl21.out; omega
          have z0 := Lib.hid hs.out.below.size
          clear hO hvl hvs q1 q2 q3
          by_cases h1 : r.length = 1
          · have hr1 : ((r.length : Int) == 1) = true := by rw [beq_iff_eq]; omega
            have hv : Hid (up ++ [r] = levels l) := by
              show _ = _
              have := hs.out.eq
              rw [levT, if_neg h0, if_pos h1] at this
              exact this
            clear h0 h1
            go_wp2_with (at_builtin; refine ap_own RowV.ok rfl _ _ _ _ _ _ rfl Tryz.underlying23 infoSs rfl w.heap.size u6 vs ⟨A, r.length, c⟩ #[_] rfl rfl wr.heap.size rfl rfl OV.out z0.out m1.out m2.out ?_; intro g8 cap8 w8 o8 hg8 hat8 hlt8)
            have P8 := Lib.hid (Rws.push (g := g8) (r := ⟨A, r.length, c⟩) VS.out VL.out o8 hg8 rfl hat8 ⟨rfl, HR.out⟩)
            have B8 := Lib.hid (hs.out.below.grown hg8 z0.out (fun k e => (OV.out.lt k e).1))
            clear o8 hg8 hat8 hlt8
            go_ret
            exact ⟨_, rfl, by rw [← hv.out]; exact P8.out, B8.out⟩
          · have hr1 : ((r.length : Int) == 1) = false := by rw [beq_eq_false_iff_ne]; omega
            have hf0 : 1 ≤ f := by
              have := hs.out.top
              rcases Nat.eq_zero_or_pos f with e | e
              · exact absurd (this (by omega)) (by omega)
              · exact e
            have hv : Hid (up ++ [r] ++ levT f (22 - (f : Int)) (upK (22 - ((f + 1 : Nat) : Int)) r) = levels l) := by
              show _ = _
              have := hs.out.eq
              rw [levT, if_neg h0, if_neg h1] at this
              rw [show (22 : Int) - ((f + 1 : Nat) : Int) + 1 = 22 - (f : Int) by omega] at this
              rw [← this]; simp
            have hrl60 := hs.out.len
            have hrl2 : 1 < r.length := by omega
            have hszs := Lib.hid hs.out.szs
            have hul := hs.out.ulen
            have HUL : Hid (up.length + (f + 1) ≤ 21) := hul
            obtain ⟨lv, hlv⟩ : ∃ lv : Int, 22 - ((f + 1 : Nat) : Int) = lv := ⟨_, rfl⟩
            have hlvb : lv + f = 21 := by omega
            rw [hlv] at hv
            rw [hlv]
            clear h0 h1 hul hlv
            go_wp2_with (at_builtin; refine ap_own RowV.ok rfl _ _ _ _ _ _ rfl Tryz.underlying23 infoSs rfl w.heap.size u6 vs ⟨A, r.length, c⟩ #[_] rfl rfl wr.heap.size rfl rfl OV.out z0.out m1.out m2.out ?_; intro g8 cap8 w5 o8 hg8 hat8 hlt8)
            have P8 := Lib.hid (Rws.push (g := g8) (r := ⟨A, r.length, c⟩) VS.out VL.out o8 hg8 rfl hat8 ⟨rfl, HR.out⟩)
            have B8 := Lib.hid (hs.out.below.grown hg8 z0.out (fun k e => (OV.out.lt k e).1))
            have R8 := Lib.hid (HR.out.2.1.grown hg8 (fun a ha e => (HR.out.2.2 a ha).2.2 e))
            have hg8l : Hid (∀ k, (Value.slice (some ⟨g8, 0, none⟩) (vs.length + 1) cap8).ownBlock = some k → k < w5.heap.size) := fun k hk => by injection hk with hk; subst hk; exact hlt8
            clear o8 hg8 hat8 hlt8
            go_loopg [8, 49] r.length (fun m v i wr => ∃ (k : Nat) (done : List Str), i = .int .i64 k ∧ k + m = r.length ∧ done.length ≤ k ∧ Hid (Own strEnc 1 9 w5.heap.size wr v done) ∧ Hid (Below w5.heap.size w5 wr) ∧ Hid (done ++ lastsF (fun k => endsN lv k) (r.drop k) = lastsF (fun k => endsN lv k) r))
            case atStart => exact ⟨0, [], rfl, by omega, Nat.le_refl _, Own.nil, Below.refl _ _, rfl⟩
            case round =>
              obtain ⟨k, done, rfl, hk, hdk, ho, hb, hd⟩ := hrel
              by_cases hkn : k < r.length
              · obtain ⟨m', hm'⟩ : ∃ m', gk = m' + 1 := ⟨gk - 1, by omega⟩
                subst hm'
                have hki : (k : Int) < (r.length : Int) := by omega
                have hkz : (0 : Int) ≤ (k : Int) := by omega
                rcases R8.out.below hb.out (Nat.le_refl _) with h0 | ⟨bb, off, rfl, hlt, hcell⟩
                · rw [h0] at hkn; simp at hkn
                have hxk : r[k]? = some r[k] := List.getElem?_eq_getElem hkn
                have z1 := hcell k _ hxk 0 _ rfl
                have hsx := hszs.out _ (List.getElem_mem hkn)
                have hdr : Hid (r.drop k = r[k] :: r.drop (k + 1)) := by show _ = _; rw [List.drop_eq_getElem_cons hkn]
                generalize r[k] = xk at *
                simp only [Nat.mul_one, Nat.add_zero] at z1
                have ks : xk.size ≤ 9223372036854775807 := by omega
                clear hcell hxk hsx
                by_cases hlast : k + 1 = r.length
                · have hlq : ((k : Int) + 1 == (r.length : Int)) = true := by rw [beq_iff_eq]; omega
                  have HN : Hid (done ++ [xk] ++ lastsF (fun k => endsN lv k) (r.drop (k + 1)) = lastsF (fun k => endsN lv k) r) := by
                    show _ = _
                    have := hd.out
                    rw [hdr.out, lastsF_cons, if_pos (.inl (by rw [hlast, List.drop_length]))] at this
                    rw [← this]; simp
                  clear hlast
                  have z4 := Lib.hid hb.out.size
                  have l1 : Hid ((done.length + 1) * 16 ≤ 140737488355328) := by show _ ≤ _; omega
                  have l2 : Hid (done.length + 1 ≤ 140737488355328) := by show _ ≤ _; omega
                  go_wp2_with (at_builtin; refine ap_own strOk rfl _ _ _ _ _ _ rfl Tryz.underlying49 infoSt rfl w5.heap.size u8 done xk #[_] rfl rfl wr.heap.size rfl rfl ho.out z4.out l1.out l2.out ?_; intro g7 cap7 w7 ho7 hg7 hat7 hlt7)
                  have O7 := Lib.hid ho7
                  have B7 := Lib.hid (hb.out.grown hg7 z4.out (fun k e => (ho.out.lt _ e).1))
                  clear ho7 hg7 hat7 hlt7
                  go_roundg m'
                  case measure => omega
                  case rel => exact ⟨k + 1, done ++ [xk], by go_num, by omega, by simp; omega, O7.out, B7.out, HN.out⟩
                · have hlq : ((k : Int) + 1 == (r.length : Int)) = false := by rw [beq_eq_false_iff_ne]; omega
                  have hne : Hid (r.drop (k + 1) ≠ []) := by
                    show _ ≠ _
                    intro e
                    have := congrArg List.length e
                    simp at this
                    omega
                  go_wp2_with fail
                  refine (rEnds_calls _ lv xk ks).mono ?_
                  rintro e w4 ⟨rfl, hb4⟩
                  have B4 := Lib.hid (bl_then hb.out hb.out.size hb4)
                  have O4 := Lib.hid (ho.out.below hb4)
                  clear hb4 hlast hlt ho hb z1
                  rcases hq' : endsN lv xk with _ | _
                  · have HN : Hid (done ++ lastsF (fun k => endsN lv k) (r.drop (k + 1)) = lastsF (fun k => endsN lv k) r) := by
                      show _ = _
                      have := hd.out
                      rw [hdr.out, lastsF_cons, if_neg (by rintro (e | e); exact hne.out e; rw [hq'] at e; cases e)] at this
                      exact this
                    clear hq'
                    go_wp2
                    go_roundg m'
                    case measure => omega
                    case rel => exact ⟨k + 1, done, by go_num, by omega, by omega, O4.out, B4.out, HN.out⟩
                  · have HN : Hid (done ++ [xk] ++ lastsF (fun k => endsN lv k) (r.drop (k + 1)) = lastsF (fun k => endsN lv k) r) := by
                      show _ = _
                      have := hd.out
                      rw [hdr.out, lastsF_cons, if_pos (.inr hq')] at this
                      rw [← this]; simp
                    clear hq'
                    have z4 := Lib.hid B4.out.size
                    have l1 : Hid ((done.length + 1) * 16 ≤ 140737488355328) := by show _ ≤ _; omega
                    have l2 : Hid (done.length + 1 ≤ 140737488355328) := by show _ ≤ _; omega
                    go_wp2_with (at_builtin; refine ap_own strOk rfl _ _ _ _ _ _ rfl Tryz.underlying49 infoSt rfl w5.heap.size u8 done xk #[_] rfl rfl w4.heap.size rfl rfl O4.out z4.out l1.out l2.out ?_; intro g7 cap7 w7 ho7 hg7 hat7 hlt7)
                    have O7 := Lib.hid ho7
                    have B7 := Lib.hid (B4.out.grown hg7 z4.out (fun k e => (O4.out.lt _ e).1))
                    clear ho7 hg7 hat7 hlt7
                    go_roundg m'
                    case measure => omega
                    case rel => exact ⟨k + 1, done ++ [xk], by go_num, by omega, by simp; omega, O7.out, B7.out, HN.out⟩
              · have hkk : ¬ (k : Int) < (r.length : Int) := by omega
                have hfull : Hid (done = upK lv r) := by
                  show _ = _
                  have := hd.out
                  rw [List.drop_of_length_le (by omega)] at this
                  rw [upK_eq, ← this]
                  simp [lastsF]
                obtain ⟨A1, c1, rfl, i1, i1', hr1, hA1⟩ := ho.out.rd strOk
                have S9 : Hid (LeS w l f A1 c1 done (.slice (some ⟨g8, 0, none⟩) (vs.length + 1) cap8) (up ++ [r]) wr) := {
                  row := ⟨i1, hr1, fun a ha => ⟨Nat.le_trans B8.out.size (hA1 a ha), (ho.out.lt a.block (by rw [ha]; rfl)).2, fun e => by have h1 := hg8l.out _ e.symm; have h2 := hA1 a ha; omega⟩⟩
                  rws := P8.out.below hb.out
                  below := bl_then B8.out B8.out.size hb.out
                  eq := by rw [hfull.out]; exact hv.out
                  top := fun e => by
                    have e20 : lv = 20 := by omega
                    rw [hfull.out, e20]
                    exact upK_top r
                  len := by omega
                  ulen := by have := HUL.out; simp only [List.length_append, List.length_singleton]; omega
                  szs := fun x hx => by
                    rw [hfull.out] at hx
                    exact hszs.out x ((upK_sub _ _).subset hx)
                  pos := hf0 }
                clear hkn hd ho hb i1 i1' hr1 hA1 hk hdk hfull
                go_wp2
                go_roundg f
                case measure => omega
                case rel => exact ⟨f, A1, c1, done, up ++ [r], rfl, by go_num, rfl, S9.out⟩
end Go.Proofs.YtikgplhcadomcaaGreat
