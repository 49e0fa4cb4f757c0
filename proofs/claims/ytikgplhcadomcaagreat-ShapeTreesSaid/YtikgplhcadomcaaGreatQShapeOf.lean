/- shape.Of -/
import Derived.Test.YtikgplhcadomcaaGreatQLevels
import Derived.Deep.LoopGhost
namespace Go.Proofs.YtikgplhcadomcaaGreat
open Go.RowKit
set_option linter.unusedVariables false
set_option linter.unusedSimpArgs false
/-! ### Plain -/
def lastE (r : List Entry) : Kid := ⟨((r.map Entry.key).getLast?).getD ⟨#[]⟩, 0⟩
def lastK (r : List Kid) : Kid := r.getLast?.getD ⟨⟨#[]⟩, 0⟩
theorem lastK_last (r : List Kid) : (lastK r).last = ((r.map Kid.last).getLast?).getD ⟨#[]⟩ := by
  unfold lastK
  rw [List.getLast?_map]
  cases r.getLast? <;> rfl
theorem split_lasts (l : List Entry) : ((splitE l).map lastE).map Kid.last = upK 0 (l.map Entry.key) := by
  have := rowsF_map (fun k => endsN 0 k) Entry.key l []
  unfold upK
  simp only [List.map_nil] at this
  rw [← this, List.map_map, List.map_map]
  rfl
theorem group_lasts (lv : Nat) (ks : List Kid) : ((groupK lv ks).map lastK).map Kid.last = upK lv (ks.map Kid.last) := by
  have := rowsF_map (fun k => endsN lv k) Kid.last ks []
  unfold upK
  simp only [List.map_nil] at this
  rw [← this, List.map_map, List.map_map]
  exact List.map_congr_left fun r _ => lastK_last r
structure OfS2 (w : World) (l : List Entry) (f : Nat) (A : Option Addr) (c : Nat) (ks : List Kid) (u : Value) (up : List (List Str)) (wr : World) : Prop where
  rd : Rd Kid.enc 2 wr A ks
  cap : ks.length ≤ c
  big : c ≤ 9223372036854775807
  rws : Rws strEnc 1 49 w.heap.size wr u up
  below : Below w.heap.size w wr
  eq : up ++ levT f (22 - (f : Int)) (ks.map Kid.last) = levels l
  top : f = 1 → ks.length ≤ 1
  len : ks.length ≤ 60
  ulen : up.length + f ≤ 21
  szs : ∀ x ∈ ks, x.last.size ≤ 1000000
  pos : 1 ≤ f
  far : ∀ a, A = some a → some a.block ≠ u.ownBlock
set_option maxRecDepth 100000 in
set_option maxHeartbeats 4000000 in
theorem shapeOf_calls (w : World) (A : Option Addr) (c : Nat) (l : List Entry) (hc : l.length ≤ c) (hbig : c ≤ 9223372036854775807) (hlen : l.length ≤ 60) (hsz : ∀ x ∈ l, x.key.size ≤ 1000000 ∧ x.val.size ≤ 1000000) (h : Rd Entry.enc 2 w A l) :
    Calls Tryz.prog 18 #[.slice A l.length c] w fun e w' => RowsMd strEnc 1 49 w w' (levels l) e := by
  have HSP := Lib.hid (split_calls w A c l hc hbig h hsz (by omega))
  have HS := Lib.hid hsz
  clear h hsz
  go_enter Tryz.func18, Tryz.ntmps18
  go_wp2
  go_step3
  go_wp2_with fail
  refine HSP.out.mono ?_
  rintro e w1 ⟨v, rfl, hv, hb1⟩
  obtain ⟨vs, hO, hvl, hvs⟩ := hv
  obtain ⟨A1, c1, rfl, i1, i1', hr1, hA1⟩ := hO.rd RowV.ok
  have B1 := Lib.hid hb1
  have HR1 := Lib.hid hr1
  have HVS := Lib.hid hvs
  have hvl2 : Hid (vs.length = (splitE l).length) := hvl
  have hvb : vs.length ≤ 60 := by rw [hvl]; exact Nat.le_trans (splitAll_len _ _) hlen
  clear hb1 hr1 hA1 hvs hvl HSP hO i1
  go_wp2
  go_loopg [3, 14] vs.length (fun m u i wr => ∃ (k : Nat) (done : List Kid), i = .int .i64 k ∧ k + m = vs.length ∧ done.length ≤ k ∧ Hid (Own Kid.enc 2 109 w1.heap.size wr u done) ∧ Hid (Below w1.heap.size w1 wr) ∧ Hid (done = ((splitE l).take k).map lastE))
  case atStart => exact ⟨0, [], rfl, by omega, Nat.le_refl _, Own.nil, Below.refl _ _, rfl⟩
  case round =>
    obtain ⟨k, done, rfl, hk, hdk, ho, hb, hd⟩ := hrel
    by_cases hkn : k < vs.length
    · obtain ⟨m', hm'⟩ : ∃ m', gk = m' + 1 := ⟨gk - 1, by omega⟩
      subst hm'
      have hki : (k : Int) < (vs.length : Int) := by omega
      have hkz : (0 : Int) ≤ (k : Int) := by omega
      rcases HR1.out.below hb.out (Nat.le_refl _) with h0 | ⟨bb, off, rfl, hlt, hcell⟩
      · rw [h0] at hkn; simp at hkn
      have hvk : vs[k]? = some vs[k] := List.getElem?_eq_getElem hkn
      have hkn2 : k < (splitE l).length := by rw [← hvl2.out]; exact hkn
      have hlk : (splitE l)[k]? = some (splitE l)[k] := List.getElem?_eq_getElem hkn2
      obtain ⟨q1, q2, q3, q4⟩ := HVS.out k _ _ hvk hlk
      have z0 := hcell k _ hvk 0 _ rfl
      have q3r := q3.below hb.out (Nat.le_refl _)
      have hne : (splitE l)[k] ≠ [] := (rowsF_rows _ l [] (by simp) _ (List.getElem_mem hkn2)).1
      have hrl : (splitE l)[k].length ≤ 60 := by
        have := (List.sublist_flatten_of_mem (List.getElem_mem hkn2)).length_le
        rw [splitE_flat] at this; omega
      have htk : Hid (done ++ [lastE (splitE l)[k]] = ((splitE l).take (k + 1)).map lastE) := by show _ = _; rw [hd.out, List.take_add_one, hlk, List.map_append]; rfl
      generalize (splitE l)[k] = row at *
      generalize vs[k] = r at *
      obtain ⟨rA, rl, rc⟩ := r
      dsimp only at q1 q2 q3r q4 z0
      obtain ⟨n, hn⟩ : ∃ n, row.length = n + 1 := ⟨row.length - 1, by have := List.length_pos_iff.2 hne; omega⟩
      have hrn : row[n]? = some row[n] := List.getElem?_eq_getElem (by omega)
      have hlast : (lastE row) = ⟨row[n].key, 0⟩ := by
        have h9 : row.getLast? = some row[n] := by rw [List.getLast?_eq_getElem?, show row.length - 1 = n by omega, hrn]
        unfold lastE
        rw [List.getLast?_map, h9]
        rfl
      rcases q3r with h0 | ⟨rb, ro, rfl, rlt, rcell⟩
      · exact absurd h0 hne
      have r0 := rcell n _ hrn 0 _ rfl
      rw [hlast] at htk
      rw [q1, hn] at z0
      have e1 : off + k * 1 + 0 = off + k := by omega
      rw [e1] at z0
      simp only [Nat.add_zero] at r0
      obtain ⟨xk, hxk⟩ : ∃ xk, row[n].key = xk := ⟨_, rfl⟩
      rw [hxk] at r0 htk
      have hn60 : n ≤ 60 := by omega
      have z4 := Lib.hid hb.out.size
      have l1 : Hid ((done.length + 1) * 24 ≤ 140737488355328) := by show _ ≤ _; omega
      have l2 : Hid (done.length + 1 ≤ 140737488355328) := by show _ ≤ _; omega
      clear hcell hvk hkn2 hlk q1 q2 q3 q4 hne hrl hn hrn hlast rcell hxk e1 hd
      go_wp2_with (at_builtin; refine ap_own Kid.ok rfl _ _ _ _ _ _ rfl Tryz.underlying96 infoKn rfl w1.heap.size u3 done ⟨xk, 0⟩ #[_, _] rfl rfl wr.heap.size rfl rfl ho.out z4.out l1.out l2.out ?_; intro g7 cap7 w7 ho7 hg7 hat7 hlt7)
      have O7 := Lib.hid ho7
      have B7 := Lib.hid (hb.out.grown hg7 z4.out (fun k e => (ho.out.lt _ e).1))
      clear ho7 hg7 hat7 hlt7
      go_roundg m'
      case measure => omega
      case rel => exact ⟨k + 1, done ++ [⟨xk, 0⟩], by go_num, by omega, by simp; omega, O7, B7.out, htk⟩
    · have hkk : ¬ (k : Int) < (vs.length : Int) := by omega
      have hfull : Hid (done.map Kid.last = upK 0 (l.map Entry.key)) := by
        show _ = _
        rw [hd.out, List.take_of_length_le (by rw [← hvl2.out]; omega), split_lasts]
      obtain ⟨A2, c2, rfl, j1, j2, j3, -⟩ := ho.out.rd Kid.ok
      have S1 : Hid (OfS2 w l 21 A2 c2 done (.slice none 0 0) [] wr) := {
        rd := j3
        cap := j1
        big := j2
        rws := Rws.nil
        below := bl_then B1.out B1.out.size hb.out
        eq := by rw [hfull.out]; rfl
        top := fun e => by cases e
        len := by omega
        ulen := Nat.le_refl _
        szs := fun x hx => by
          have h1 : x.last ∈ done.map Kid.last := List.mem_map.2 ⟨x, hx, rfl⟩
          rw [hfull.out] at h1
          obtain ⟨y, hy, hyx⟩ := List.mem_map.1 ((upK_sub _ _).subset h1)
          rw [← hyx]
          exact (HS.out y hy).1
        pos := by omega
        far := fun a ha e => by cases e }
      clear hkn hd ho hb j1 j2 j3 hk hdk hfull
      go_wp2
      go_step3
      go_wp2
      go_loopg [3, 6, 7] 21 (fun m v u lv wr => ∃ (f : Nat) (A : Option Addr) (c : Nat) (ks : List Kid) (up : List (List Str)), v = .slice A ks.length c ∧ lv = .int .i64 (22 - (f : Int)) ∧ m = f ∧ Hid (OfS2 w l f A c ks u up wr))
      case atStart => exact ⟨21, A2, c2, done, [], rfl, by go_num, rfl, S1.out⟩
      case round =>
        clear S1
        obtain ⟨f, A, c, ks, up, rfl, rfl, hm, hs⟩ := hrel
        have hf1 : gk = f := hm
        subst hf1
        obtain ⟨f, hfe⟩ : ∃ f, gk = f + 1 := ⟨gk - 1, by have := hs.out.pos; omega⟩
        subst hfe
        have hf20 : f ≤ 20 := by have := hs.out.ulen; omega
        clear hm
        by_cases h0 : ks.length = 0
        · have hr0 : ¬ (0 : Int) < (ks.length : Int) := by omega
          have hv : Hid (up = levels l) := by
            show _ = _
            have := hs.out.eq
            rw [levT, if_pos (by simpa using h0)] at this
            simpa using this
          clear h0
          go_wp2
          go_ret
          exact ⟨_, rfl, by rw [← hv.out]; exact hs.out.rws, hs.out.below⟩
        · have hr0 : (0 : Int) < (ks.length : Int) := by omega
          have hlK := hs.out.len
          obtain ⟨u0, hu0⟩ : ∃ u0, u6 = u0 := ⟨_, rfl⟩
          rw [hu0] at hs ⊢
          go_wp2_with fail
          refine (lasts_calls _ A c ks hs.out.rd (by omega)).mono ?_
          rintro e w5 ⟨v5, rfl, ho5, hb5⟩
          obtain ⟨vs5, hO, hvl5, hvs5⟩ := hs.out.rws
          obtain ⟨r5, rfl, hr5⟩ := Own.row (base := w.heap.size) (u := u0) strOk ho5 hs.out.below.size (fun k hk => (hO.lt k hk).2)
          have HR5 := Lib.hid hr5
          have O5 := Lib.hid (hO.below hb5)
          have VL := Lib.hid hvl5
          have B5 := Lib.hid (bl_then hs.out.below hs.out.below.size hb5)
          have z5 := Lib.hid B5.out.size
          have V5 : Hid (∀ (i : Nat) (r : RowV) (l : List Str), vs5[i]? = some r → up[i]? = some l → r.len = l.length ∧ l.length ≤ r.cap ∧ Rd strEnc 1 w5 r.A l ∧ ∀ a, r.A = some a → w.heap.size ≤ a.block ∧ a.block < w5.heap.size ∧ some a.block ≠ u0.ownBlock) := fun i r l h1 h2 => by
            obtain ⟨q1, q2, q3, q4⟩ := hvs5 i r l h1 h2
            exact ⟨q1, q2, q3.below hb5 (Nat.le_refl _), fun a ha => ⟨(q4 a ha).1, Nat.lt_of_lt_of_le (q4 a ha).2.1 hb5.size, (q4 a ha).2.2⟩⟩
          have R5 := Lib.hid (hs.out.rd.below hb5 (Nat.le_refl _))
          have hvl21 : Hid (vs5.length ≤ 21) := by show _ ≤ _; rw [hvl5]; have := hs.out.ulen; omega
          have m1 : Hid ((vs5.length + 1) * 24 ≤ 140737488355328) := by show _ ≤ _; have := hvl21.out; omega
          have m2 : Hid (vs5.length + 1 ≤ 140737488355328) := by show _ ≤ _; have := hvl21.out; omega
          obtain ⟨rA, rl, rc⟩ := r5
          dsimp only at HR5 hr5
          clear ho5 hb5 hr5 hO hvl5 hvs5 hu0
          by_cases h1 : ks.length = 1
          · have hr1 : ((ks.length : Int) == 1) = true := by rw [beq_iff_eq]; omega
            have hv : Hid (up ++ [ks.map Kid.last] = levels l) := by
              show _ = _
              have := hs.out.eq
              rw [levT, if_neg (by simpa using h0), if_pos (by simpa using h1)] at this
              exact this
            clear h0 h1
            go_wp2_with (at_builtin; refine ap_own RowV.ok rfl _ _ _ _ _ _ rfl Tryz.underlying23 infoSs rfl w.heap.size u0 vs5 ⟨rA, rl, rc⟩ #[_] rfl rfl w5.heap.size rfl rfl O5.out z5.out m1.out m2.out ?_; intro g8 cap8 w8 o8 hg8 hat8 hlt8)
            have P8 := Lib.hid (Rws.push (g := g8) (r := ⟨rA, rl, rc⟩) V5.out VL.out o8 hg8 rfl hat8 HR5.out)
            have B8 := Lib.hid (B5.out.grown hg8 z5.out (fun k e => (O5.out.lt k e).1))
            clear o8 hg8 hat8 hlt8
            try rw [Exit.noGoto_ret]
            go_ret
            exact ⟨_, rfl, by rw [← hv.out]; exact P8.out, B8.out⟩
          · have hr1 : ((ks.length : Int) == 1) = false := by rw [beq_eq_false_iff_ne]; omega
            have hf0 : 1 ≤ f := by
              have := hs.out.top
              rcases Nat.eq_zero_or_pos f with e | e
              · exact absurd (this (by omega)) (by omega)
              · exact e
            obtain ⟨lv, hlv⟩ : ∃ lv : Nat, 21 - f = lv := ⟨_, rfl⟩
            have hlvb : lv + f = 21 := by omega
            have hlvi : (22 : Int) - ((f + 1 : Nat) : Int) = (lv : Int) := by omega
            have hv : Hid (up ++ [ks.map Kid.last] ++ levT f (22 - (f : Int)) (upK (lv : Int) (ks.map Kid.last)) = levels l) := by
              show _ = _
              have := hs.out.eq
              rw [levT, if_neg (by simpa using h0), if_neg (by simpa using h1), hlvi] at this
              rw [show (lv : Int) + 1 = 22 - (f : Int) by omega] at this
              rw [← this]; simp
            have hszs := Lib.hid hs.out.szs
            have HUL : Hid (up.length + (f + 1) ≤ 21) := hs.out.ulen
            have HF := Lib.hid hs.out.far
            have hcap := hs.out.cap
            have hcbig := hs.out.big
            rw [hlvi]
            clear h0 h1 hlv hlvi hs
            go_wp2_with (at_builtin; refine ap_own RowV.ok rfl _ _ _ _ _ _ rfl Tryz.underlying23 infoSs rfl w.heap.size u0 vs5 ⟨rA, rl, rc⟩ #[_] rfl rfl w5.heap.size rfl rfl O5.out z5.out m1.out m2.out ?_; intro g8 cap8 w8 o8 hg8 hat8 hlt8)
            have P8 := Lib.hid (Rws.push (g := g8) (r := ⟨rA, rl, rc⟩) V5.out VL.out o8 hg8 rfl hat8 HR5.out)
            have B8 := Lib.hid (B5.out.grown hg8 z5.out (fun k e => (O5.out.lt k e).1))
            have R8 := Lib.hid (R5.out.grown hg8 (fun a ha e => HF.out a ha e))
            have hg8l : Hid (∀ k, (Value.slice (some ⟨g8, 0, none⟩) (vs5.length + 1) cap8).ownBlock = some k → k < w8.heap.size) := fun k hk => by injection hk with hk; subst hk; exact hlt8
            have HG := Lib.hid (group_calls w8 A c ks hcap hcbig R8.out hszs.out lv (by omega))
            clear o8 hg8 hat8 hlt8
            refine HG.out.mono ?_
            rintro e w9 ⟨v9, rfl, hv9, hb9⟩
            obtain ⟨ws, hO9, hwl, hws⟩ := hv9
            obtain ⟨A9, c9, rfl, i9, i9', hr9, hA9⟩ := hO9.rd RowV.ok
            have B9 := Lib.hid (bl_then B8.out B8.out.size hb9)
            have P9 := Lib.hid (P8.out.below hb9)
            have G9 : Hid (∀ k, (Value.slice (some ⟨g8, 0, none⟩) (vs5.length + 1) cap8).ownBlock = some k → k < w9.heap.size) := fun k hk => Nat.lt_of_lt_of_le (hg8l.out k hk) hb9.size
            have HR9 := Lib.hid hr9
            have HWS := Lib.hid hws
            have hwl2 : Hid (ws.length = (groupK lv ks).length) := hwl
            have hwb : ws.length ≤ 60 := by rw [hwl]; exact Nat.le_trans (splitAll_len _ _) hlK
            clear hb9 hr9 hA9 hws hwl hO9 i9 HG P8 B8 hg8l
            go_wp2
            go_loopg [8, 47] ws.length (fun m u i wr => ∃ (k : Nat) (done : List Kid), i = .int .i64 k ∧ k + m = ws.length ∧ done.length ≤ k ∧ Hid (Own Kid.enc 2 109 w9.heap.size wr u done) ∧ Hid (Below w9.heap.size w9 wr) ∧ Hid (done = ((groupK lv ks).take k).map lastK))
            case atStart => exact ⟨0, [], rfl, by omega, Nat.le_refl _, Own.nil, Below.refl _ _, rfl⟩
            case round =>
              obtain ⟨k, done, rfl, hk, hdk, ho, hb, hd⟩ := hrel
              by_cases hkn : k < ws.length
              · obtain ⟨m', hm'⟩ : ∃ m', gk = m' + 1 := ⟨gk - 1, by omega⟩
                subst hm'
                have hki : (k : Int) < (ws.length : Int) := by omega
                have hkz : (0 : Int) ≤ (k : Int) := by omega
                rcases HR9.out.below hb.out (Nat.le_refl _) with h0 | ⟨bb, off, rfl, hlt, hcell⟩
                · rw [h0] at hkn; simp at hkn
                have hvk : ws[k]? = some ws[k] := List.getElem?_eq_getElem hkn
                have hkn2 : k < (groupK lv ks).length := by rw [← hwl2.out]; exact hkn
                have hlk : (groupK lv ks)[k]? = some (groupK lv ks)[k] := List.getElem?_eq_getElem hkn2
                obtain ⟨q1, q2, q3, q4⟩ := HWS.out k _ _ hvk hlk
                have z0 := hcell k _ hvk 0 _ rfl
                have q3r := q3.below hb.out (Nat.le_refl _)
                have hne : (groupK lv ks)[k] ≠ [] := (rowsF_rows _ ks [] (by simp) _ (List.getElem_mem hkn2)).1
                have hrl : (groupK lv ks)[k].length ≤ 60 := by
                  have := (List.sublist_flatten_of_mem (List.getElem_mem hkn2)).length_le
                  rw [groupK_flat] at this; omega
                have htk : Hid (done ++ [lastK (groupK lv ks)[k]] = ((groupK lv ks).take (k + 1)).map lastK) := by show _ = _; rw [hd.out, List.take_add_one, hlk, List.map_append]; rfl
                generalize (groupK lv ks)[k] = row at *
                generalize ws[k] = r at *
                obtain ⟨xA, xl, xc⟩ := r
                dsimp only at q1 q2 q3r q4 z0
                obtain ⟨n, hn⟩ : ∃ n, row.length = n + 1 := ⟨row.length - 1, by have := List.length_pos_iff.2 hne; omega⟩
                have hrn : row[n]? = some row[n] := List.getElem?_eq_getElem (by omega)
                have hlast : (lastK row) = row[n] := by
                  have h9 : row.getLast? = some row[n] := by rw [List.getLast?_eq_getElem?, show row.length - 1 = n by omega, hrn]
                  unfold lastK
                  rw [h9]
                  rfl
                rcases q3r with h0 | ⟨rb, ro, rfl, rlt, rcell⟩
                · exact absurd h0 hne
                have r0 := rcell n _ hrn 0 _ rfl
                have r1 := rcell n _ hrn 1 _ rfl
                rw [hlast] at htk
                rw [q1, hn] at z0
                have e1 : off + k * 1 + 0 = off + k := by omega
                rw [e1] at z0
                simp only [Nat.add_zero] at r0
                obtain ⟨x, hx⟩ : ∃ x, row[n] = x := ⟨_, rfl⟩
                rw [hx] at r0 r1 htk
                obtain ⟨xk, xi⟩ := x
                dsimp only at r0 r1
                have hn60 : n ≤ 60 := by omega
                have z4 := Lib.hid hb.out.size
                have l1 : Hid ((done.length + 1) * 24 ≤ 140737488355328) := by show _ ≤ _; omega
                have l2 : Hid (done.length + 1 ≤ 140737488355328) := by show _ ≤ _; omega
                clear hcell hvk hkn2 hlk q1 q2 q3 q4 hne hrl hn hrn hlast rcell hx e1 hd
                go_wp2_with (at_builtin; refine ap_own Kid.ok rfl _ _ _ _ _ _ rfl Tryz.underlying96 infoKn rfl w9.heap.size u8 done ⟨xk, xi⟩ #[_, _] rfl rfl wr.heap.size rfl rfl ho.out z4.out l1.out l2.out ?_; intro g7 cap7 w7 ho7 hg7 hat7 hlt7)
                have O7 := Lib.hid ho7
                have B7 := Lib.hid (hb.out.grown hg7 z4.out (fun k e => (ho.out.lt _ e).1))
                clear ho7 hg7 hat7 hlt7
                go_roundg m'
                case measure => omega
                case rel => exact ⟨k + 1, done ++ [⟨xk, xi⟩], by go_num, by omega, by simp; omega, O7, B7.out, htk⟩
              · have hkk : ¬ (k : Int) < (ws.length : Int) := by omega
                have hfd : Hid (done = (groupK lv ks).map lastK) := by show _ = _; rw [hd.out, List.take_of_length_le (by rw [← hwl2.out]; omega)]
                have hfull : Hid (done.map Kid.last = upK lv (ks.map Kid.last)) := by
                  show _ = _
                  rw [hfd.out, group_lasts]
                obtain ⟨A3, c3, rfl, j1, j2, j3, j4⟩ := ho.out.rd Kid.ok
                have S9 : Hid (OfS2 w l f A3 c3 done (.slice (some ⟨g8, 0, none⟩) (vs5.length + 1) cap8) (up ++ [ks.map Kid.last]) wr) := {
                  rd := j3
                  cap := j1
                  big := j2
                  rws := P9.out.below hb.out
                  below := bl_then B9.out B9.out.size hb.out
                  eq := by rw [hfull.out]; exact hv.out
                  top := fun e => by
                    have e20 : lv = 20 := by omega
                    rw [hfd.out, List.length_map, e20]
                    exact group_top ks
                  len := by omega
                  ulen := by have := HUL.out; simp only [List.length_append, List.length_singleton]; omega
                  szs := fun x hx => by
                    have h1 : x.last ∈ done.map Kid.last := List.mem_map.2 ⟨x, hx, rfl⟩
                    rw [hfull.out] at h1
                    obtain ⟨y, hy, hyx⟩ := List.mem_map.1 ((upK_sub _ _).subset h1)
                    rw [← hyx]
                    exact hszs.out y hy
                  pos := hf0
                  far := fun a ha e => by have h1 := G9.out _ e.symm; have h2 := j4 a ha; omega }
                clear hkn hd ho hb j1 j2 j3 j4 hk hdk hfull hfd
                go_wp2
                go_roundg f
                case measure => omega
                case rel => exact ⟨f, A3, c3, done, up ++ [ks.map Kid.last], rfl, by go_num, rfl, S9.out⟩
end Go.Proofs.YtikgplhcadomcaaGreat
