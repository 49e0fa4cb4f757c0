/- shape.Tree -/
import Derived.Test.YtikgplhcadomcaaGreatQShapeP
namespace Go.Proofs.YtikgplhcadomcaaGreat
open Go.RowKit
set_option linter.unusedVariables false
set_option linter.unusedSimpArgs false
theorem infoSs : (Tryz.prog.info? 49).map (fun i => (i.zero, i.size, i.bytes)) = some (some (.slice none 0 0), 1, 24) := by kernel_rfl
def lastsOf (L : List (List Kid)) : List (List Str) := L.map fun ks => ks.map Kid.last
def ShT (q14 q13 : Nat) (lv : Int) (a : NdA) (n : Nat) (kl : Str) (ki : Int) (W : World) : Prop := W.heap[q14]? = some (.cells #[.int .i64 lv, .slice a.A 0 a.ca, .slice a.B n a.cb] 98 (0, 0)) ∧ W.heap[q13]? = some (.cells #[.string kl, .int .u64 ki] 109 (0, 0))
theorem ShT.below {q14 q13 : Nat} {lv : Int} {a : NdA} {n : Nat} {kl : Str} {ki : Int} {W W' : World} (h : ShT q14 q13 lv a n kl ki W) (hb : Below W.heap.size W W') : ShT q14 q13 lv a n kl ki W' := ⟨blk_below hb h.1 (blk_lt h.1), blk_below hb h.2 (blk_lt h.2)⟩
/-- Within Tree: the level ks; up are those above it, with it. -/
structure ShS (w : World) (C : List (List Int)) (E : List Entry) (all : List (List Str)) (T : List (List Kid)) (ks : List Kid) (A : Option Addr) (c : Nat) (u : Value) (up : List (List Str)) (wr : World) : Prop where
  tower : Tower C (ks :: T) E
  rd : Rd Kid.enc 2 wr A ks
  cap : ks.length ≤ c
  big : c ≤ 9223372036854775807
  rws : Rws strEnc 1 49 w.heap.size wr u up
  below : Below w.heap.size w wr
  eq : up ++ lastsOf T = all
  len : T.length ≤ 20
  ulen : up.length ≤ 30
def ShR (w w' : World) (rows : List (List Str)) (e : Ending) : Prop := ∃ A c, e = .returned (.tuple #[.slice A rows.length c, .int .i64 0]) ∧ rows.length ≤ c ∧ c ≤ 9223372036854775807 ∧ RwR strEnc 1 w' A rows ∧ Below w.heap.size w w'
section
variable {w : World} {s p g : Nat} {F : Nat → Prop} {C : List (List Int)}
set_option maxRecDepth 100000 in
set_option maxHeartbeats 4000000 in
theorem shapeTree_calls (h : TSt w s p g F C) (E : List Entry) (hm : MapOk E) (k : Kid) (T : List (List Kid)) (ht : Tower C ([k] :: T) E) (hT : T.length ≤ 20) :
    Calls Tryz.prog 15 #[.pointer (some ⟨s, 0, none⟩), .int .u64 k.id] w fun e w' => ShR w w' (lastsOf ([k] :: T)).reverse e := by
  have HT := Lib.hid h
  have HM := Lib.hid hm
  have HTO := Lib.hid ht
  have hid1 := (tower_ids ht k (by simp)).1
  have hid0 : (k.id == 0) = false := by rw [beq_eq_false_iff_ne]; omega
  obtain ⟨n, hn⟩ := tower_at ht (i := 0) (by simp)
  have HL := Lib.hid (tower_load h hm ht hT (i := 0) rfl hn)
  have hlast : Hid (n.last = k.last) := tower_last ht (i := 0) rfl hn
  have hlev : Hid (n.level = (T.length : Int)) := head_level n (List.mem_of_getElem? hn)
  obtain ⟨kl, ki⟩ := k
  dsimp only at hid0 HL hlast ⊢
  clear h hm ht hn hid1
  go_enter Tryz.func15, Tryz.ntmps15
  go_wp2_with fail
  refine HL.out.mono ?_
  rintro e w1 ⟨a, rfl, hN1, -, hb1⟩
  rw [hlev.out]
  obtain ⟨W2, hW2⟩ : ∃ W, w1.alloc (.cells #[.int .i64 (T.length : Int), .slice a.A n.ents.length a.ca, .slice a.B n.kids.length a.cb] 98) = W := ⟨_, rfl⟩
  have hb2 : Below w1.heap.size w1 W2 := by rw [← hW2]; exact bl_alloc (Below.refl _ w1) _
  obtain ⟨q, hq⟩ : ∃ q, w1.heap.size = q := ⟨_, rfl⟩
  have X2 : Hid (W2.heap[q]? = some (.cells #[.int .i64 (T.length : Int), .slice a.A n.ents.length a.ca, .slice a.B n.kids.length a.cb] 98 (0, 0))) := by show _ = _; rw [← hW2, ← hq]; exact blk_new w1 _
  have x0 := blk_cell X2.out 0
  have x1 := blk_cell X2.out 1
  have x2 := blk_cell X2.out 2
  have xl := blk_lt X2.out
  have N2 := Lib.hid (hN1.below hb2)
  have B2 := Lib.hid (bl_then hb1 hb1.size hb2)
  have hnl := nodeLast_calls W2 a n N2.out
  rw [hlev.out, hlast.out] at hnl
  have HNL := Lib.hid hnl
  clear hN1 hb1 hb2 HL hnl
  go_wp2_with fail
  refine HNL.out.mono ?_
  rintro e w3 ⟨rfl, hb3⟩
  have X3 := Lib.hid (blk_below hb3 X2.out (blk_lt X2.out))
  have B3 := Lib.hid (bl_then B2.out B2.out.size hb3)
  have hb4 : Below w3.heap.size w3 (w3.alloc (.cells #[.string kl, .int .u64 ki] 109)) := bl_alloc (Below.refl _ w3) _
  have R4 : Hid (Rd Kid.enc 2 (w3.alloc (.cells #[.string kl, .int .u64 ki] 109)) (some ⟨w3.heap.size, 0, none⟩) [⟨kl, ki⟩]) := Rd.lit (blk_new w3 _) rfl
  have X4 := Lib.hid (blk_below hb4 X3.out (blk_lt X3.out))
  have B4 := Lib.hid (bl_then B3.out B3.out.size hb4)
  clear x0 x1 x2 xl hb3 hb4 HNL hW2 hq
  go_wp2_with fail
  refine (lasts_calls _ _ 1 [⟨kl, ki⟩] R4.out (by simp)).mono ?_
  rintro e w5 ⟨v5, rfl, ho5, hb5⟩
  obtain ⟨kb, hkb, R5⟩ : ∃ kb, w3.heap.size = kb ∧ Hid (Rd Kid.enc 2 w5 (some ⟨kb, 0, none⟩) [⟨kl, ki⟩]) := ⟨_, rfl, R4.out.below hb5 (Nat.le_refl _)⟩
  rw [hkb]
  obtain ⟨r5, rfl, k1, k2, k3, k4⟩ := Own.row (base := w.heap.size) (u := .slice none 0 0) strOk ho5 B4.out.size (fun k e => by cases e)
  have X5 := Lib.hid (blk_below hb5 X4.out (blk_lt X4.out))
  have B5 := Lib.hid (bl_then B4.out B4.out.size hb5)
  obtain ⟨W6, hW6⟩ : ∃ W, w5.alloc (.cells #[.slice r5.A r5.len r5.cap] 49) = W := ⟨_, rfl⟩
  have hb6 : Below w5.heap.size w5 W6 := by rw [← hW6]; exact bl_alloc (Below.refl _ w5) _
  obtain ⟨q6, hq6⟩ : ∃ q, w5.heap.size = q := ⟨_, rfl⟩
  have Y6 : Hid (W6.heap[q6]? = some (.cells #[.slice r5.A r5.len r5.cap] 49 (0, 0))) := by show _ = _; rw [← hW6, ← hq6]; exact blk_new w5 _
  have B6 := Lib.hid (bl_then B5.out B5.out.size hb6)
  have X6 := Lib.hid (blk_below hb6 X5.out (blk_lt X5.out))
  have hr6 : Rws strEnc 1 49 w.heap.size W6 (.slice (some ⟨q6, 0, none⟩) 1 1) [[kl]] := Rws.one Y6.out (by rw [← hq6]; exact B5.out.size) ⟨k1, k2, k3.below hb6 (Nat.le_refl _), fun a ha => ⟨(k4 a ha).1, Nat.lt_of_lt_of_le (k4 a ha).2.1 hb6.size, fun e => by have := (k4 a ha).2.1; injection e with e; dsimp only at e; omega⟩⟩
  have S6 : Hid (ShS w C E (lastsOf ([⟨kl, ki⟩] :: T)) T [⟨kl, ki⟩] (some ⟨kb, 0, none⟩) 1 (.slice (some ⟨q6, 0, none⟩) 1 1) [[kl]] W6) := ⟨HTO.out, R5.out.below hb6 (Nat.le_refl _), (by simp), (by omega), hr6, B6.out, rfl, hT, (by simp)⟩
  have x0 := blk_cell X6.out 0
  have xl := blk_lt X6.out
  clear ho5 hb5 hkb k1 k2 k3 k4 hb6 hr6 R4 R5 X3 X4 X5 B2 B3 B4 B5 B6 Y6
  go_wp2
  clear x0 xl
  go_loopg [8, 9, 10] T.length (fun m v u lv wr => ∃ (T' : List (List Kid)) (ks : List Kid) (A : Option Addr) (c : Nat) (up : List (List Str)), v = .slice A ks.length c ∧ lv = .int .i64 (T'.length : Int) ∧ m = T'.length ∧ Hid (ShS w C E (lastsOf ([⟨kl, ki⟩] :: T)) T' ks A c u up wr))
  case atStart => exact ⟨T, [⟨kl, ki⟩], some ⟨kb, 0, none⟩, 1, [[kl]], rfl, rfl, rfl, S6.out⟩
  case round =>
    clear S6 hW6 hq6 X6 X2 N2
    obtain ⟨T', ks, A, c, up, rfl, rfl, hm, hs⟩ := hrel
    rcases T' with _ | ⟨ks', T'⟩
    · have h0 : ((([] : List (List Kid)).length : Nat) : Int) = 0 := rfl
      have hup : Hid (up = lastsOf ([⟨kl, ki⟩] :: T)) := by show _ = _; have := hs.out.eq; simpa [lastsOf] using this
      have hne : up ≠ [] := by rw [hup.out]; simp [lastsOf]
      have HR := Lib.hid (rev_calls hs.out.rws (by have := hs.out.ulen; omega))
      have HNE := Lib.hid hne
      clear hne hm
      go_wp2_with fail
      refine HR.out.mono ?_
      rintro e w8 ⟨rfl, hg8, h8⟩
      obtain ⟨A8, c8, hA8, hc8, hbig8, hr8⟩ := h8 HNE.out
      have hRR : Hid (RwR strEnc 1 w8 A8 (lastsOf ([⟨kl, ki⟩] :: T)).reverse) := by rw [← hup.out]; exact hr8
      have hbl := Lib.hid (hs.out.below.grown hg8 hs.out.below.size (fun k e => by obtain ⟨vs, o1, o2, o3⟩ := hs.out.rws; exact (o1.lt k e).1))
      clear hg8 h8 hr8 HR
      go_wp2
      go_ret2
      refine ⟨A8, c8, ?_, ?_, hbig8, hRR.out, hbl.out⟩
      · simp only [List.length_reverse]
        rw [← hup.out, ← hA8]
        trivial
      · simp only [List.length_reverse]
        rw [← hup.out]; exact hc8
    · obtain ⟨lv, hlv⟩ : ∃ lv : Nat, T'.length + 1 = lv := ⟨_, rfl⟩
      have hlvi : (((ks' :: T').length : Nat) : Int) = (lv : Int) := by simp only [List.length_cons]; omega
      have hgm : lv = gk := by simp only [List.length_cons] at hm; omega
      subst hgm
      rw [hlvi]
      have hlv2 : 0 < lv := by omega
      have hlv20 : lv ≤ 20 := by have := hs.out.len; simp only [List.length_cons] at this; omega
      have HLV := Lib.hid hlv
      have HMM := Lib.hid hm
      have hlen20 := hs.out.len
      have hgood := tower_good HM.out hs.out.tower
      have hlK : ks.length ≤ 60 := hgood.len
      have hns : Hid (headNs (ks' :: T') E = innerNs lv (groupK lv ks')) := by show _ = _; rw [← hlv]; rfl
      have hgrp : Hid (ks.length = (groupK lv ks').length) := by show _ = _; have := (tower_head hs.out.tower).1; rw [hns.out] at this; simpa [innerNs] using this
      have hk'60 : ks'.length ≤ 60 := (tower_good HM.out hs.out.tower.2).len
      obtain ⟨w0, hw0⟩ : ∃ w0, wr = w0 := ⟨_, rfl⟩
      obtain ⟨u0, hu0⟩ : ∃ u0, u9 = u0 := ⟨_, rfl⟩
      rw [hu0] at hs ⊢
      have B0 : Hid (Below w0.heap.size w0 wr) := by rw [hw0]; exact Below.refl _ _
      rw [hw0] at hs
      clear hlvi hlv hm hgood hw0 hu0 hlen20
      go_wp2
      go_loopg [11, 43] ks.length (fun m d i wr => ∃ (j : Nat) (done : List Kid), i = .int .i64 j ∧ j + m = ks.length ∧ Hid (Own Kid.enc 2 109 w0.heap.size wr d done) ∧ Hid (Below w0.heap.size w0 wr) ∧ Hid (done = ((groupK lv ks').take j).flatten))
      case atStart => exact ⟨0, [], rfl, by omega, Own.nil, B0.out, rfl⟩
      case round =>
        clear B0
        obtain ⟨j, done, rfl, hj, ho, hb, hd⟩ := hrel
        by_cases hjn : j < ks.length
        · obtain ⟨m2, hm2⟩ : ∃ m', gk = m' + 1 := ⟨gk - 1, by omega⟩
          subst hm2
          have hji : (j : Int) < (ks.length : Int) := by omega
          have hjz : (0 : Int) ≤ (j : Int) := by omega
          have hTw : TSt wr s p g F C := HT.out.below (bl_then hs.out.below hs.out.below.size hb.out)
          rcases hs.out.rd.below hb.out (Nat.le_refl _) with h0 | ⟨bb, off, rfl, hlt, hcell⟩
          · rw [h0] at hjn; simp at hjn
          have hxk : ks[j]? = some ks[j] := List.getElem?_eq_getElem hjn
          have z0 := hcell j _ hxk 0 _ rfl
          have z1 := hcell j _ hxk 1 _ rfl
          have hjg : j < (groupK lv ks').length := by rw [← hgrp.out]; exact hjn
          have hrow : (groupK lv ks')[j]? = some (groupK lv ks')[j] := List.getElem?_eq_getElem hjg
          have hnj : (headNs (ks' :: T') E)[j]? = some ⟨lv, [], (groupK lv ks')[j]⟩ := by rw [hns.out]; unfold innerNs; rw [List.getElem?_map, hrow]; rfl
          obtain ⟨W3, hW3⟩ : ∃ W, wr.alloc (.cells #[.string ks[j].last, .int .u64 ks[j].id] 109) = W := ⟨_, rfl⟩
          have hb3 : Below wr.heap.size wr W3 := by rw [← hW3]; exact bl_alloc (Below.refl _ wr) _
          obtain ⟨q13, hq13⟩ : ∃ q, wr.heap.size = q := ⟨_, rfl⟩
          have Z3 : Hid (W3.heap[q13]? = some (.cells #[.string ks[j].last, .int .u64 ks[j].id] 109 (0, 0))) := by show _ = _; rw [← hW3, ← hq13]; exact blk_new wr _
          have HLD := Lib.hid (tower_load (hTw.below hb3) HM.out hs.out.tower hs.out.len hxk hnj)
          have hkl := tower_last hs.out.tower hxk hnj
          have hrl : (groupK lv ks')[j].length ≤ 60 := by
            have := (List.sublist_flatten_of_mem (List.getElem_mem hjg)).length_le
            rw [groupK_flat] at this; omega
          have hrn : (groupK lv ks')[j] ≠ [] := (rowsF_rows _ ks' [] (by simp) _ (List.getElem_mem hjg)).1
          have htk : Hid (done ++ (groupK lv ks')[j] = ((groupK lv ks').take (j + 1)).flatten) := by show _ = _; rw [hd.out, List.take_add_one, hrow, List.flatten_append]; simp only [Option.toList_some, List.flatten_cons, List.flatten_nil, List.append_nil]
          have hfl : Hid (done.length ≤ 60) := by
            show _ ≤ _
            rw [hd.out]
            have h1 : ((groupK lv ks').take j).flatten.length + ((groupK lv ks').drop j).flatten.length = ks'.length := by
              rw [← List.length_append, ← List.flatten_append, List.take_append_drop, groupK_flat]
            omega
          generalize (groupK lv ks')[j] = row at *
          generalize ks[j] = x at *
          obtain ⟨kl2, ki2⟩ := x
          dsimp only at z0 z1 Z3 hkl HLD hW3
          simp only [Nat.add_zero] at z0
          have HKL : Hid (NodeP.last ⟨lv, [], row⟩ = kl2) := hkl
          have B3 := Lib.hid (bl_then hb.out hb.out.size hb3)
          have O3 := Lib.hid (ho.out.below hb3)
          have y0 := blk_cell Z3.out 0
          have y1 := blk_cell Z3.out 1
          have yl := blk_lt Z3.out
          have hbl : bb < wr.heap.size := hlt
          have RN := Lib.hid hrn
          clear hTw hcell hlt hxk hjg hrow hnj hb3 hkl hrn ho hb
          go_wp2_with fail
          refine HLD.out.mono ?_
          rintro e w4 ⟨a, rfl, hN4, -, hb4⟩
          obtain ⟨W5, hW5⟩ : ∃ W, w4.alloc (.cells #[.int .i64 (lv : Int), .slice a.A ([] : List Entry).length a.ca, .slice a.B row.length a.cb] 98) = W := ⟨_, rfl⟩
          simp only [List.length_nil] at hW5
          have hb5 : Below w4.heap.size w4 W5 := by rw [← hW5]; exact bl_alloc (Below.refl _ w4) _
          obtain ⟨q14, hq14⟩ : ∃ q, w4.heap.size = q := ⟨_, rfl⟩
          have X5 : W5.heap[q14]? = some (.cells #[.int .i64 (lv : Int), .slice a.A 0 a.ca, .slice a.B row.length a.cb] 98 (0, 0)) := by rw [← hW5, ← hq14]; exact blk_new w4 _
          have Z4 := blk_below hb4 Z3.out (blk_lt Z3.out)
          have Z5 := blk_below hb5 Z4 (blk_lt Z4)
          have S5 : ShT q14 q13 (lv : Int) a row.length kl2 ki2 W5.drew := ⟨X5, Z5⟩
          have N5 := Lib.hid ((hN4.below hb5).below (Below.refl W5.heap.size W5).drew)
          have B5 := Lib.hid (bl_then (bl_then B3.out B3.out.size hb4) (Nat.le_trans B3.out.size hb4.size) hb5)
          have O5 := Lib.hid (((O3.out.below hb4).below hb5).drew)
          have x0 := blk_cell X5 0
          have x1 := blk_cell X5 1
          have x2 := blk_cell X5 2
          have xl := blk_lt X5
          clear hN4 hb4 hb5 y0 y1 yl Z3 Z4 Z5 HLD B3 O3 z0 z1 hbl
          go_upto_region 18 with fail
          refine wp_region_noPanic ?_
          refine wp_region_held_drew (S := ShT q14 q13 (lv : Int) a row.length kl2 ki2) (by kernel_rfl) (S5) (fun hHeld => ?_)
          refine wpAnyH_take (i := 0) (oi := ⟨some 57, _, _, _, _, _⟩) (v := ?_) rfl (by kernel_rfl) (by kernel_rfl) (by kernel_rfl) (fun _ _ _ h => h) (Or.inl ⟨by rfl, ?_⟩) (by assumption) ?_
          rotate_left
          · (intro w hSw; (try dsimp only at hSw); obtain ⟨kx, kz⟩ := hSw; have kc0 := blk_cell kx 0; have kc1 := blk_cell kx 1; have kc2 := blk_cell kx 2; have klx := blk_lt kx; have kd0 := blk_cell kz 0; have kd1 := blk_cell kz 1; have klz := blk_lt kz; (go_simp <;> with_reducible rfl))
          try simp only [Act.put, List.setIfInBounds_toArray, List.set_cons_zero, List.set_cons_succ]
          refine wpAnyH_take (i := 1) (oi := ⟨some 58, _, _, _, _, _⟩) (v := ?_) rfl (by kernel_rfl) (by kernel_rfl) (by kernel_rfl) (fun _ _ _ h => h) (Or.inl ⟨by rfl, ?_⟩) (by assumption) ?_
          rotate_left
          · (intro w hSw; (try dsimp only at hSw); obtain ⟨kx, kz⟩ := hSw; have kc0 := blk_cell kx 0; have kc1 := blk_cell kx 1; have kc2 := blk_cell kx 2; have klx := blk_lt kx; have kd0 := blk_cell kz 0; have kd1 := blk_cell kz 1; have klz := blk_lt kz; (go_simp <;> with_reducible rfl))
          try simp only [Act.put, List.setIfInBounds_toArray, List.set_cons_zero, List.set_cons_succ]
          refine wpAnyH_take (i := 2) (oi := ⟨some 59, _, _, _, _, _⟩) (v := ?_) rfl (by kernel_rfl) (by kernel_rfl) (by kernel_rfl) (fun _ _ _ h => h) (Or.inl ⟨by rfl, ?_⟩) (by assumption) ?_
          rotate_left
          · (intro w hSw; (try dsimp only at hSw); obtain ⟨kx, kz⟩ := hSw; have kc0 := blk_cell kx 0; have kc1 := blk_cell kx 1; have kc2 := blk_cell kx 2; have klx := blk_lt kx; have kd0 := blk_cell kz 0; have kd1 := blk_cell kz 1; have klz := blk_lt kz; (go_simp <;> with_reducible rfl))
          try simp only [Act.put, List.setIfInBounds_toArray, List.set_cons_zero, List.set_cons_succ]
          refine wpAnyH_take (i := 3) (oi := ⟨some 60, _, _, _, _, _⟩) (v := ?_) rfl (by kernel_rfl) (by kernel_rfl) (by kernel_rfl) (fun _ _ _ h => h) (Or.inl ⟨by rfl, ?_⟩) (by assumption) ?_
          rotate_left
          · (intro w hSw; (try dsimp only at hSw); obtain ⟨kx, kz⟩ := hSw; have kc0 := blk_cell kx 0; have kc1 := blk_cell kx 1; have kc2 := blk_cell kx 2; have klx := blk_lt kx; have kd0 := blk_cell kz 0; have kd1 := blk_cell kz 1; have klz := blk_lt kz; (go_simp <;> with_reducible rfl))
          try simp only [Act.put, List.setIfInBounds_toArray, List.set_cons_zero, List.set_cons_succ]
          refine wpAnyH_take (i := 4) (oi := ⟨some 61, _, _, _, _, _⟩) (v := ?_) rfl (by kernel_rfl) (by kernel_rfl) (by kernel_rfl) (fun _ _ _ h => h) (Or.inl ⟨by rfl, ?_⟩) (by assumption) ?_
          rotate_left
          · (intro w hSw; (try dsimp only at hSw); obtain ⟨kx, kz⟩ := hSw; have kc0 := blk_cell kx 0; have kc1 := blk_cell kx 1; have kc2 := blk_cell kx 2; have klx := blk_lt kx; have kd0 := blk_cell kz 0; have kd1 := blk_cell kz 1; have klz := blk_lt kz; (go_simp <;> with_reducible rfl))
          try simp only [Act.put, List.setIfInBounds_toArray, List.set_cons_zero, List.set_cons_succ]
          refine wpAnyH_take (i := 5) (oi := ⟨some 62, _, _, _, _, _⟩) (v := ?_) rfl (by kernel_rfl) (by kernel_rfl) (by kernel_rfl) (fun _ _ _ h => h) (Or.inl ⟨by rfl, ?_⟩) (by assumption) ?_
          rotate_left
          · (intro w hSw; (try dsimp only at hSw); obtain ⟨kx, kz⟩ := hSw; have kc0 := blk_cell kx 0; have kc1 := blk_cell kx 1; have kc2 := blk_cell kx 2; have klx := blk_lt kx; have kd0 := blk_cell kz 0; have kd1 := blk_cell kz 1; have klz := blk_lt kz; (go_simp <;> with_reducible rfl))
          try simp only [Act.put, List.setIfInBounds_toArray, List.set_cons_zero, List.set_cons_succ]
          refine wpAnyH_take (i := 7) (oi := ⟨some 64, _, _, _, _, _⟩) (v := ?_) rfl (by kernel_rfl) (by kernel_rfl) (by kernel_rfl) (fun _ _ _ h => h) (Or.inl ⟨by rfl, ?_⟩) (by assumption) ?_
          rotate_left
          · (intro w hSw; (try dsimp only at hSw); obtain ⟨kx, kz⟩ := hSw; have kc0 := blk_cell kx 0; have kc1 := blk_cell kx 1; have kc2 := blk_cell kx 2; have klx := blk_lt kx; have kd0 := blk_cell kz 0; have kd1 := blk_cell kz 1; have klz := blk_lt kz; (go_simp <;> with_reducible rfl))
          try simp only [Act.put, List.setIfInBounds_toArray, List.set_cons_zero, List.set_cons_succ]
          refine wpAnyH_take (i := 8) (oi := ⟨some 65, _, _, _, _, _⟩) (v := ?_) rfl (by kernel_rfl) (by kernel_rfl) (by kernel_rfl) (fun _ _ _ h => h) (Or.inl ⟨by rfl, ?_⟩) (by assumption) ?_
          rotate_left
          · (intro w hSw; (try dsimp only at hSw); obtain ⟨kx, kz⟩ := hSw; have kc0 := blk_cell kx 0; have kc1 := blk_cell kx 1; have kc2 := blk_cell kx 2; have klx := blk_lt kx; have kd0 := blk_cell kz 0; have kd1 := blk_cell kz 1; have klz := blk_lt kz; (go_simp <;> with_reducible rfl))
          try simp only [Act.put, List.setIfInBounds_toArray, List.set_cons_zero, List.set_cons_succ]
          refine wpAnyH_ready (rs := [6]) (by kernel_rfl) (by simp) ?_
          refine AllReadyH.cons rfl (fun K hK => ?_) AllReadyH.nil
          go_simp
          go_at_call 57
          refine (nodeLast_calls W5.drew a ⟨lv, [], row⟩ N5.out).mono ?_
          rintro e w6 ⟨rfl, hb6⟩
          rw [HKL.out]
          have S6 := S5.below hb6
          have B6 := Lib.hid hb6
          clear hb6
          refine hK.out _ _ (by assumption) (fun _ => ?_)
          clear hK K
          try simp only [Act.put, List.setIfInBounds_toArray, List.set_cons_zero, List.set_cons_succ]
          refine wpAnyH_take (i := 9) (oi := ⟨some 66, _, _, _, _, _⟩) (v := ?_) rfl (by kernel_rfl) (by kernel_rfl) (by kernel_rfl) (fun _ _ _ h => h) (Or.inl ⟨by rfl, ?_⟩) (by assumption) ?_
          rotate_left
          · (intro w hSw; (try dsimp only at hSw); obtain ⟨kx, kz⟩ := hSw; have kc0 := blk_cell kx 0; have kc1 := blk_cell kx 1; have kc2 := blk_cell kx 2; have klx := blk_lt kx; have kd0 := blk_cell kz 0; have kd1 := blk_cell kz 1; have klz := blk_lt kz; (go_simp <;> with_reducible rfl))
          try simp only [Act.put, List.setIfInBounds_toArray, List.set_cons_zero, List.set_cons_succ]
          refine wpAnyH_take (i := 10) (oi := ⟨some 67, _, _, _, _, _⟩) (v := ?_) rfl (by kernel_rfl) (by kernel_rfl) (by kernel_rfl) (fun _ _ _ h => h) (Or.inl ⟨by rfl, ?_⟩) (by assumption) ?_
          rotate_left
          · (intro w hSw; (try dsimp only at hSw); obtain ⟨kx, kz⟩ := hSw; have kc0 := blk_cell kx 0; have kc1 := blk_cell kx 1; have kc2 := blk_cell kx 2; have klx := blk_lt kx; have kd0 := blk_cell kz 0; have kd1 := blk_cell kz 1; have klz := blk_lt kz; (go_simp <;> with_reducible rfl))
          try simp only [Act.put, List.setIfInBounds_toArray, List.set_cons_zero, List.set_cons_succ]
          refine wpAnyH_done (by kernel_rfl) ?_ _
          refine NoPanic.normal ?_
          have X6 := S6.1
          have x0 := blk_cell X6 0
          have x1 := blk_cell X6 1
          have x2 := blk_cell X6 2
          have xl := blk_lt X6
          have hbd : Below W5.heap.size W5 w6 := bl_then (Below.refl W5.heap.size W5).drew (Nat.le_refl _) B6.out
          have BB6 := Lib.hid (bl_then B5.out B5.out.size hbd)
          have O6 := Lib.hid (O5.out.below B6.out)
          have RR6 := Lib.hid (N5.out.hK.below B6.out (Nat.le_refl _))
          have hz6 := Lib.hid BB6.out.size
          have tKn : Hid ((Value.agg #[.string ⟨#[]⟩, .int .u64 0]).cells.size = 2) := rfl
          have m1 : Hid ((done.length + row.length) * 24 ≤ 140737488355328) := by show _ ≤ _; have := hfl.out; omega
          have m2c : Hid (done.length + row.length ≤ 140737488355328) := by show _ ≤ _; have := hfl.out; omega
          clear S5 hbd B6 hHeld S6
          go_wp2_with (at_builtin; refine at_list rfl (fun K' hK' => op_ownN Kid.ok _ _ _ _ _ _ rfl Tryz.underlying96 infoKn tKn.out w0.heap.size _ done a.B a.cb row row.length rfl RN.out rfl rfl O6.out RR6.out hz6.out m1.out m2c.out (fun g7 cap7 w7 ho7 hg7 hat7 hlt7 => hK' _ _ ?_)); have O7 := Lib.hid ho7; have B7 := Lib.hid (BB6.out.grown hg7 hz6.out (fun k e => (O6.out.lt _ e).1)); clear ho7 hg7 hat7 hlt7)
          go_roundg m2
          case measure => omega
          case rel => exact ⟨j + 1, done ++ row, by go_num, by omega, O7.out, B7.out, htk.out⟩
        · have hjj : ¬ (j : Int) < (ks.length : Int) := by omega
          have hfull : Hid (done = ks') := by show _ = _; rw [hd.out, List.take_of_length_le (by rw [← hgrp.out]; omega), groupK_flat]
          rw [hfull.out] at ho
          obtain ⟨A3, c3, rfl, j1, j2, j3, hA3⟩ := ho.out.rd Kid.ok
          have HA3 := Lib.hid hA3
          have HU0 : Hid (∀ k, u0.ownBlock = some k → k < w0.heap.size) := fun k hk => by obtain ⟨vs, o1, _⟩ := hs.out.rws; exact (o1.lt k hk).2
          clear hA3
          have R3 := Lib.hid j3
          have hW := Lib.hid (bl_then hs.out.below hs.out.below.size hb.out)
          obtain ⟨vs, hO, hvl, hvs⟩ := hs.out.rws.below hb.out
          have OV := Lib.hid hO
          have VL := Lib.hid hvl
          have VS := Lib.hid hvs
          have hul := hs.out.ulen
          have hvl30 : Hid (vs.length ≤ 30) := by show _ ≤ _; rw [hvl]; exact hul
          have m1 : Hid ((vs.length + 1) * 24 ≤ 140737488355328) := by show _ ≤ _; have := hvl30.out; omega
          have m2 : Hid (vs.length + 1 ≤ 140737488355328) := by show _ ≤ _; have := hvl30.out; omega
          have hT'len := hs.out.len
          have HL20 : Hid (T'.length + 1 ≤ 20) := hT'len
          clear hjn j3 hO hvl hvs hul hT'len hj
          go_wp2_with fail
          refine (lasts_calls _ A3 c3 ks' R3.out (by omega)).mono ?_
          rintro e w5 ⟨v5, rfl, ho5, hb5⟩
          have hu9 : ∀ k, u0.ownBlock = some k → k < wr.heap.size := fun k hk => (OV.out.lt k hk).2
          obtain ⟨r5, rfl, hr5⟩ := Own.row (base := w.heap.size) (u := u0) strOk ho5 hW.out.size hu9
          have HR5 := Lib.hid hr5
          have O5 := Lib.hid (OV.out.below hb5)
          have B5 := Lib.hid (bl_then hW.out hW.out.size hb5)
          have hz5 := Lib.hid B5.out.size
          have V5 : Hid (∀ (i : Nat) (r : RowV) (l : List Str), vs[i]? = some r → up[i]? = some l → r.len = l.length ∧ l.length ≤ r.cap ∧ Rd strEnc 1 w5 r.A l ∧ ∀ a, r.A = some a → w.heap.size ≤ a.block ∧ a.block < w5.heap.size ∧ some a.block ≠ u0.ownBlock) := fun i r l h1 h2 => by
            obtain ⟨q1, q2, q3, q4⟩ := VS.out i r l h1 h2
            exact ⟨q1, q2, q3.below hb5 (Nat.le_refl _), fun a ha => ⟨(q4 a ha).1, Nat.lt_of_lt_of_le (q4 a ha).2.1 hb5.size, (q4 a ha).2.2⟩⟩
          have R5 := Lib.hid (R3.out.below hb5 (Nat.le_refl _))
          obtain ⟨rA, rl, rc⟩ := r5
          dsimp only at HR5 hr5
          clear ho5 hb5 hu9 hr5
          go_wp2_with (at_builtin; refine ap_own RowV.ok rfl _ _ _ _ _ _ rfl Tryz.underlying23 infoSs rfl w.heap.size u0 vs ⟨rA, rl, rc⟩ #[_] rfl rfl w5.heap.size rfl rfl O5.out hz5.out m1.out m2.out ?_; intro g8 cap8 w8 o8 hg8 hat8 hlt8)
          have P8 := Lib.hid (Rws.push (g := g8) (r := ⟨rA, rl, rc⟩) V5.out VL.out o8 hg8 rfl hat8 HR5.out)
          have B8 := Lib.hid (B5.out.grown hg8 hz5.out (fun k e => (O5.out.lt k e).1))
          have R8 := Lib.hid (R5.out.grown hg8 (fun x hx e => by have h1 := HA3.out x hx; have h2 := HU0.out _ e.symm; omega))
          have S8 : Hid (ShS w C E (lastsOf ([⟨kl, ki⟩] :: T)) T' ks' A3 c3 (.slice (some ⟨g8, 0, none⟩) (vs.length + 1) cap8) (up ++ [ks'.map Kid.last]) w8) := {
            tower := hs.out.tower.2
            rd := R8.out
            cap := j1
            big := j2
            rws := P8.out
            below := B8.out
            eq := by have := hs.out.eq; simpa [lastsOf] using this
            len := Nat.le_of_succ_le HL20.out
            ulen := by have := hvl30.out; have := VL.out; have := hs.out.ulen; have h1 := congrArg List.length hs.out.eq; simp [lastsOf] at h1 ⊢; omega }
          clear o8 hg8 hat8 hlt8
          go_roundg T'.length
          case measure => have := HLV.out; omega
          case rel => exact ⟨T', ks', A3, c3, up ++ [ks'.map Kid.last], rfl, by have := HLV.out; subst this; go_num, rfl, S8.out⟩
end
end Go.Proofs.YtikgplhcadomcaaGreat
