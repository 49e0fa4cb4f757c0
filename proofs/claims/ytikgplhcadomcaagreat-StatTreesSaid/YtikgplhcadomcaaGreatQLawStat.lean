/- law29.awake, law29.StatTrees -/
import Derived.Test.YtikgplhcadomcaaGreatQStatTree
import Derived.Test.YtikgplhcadomcaaGreatQLevQ
import Derived.Test.YtikgplhcadomcaaGreatQLevels
namespace Go.Proofs.YtikgplhcadomcaaGreat
open Go.RowKit
set_option linter.unusedVariables false
set_option linter.unusedSimpArgs false
theorem bytes_one : (NodeP.bytes ⟨0, [⟨⟨#[97]⟩, ⟨#[49]⟩⟩], []⟩).length = 6 := by first | rfl | kernel_rfl
theorem count_one {K : Cn} (h : CountL K [⟨⟨#[97]⟩, ⟨#[49]⟩⟩]) : K.keys = 1 ∧ K.leaves = 1 ∧ K.inner = 0 ∧ K.ds.length = 1 ∧ K.bytes = 6 := by
  have h1 := h.one (by rw [levels_one]; rfl)
  refine ⟨h.keys, ?_, h1.2, ?_, ?_⟩
  · rw [h.leaves, levels_one]; rfl
  · rw [h.ds, levels_one]; rfl
  · rw [h1.1, bytes_one]; rfl
set_option maxRecDepth 100000 in
set_option maxHeartbeats 4000000 in
theorem awake29_calls (w : World) : Calls Tryz.prog 24 #[] w fun e w' => e = .returned (.bool true) ∧ Below w.heap.size w w' := by
  have hr : right [(⟨⟨#[97]⟩, ⟨#[49]⟩⟩ : Entry)] = 0 := by decide
  have HM : Hid (MapOk [(⟨⟨#[97]⟩, ⟨#[49]⟩⟩ : Entry)]) := mapOk_of hr (by simp)
  go_enter Tryz.func24, Tryz.ntmps24
  go_wp2_with fail
  refine (store_calls _).mono ?_
  rintro e w1 ⟨s, p, g, F, rfl, ht1, hF1, hb1⟩
  have hb2 : Below w1.heap.size w1 (w1.alloc (.cells #[.string ⟨#[97]⟩, .string ⟨#[49]⟩] 113)) := bl_alloc (Below.refl _ w1) _
  have HT2 := Lib.hid (ht1.below hb2)
  have HF := Lib.hid hF1
  have HR2 : Hid (Rd Entry.enc 2 (w1.alloc (.cells #[.string ⟨#[97]⟩, .string ⟨#[49]⟩] 113)) (some ⟨w1.heap.size, 0, none⟩) [⟨⟨#[97]⟩, ⟨#[49]⟩⟩]) := Rd.lit (blk_new w1 _) rfl
  have B2 := Lib.hid (bl_then hb1 hb1.size hb2)
  have HBD := Lib.hid (build_calls HT2.out (some ⟨w1.heap.size, 0, none⟩) 1 [⟨⟨#[97]⟩, ⟨#[49]⟩⟩] (Nat.le_refl _) (by omega) HR2.out (by simp) (by intro x hx; simp at hx; subst hx; exact ⟨by show (1 : Nat) ≤ _; omega, by show (1 : Nat) ≤ _; omega⟩) (by decide))
  clear ht1 hF1 hb1 hb2
  go_wp2_with fail
  refine HBD.out.mono ?_
  rintro e w3 ⟨root, rfl, hbt⟩
  have hbuilt : BuiltR F (w1.alloc (.cells #[.string ⟨#[97]⟩, .string ⟨#[49]⟩] 113)) w3 s p g [] [⟨⟨#[97]⟩, ⟨#[49]⟩⟩] root (44 * ([(⟨⟨#[97]⟩, ⟨#[49]⟩⟩ : Entry)].length : Nat)) := by
    rcases hbt with ⟨hx, _⟩ | ⟨_, hx⟩
    · exact absurd hr hx
    · exact hx
  have B3 : Hid (Below w.heap.size w w3) := bl_both B2.out (hbuilt.bl B2.out.size HF.out)
  obtain ⟨F', C', t1, t2, t3, t4, t5, t6⟩ := hbuilt
  have HS := Lib.hid (statTree_calls HM.out t1 t6)
  rw [hr]
  clear hbt HBD HR2 hr t1 t2 t3 t4 t5 t6
  go_wp2_with fail
  refine HS.out.mono ?_
  rintro e w4 ⟨K, rfl, hk, hb4⟩
  obtain ⟨k1, k2, k3, k4, k5⟩ := count_one hk.l
  rw [k1, k2, k3, k4, k5]
  have B4 := Lib.hid (bl_both B3.out (bl_then (Below.refl w.heap.size w3) B3.out.size hb4))
  clear hb4 HS
  go_wp2
  go_ret
  exact ⟨rfl, by show Below _ _ _; first | exact bl_alloc B4.out _ | exact (bl_alloc B4.out _).drew⟩
set_option maxRecDepth 100000 in
set_option maxHeartbeats 4000000 in
theorem statTrees_calls (w : World) (A : Option Addr) (c : Nat) (l : List Entry) (hm : l.length ≤ 9223372036854775807) (hcap : l.length ≤ c) (hbig : c ≤ 9223372036854775807) (hs : ∀ x ∈ l, x.key.size ≤ 9223372036854775807 ∧ x.val.size ≤ 9223372036854775807) (h : Rd Entry.enc 2 w A l) :
    Calls Tryz.prog 5 #[.slice A l.length c] w fun e w' => e = .returned (.bool true) ∧ Below w.heap.size w w' := by
  have HS := Lib.hid hs
  have H := Lib.hid h
  clear hs h
  go_enter Tryz.func5, Tryz.ntmps5
  go_wp2_with fail
  refine (awake29_calls _).mono ?_
  rintro e w1 ⟨rfl, hb1⟩
  have B1 := Lib.hid hb1
  have HM := Lib.hid (Map_calls w1 A c l hm hcap HS.out (H.out.below hb1 (Nat.le_refl _)))
  clear hb1
  cases hmap : isMap l with
  | false =>
    have HMP := Lib.hid hmap
    clear hmap
    go_wp2_with fail
    refine HM.out.mono ?_
    rintro e w2 ⟨rfl, hb2⟩
    rw [HMP.out]
    have B2 := Lib.hid (bl_then B1.out B1.out.size hb2)
    clear hb2
    go_wp2
    go_ret
    exact ⟨rfl, B2.out⟩
  | true =>
    have HMP := Lib.hid hmap
    obtain ⟨hr, hl60, hsz⟩ := isMap_split hmap
    have HR := Lib.hid hr
    have HZ := Lib.hid hsz
    have HMO := Lib.hid (mapOk_of hr hl60)
    clear hmap hr hsz
    go_wp2_with fail
    refine HM.out.mono ?_
    rintro e w2 ⟨rfl, hb2⟩
    rw [HMP.out]
    have B2 := Lib.hid (bl_then B1.out B1.out.size hb2)
    clear hb2 HM
    go_wp2_with fail
    refine (store_calls _).mono ?_
    rintro e w3 ⟨s, p, g, F, rfl, ht3, hF3, hb3⟩
    have B3 := Lib.hid (bl_then B2.out B2.out.size hb3)
    have HF : Hid (∀ i, F i → w.heap.size ≤ i) := fun i hi => Nat.le_trans B2.out.size (hF3 i hi)
    have HBD := Lib.hid (build_calls ht3 A c l hcap hbig (H.out.below B3.out (Nat.le_refl _)) hl60 (fun x hx => by have := HZ.out x hx; omega) (by show (1 : Int) + 44 * l.length < 4096; omega))
    clear ht3 hF3 hb3
    go_wp2_with fail
    refine HBD.out.mono ?_
    rintro e w4 ⟨root, rfl, hbt⟩
    have hbuilt : BuiltR F w3 w4 s p g [] l root (44 * l.length) := by
      rcases hbt with ⟨hx, _⟩ | ⟨_, hx⟩
      · exact absurd HR.out hx
      · exact hx
    have B4 : Hid (Below w.heap.size w w4) := bl_both B3.out (hbuilt.bl B3.out.size HF.out)
    obtain ⟨F', C', t1, t2, t3, t4, t5, t6⟩ := hbuilt
    have T4 := Lib.hid t1
    have RT : Hid (RootT C' l root) := t6
    have HT := Lib.hid (statTree_calls HMO.out T4.out RT.out)
    rw [HR.out]
    clear hbt HBD t1 t2 t3 t4 t5 t6
    obtain ⟨LV, hLV⟩ : ∃ LV, levels l = LV := ⟨_, rfl⟩
    have HLV := Lib.hid hLV
    have hlv : LV.length ≤ 21 := by rw [← hLV]; exact levT_len _ _ _
    have HLL : Hid (∀ x ∈ LV, x.length ≤ 60) := by rw [← hLV]; exact levT_lens l hl60
    clear hLV
    go_wp2_with fail
    refine HT.out.mono ?_
    rintro e w5 ⟨K1, rfl, hk1, hb5⟩
    obtain ⟨lf, hlf⟩ : ∃ lf, K1.leaves = lf := ⟨_, rfl⟩
    obtain ⟨inn, hinn⟩ : ∃ inn, K1.inner = inn := ⟨_, rfl⟩
    obtain ⟨bt, hbt⟩ : ∃ bt, K1.bytes = bt := ⟨_, rfl⟩
    have hd1 : K1.ds.length = LV.length := by rw [hk1.l.ds, HLV.out]; simp
    have HLF : Hid (lf = (((LV.map List.length).headD 0 : Nat) : Int)) := by show _ = _; rw [← hlf, hk1.l.leaves, HLV.out]
    have HAL : Hid (lf + inn = (((LV.map List.length).sum : Nat) : Int)) := by show _ = _; rw [← hlf, ← hinn, hk1.l.all, HLV.out]
    rw [hk1.l.keys, hlf, hinn, hbt, hd1]
    clear hlf hinn hbt hd1 hk1
    obtain ⟨W5, hW5⟩ : ∃ W, w5.alloc (.cells #[.int .i64 l.length, .int .i64 lf, .int .i64 inn, .int .i64 LV.length, .int .i64 bt] 41) = W := ⟨_, rfl⟩
    have hb6 : Below w5.heap.size w5 W5 := by rw [← hW5]; exact bl_alloc (Below.refl _ w5) _
    obtain ⟨q6, hq6⟩ : ∃ q, w5.heap.size = q := ⟨_, rfl⟩
    have Z5 : Hid (W5.heap[q6]? = some (.cells #[.int .i64 l.length, .int .i64 lf, .int .i64 inn, .int .i64 LV.length, .int .i64 bt] 41 (0, 0))) := by rw [← hW5, ← hq6]; exact blk_new w5 _
    have BB5 : Hid (Below w4.heap.size w4 W5) := bl_then hb5 hb5.size hb6
    have HDP := Lib.hid (statDepths_calls HMO.out (T4.out.below BB5.out) RT.out)
    clear hb5 hb6 HT
    go_wp2_with fail
    refine HDP.out.mono ?_
    rintro e w6 ⟨K2, A6, c6, rfl, hR6, hk2, hb6⟩
    obtain ⟨ds, hds⟩ : ∃ ds, K2.ds = ds := ⟨_, rfl⟩
    rw [hds] at hR6 ⊢
    have HDS : Hid (ds = (LV.map fun x => (x.length : Int)).reverse) := by show _ = _; rw [← hds, hk2.l.ds, HLV.out]
    have hdl : ds.length = LV.length := by rw [HDS.out]; simp
    rw [hdl]
    have Z6 := Lib.hid (blk_below hb6 Z5.out (blk_lt Z5.out))
    have BB6 := Lib.hid (bl_then BB5.out BB5.out.size hb6)
    have R6 := Lib.hid hR6
    have HDL := Lib.hid hdl
    have HWD := Lib.hid (statWidest_calls HMO.out (T4.out.below BB6.out) RT.out)
    clear hb6 hR6 hds hdl hk2 HDP hW5 hq6
    go_wp2_with fail
    refine HWD.out.mono ?_
    rintro e w7 ⟨K3, rfl, -, hb7⟩
    have Z7 := Lib.hid (blk_below hb7 Z6.out (blk_lt Z6.out))
    have BB7 := Lib.hid (bl_then BB6.out BB6.out.size hb7)
    have B7 : Hid (Below w.heap.size w w7) := bl_then B4.out B4.out.size BB7.out
    have R7 := Lib.hid (R6.out.below hb7 (Nat.le_refl _))
    clear hb7 HWD
    go_wp2_with fail
    refine (levels_calls _ A c l hcap hl60 (fun x hx => by have := HZ.out x hx; omega) (H.out.below B7.out (Nat.le_refl _))).mono ?_
    rintro e w8 ⟨v8, rfl, hv8, hb8⟩
    rw [HLV.out] at hv8
    obtain ⟨A8, c8, rfl, hc8, hbig8, hR8⟩ := hv8.rwr
    have Z8 := Lib.hid (blk_below hb8 Z7.out (blk_lt Z7.out))
    have B8 := Lib.hid (bl_then B7.out B7.out.size hb8)
    have R68 := Lib.hid (R7.out.below hb8 (Nat.le_refl _))
    obtain ⟨vs, v1, v2, v3⟩ := hR8
    have VL := Lib.hid v1
    have V2 := Lib.hid v2
    have V3 := Lib.hid v3
    have x0 := blk_cell Z8.out 0
    have x1 := blk_cell Z8.out 1
    have x2 := blk_cell Z8.out 2
    have x3 := blk_cell Z8.out 3
    have xl := blk_lt Z8.out
    clear hv8 hb8 v1 v2 v3
    go_wp2
    go_loopg [13, 81] LV.length (fun m nd i wr => ∃ j : Nat, i = .int .i64 j ∧ nd = .int .i64 (((LV.take j).map List.length).sum : Nat) ∧ j + m = LV.length ∧ wr = w8)
    case atStart => exact ⟨0, rfl, rfl, by omega, rfl⟩
    case round =>
      obtain ⟨j, rfl, rfl, hj, rfl⟩ := hrel
      by_cases hjn : j < LV.length
      · obtain ⟨m', hm'⟩ : ∃ m', gk = m' + 1 := ⟨gk - 1, by omega⟩
        subst hm'
        have hji : (j : Int) < (LV.length : Int) := by omega
        have hjz : (0 : Int) ≤ (j : Int) := by omega
        have hvl : j < vs.length := by rw [VL.out]; exact hjn
        rcases V2.out with h0 | ⟨b, off, rfl, hbl, hc⟩
        · simp [h0] at hvl
        rcases R68.out with h0 | ⟨b6, off6, rfl, hbl6, hc6⟩
        · have := HDL.out; rw [h0] at this; simp at this; omega
        obtain ⟨r, hvn⟩ : ∃ r, vs[j]? = some r := ⟨_, List.getElem?_eq_getElem hvl⟩
        obtain ⟨x, hxn⟩ : ∃ x, LV[j]? = some x := ⟨_, List.getElem?_eq_getElem hjn⟩
        obtain ⟨p1, -, -⟩ := V3.out j _ _ hvn hxn
        have c0 : wr.cell? ⟨b, off + j, none⟩ = some (.slice r.A r.len r.cap) := by have := hc j _ hvn 0 _ rfl; simpa using this
        obtain ⟨d, hd⟩ : ∃ d, LV.length - 1 - j = d := ⟨_, rfl⟩
        have hdn : d < LV.length := by omega
        have hidx : (LV.length : Int) - 1 - (j : Int) = (d : Int) := by omega
        have hdi : (d : Int) < (LV.length : Int) := by omega
        have hdz : (0 : Int) ≤ (d : Int) := by omega
        have hdx : ds[d]? = some ((x.length : Nat) : Int) := by
          rw [HDS.out, List.getElem?_reverse (by simpa using hdn), List.length_map, List.getElem?_map, show LV.length - 1 - d = j by omega, hxn]
          rfl
        have d0 : wr.cell? ⟨b6, off6 + d, none⟩ = some (.int .i64 (x.length : Nat)) := by have := hc6 d _ hdx 0 _ rfl; simpa using this
        have hx60 : x.length ≤ 60 := HLL.out _ (List.mem_of_getElem? hxn)
        have hsum : ((LV.take (j + 1)).map List.length).sum = ((LV.take j).map List.length).sum + x.length := by
          rw [List.take_add_one, hxn, List.map_append, List.sum_append]; simp
        have hbs : ((LV.take j).map List.length).sum ≤ 60 * LV.length := by
          have hall : ∀ l : List (List Str), (∀ x ∈ l, x.length ≤ 60) → (l.map List.length).sum ≤ 60 * l.length := by
            intro l
            induction l with
            | nil => intro _; simp
            | cons x l ih => intro hx; have h1 := hx x (by simp); have h2 := ih (fun y hy => hx y (by simp [hy])); simp; omega
          have := hall (LV.take j) (fun x hx => HLL.out x (List.mem_of_mem_take hx))
          have h2 : (LV.take j).length ≤ LV.length := by rw [List.length_take]; omega
          omega
        have hlf0 : Hid (j = 0 → lf = ((x.length : Nat) : Int)) := fun e => by
          subst e
          rw [HLF.out]
          rw [List.headD_eq_head?_getD, List.head?_map, List.head?_eq_getElem?, hxn]
          rfl
        have hw1 : IntKind.i64.wrap ((LV.length : Int) - 1) = (LV.length : Int) - 1 := wrapI (by omega)
        have hw2 : IntKind.i64.wrap ((d : Int)) = (d : Int) := wrapI (by omega)
        obtain ⟨S, hS⟩ : ∃ S, ((LV.take j).map List.length).sum = S := ⟨_, rfl⟩
        rw [hS] at hsum hbs ⊢
        have HS2 := Lib.hid hsum
        clear hc hc6 hvl hvn hxn hdx hS hsum
        obtain ⟨rA, rl, rc⟩ := r
        dsimp only at p1 c0
        subst p1
        have hw3 : IntKind.i64.wrap ((S : Int) + (x.length : Int)) = (S : Int) + x.length := wrapI (by omega)
        by_cases hj0 : j = 0
        case' pos =>
          have hjb : ((j : Int) == 0) = true := by rw [beq_iff_eq]; omega
          have hlfb : (lf != ((x.length : Nat) : Int)) = false := by rw [hlf0.out hj0]; simp
        case' neg =>
          have hjb : ((j : Int) == 0) = false := by rw [beq_eq_false_iff_ne]; omega
        all_goals
          clear hj0
          go_wp2
          go_roundg m'
          case measure => omega
          case rel => exact ⟨j + 1, by go_num, by rw [HS2.out]; go_num, by omega, rfl⟩
      · have hjj : ¬ (j : Int) < (LV.length : Int) := by omega
        have hful : LV.take j = LV := List.take_of_length_le (by omega)
        rw [hful]
        obtain ⟨S, hS⟩ : ∃ S, (LV.map List.length).sum = S := ⟨_, rfl⟩
        rw [hS] at HAL ⊢
        have hal : lf + inn = (S : Int) := HAL.out
        have hSb : S ≤ 2000 := by
          rw [← hS]
          have hall : ∀ l : List (List Str), (∀ x ∈ l, x.length ≤ 60) → (l.map List.length).sum ≤ 60 * l.length := by
            intro l
            induction l with
            | nil => intro _; simp
            | cons x l ih => intro hx; have h1 := hx x (by simp); have h2 := ih (fun y hy => hx y (by simp [hy])); simp; omega
          have := hall LV HLL.out
          omega
        have hw1 : IntKind.i64.wrap (S : Int) = (S : Int) := wrapI (by omega)
        clear hS hful hjn
        go_wp2
        go_ret
        exact ⟨rfl, B8.out⟩
theorem statTrees_row (w : World) (v0 : Value) (l : List Entry) (h0 : Came w v0 l) :
    Calls Tryz.prog 5 #[v0] w fun e w' => e = .returned (.bool true) ∧ Below w.heap.size w w' := by
  obtain ⟨A, c, rfl, k1, k2, k3, k4, -⟩ := h0
  exact statTrees_calls w A c l (by omega) k1 k2 k4 k3
end Go.Proofs.YtikgplhcadomcaaGreat
