/- stat: counted, Tree, Depths, Widest -/
import Derived.Test.YtikgplhcadomcaaGreatKY
import Derived.Test.YtikgplhcadomcaaGreatKV
import Derived.Test.YtikgplhcadomcaaGreatQLevP
import Derived.Test.YtikgplhcadomcaaGreatQLawTree
namespace Go.Proofs.YtikgplhcadomcaaGreat
open Go.RowKit
set_option linter.unusedVariables false
set_option linter.unusedSimpArgs false
def RootT (C : List (List Int)) (E : List Entry) (root : Int) : Prop := (E = [] ∧ root = 0) ∨ ∃ k T, root = k.id ∧ Tower C ([k] :: T) E ∧ T.length ≤ 20 ∧ ∀ x ∈ T, 1 < x.length
theorem RootT.built {w : World} {s p g : Nat} {F : Nat → Prop} {C : List (List Int)} {E : List Entry} {root : Int} (h : RootT C E root) (ht : TSt w s p g F C) : BuiltR F w w s p g C E root 0 :=
  ⟨F, C, ht, Chg.refl _ _, fun i hi => .inl hi, More.refl _, by omega, h⟩
def Cn.zero : Cn := ⟨0, 0, 0, 0, [], 0⟩
/-- What a tree has, counted. -/
def CntE (C : List (List Int)) (E : List Entry) (root : Int) (K : Cn) : Prop := (E = [] ∧ root = 0 ∧ K = Cn.zero) ∨ ∃ k T N, root = k.id ∧ Tower C ([k] :: T) E ∧ T.length ≤ 20 ∧ (∀ x ∈ T, 1 < x.length) ∧ SubN C T.length k E N ∧ SumOk (([k] :: T).map List.length) N ∧ K = Cn.zero.plus 0 (T.length + 1) E.length N
/-- The same, told by the levels. -/
structure CountL (K : Cn) (E : List Entry) : Prop where
  keys : K.keys = E.length
  ds : K.ds = ((levels E).map fun x => (x.length : Int)).reverse
  leaves : K.leaves = ((((levels E).map List.length).headD 0 : Nat) : Int)
  all : K.leaves + K.inner = ((((levels E).map List.length).sum : Nat) : Int)
  one : (levels E).length = 1 → K.bytes = (NodeP.bytes ⟨0, E, []⟩).length ∧ K.inner = 0
theorem CntE.l {C : List (List Int)} {E : List Entry} {root : Int} {K : Cn} (h : CntE C E root K) : CountL K E := by
  rcases h with ⟨rfl, -, rfl⟩ | ⟨k, T, N, -, t1, t2, t3, t4, ⟨a1, a2, a3⟩, rfl⟩
  · exact ⟨rfl, rfl, rfl, rfl, fun h => by cases h⟩
  · have hl := tower_levels t1 t2 t3
    have hlen : (levels E).map List.length = (([k] :: T).map List.length).reverse := by
      rw [← hl, List.map_reverse, List.map_map]
      congr 1
      exact List.map_congr_left fun x _ => by simp
    have hn : (levels E).length = T.length + 1 := by
      have := congrArg List.length hlen
      simpa using this
    generalize hM : ([k] :: T).map List.length = M at *
    have hML : M.length = T.length + 1 := by rw [← hM]; simp
    refine ⟨by show (0 : Int) + (E.length : Int) = _; omega, ?_, ?_, ?_, fun h1 => ?_⟩
    · show dsP [] 0 (T.length + 1) N.cv = _
      have : ((levels E).map fun x => (x.length : Int)).reverse = M.map fun n : Nat => (n : Int) := by
        rw [show ((levels E).map fun x => (x.length : Int)) = ((levels E).map List.length).map fun n : Nat => (n : Int) by rw [List.map_map]; rfl, hlen, ← List.map_reverse, List.reverse_reverse]
      rw [this]
      apply List.ext_getElem?
      intro d
      rw [dsP_get, List.getElem?_map, a3]
      simp only [List.length_nil, Nat.zero_add, Nat.zero_max, Nat.zero_le, if_true, Nat.sub_zero, List.getD_eq_getElem?_getD, List.getElem?_nil, Option.getD_none, Int.zero_add]
      by_cases hd : d < M.length
      · rw [if_pos (by omega), List.getElem?_eq_getElem hd]; rfl
      · rw [if_neg (by omega), List.getElem?_eq_none (by omega)]; rfl
    · show (0 : Int) + (N.lf : Int) = _
      rw [a1, hlen]
      have : M.reverse.headD 0 = M.getLastD 0 := by
        rw [List.headD_eq_head?_getD, List.head?_reverse, List.getLastD_eq_getLast?]
      rw [this]
      omega
    · show (0 : Int) + (N.lf : Int) + (0 + (N.inn : Int)) = _
      rw [hlen, List.sum_reverse, ← a2]
      omega
    · have hT : T.length = 0 := by omega
      rw [hT] at t4
      obtain ⟨-, rfl⟩ := t4
      exact ⟨by show (0 : Int) + _ = _; rw [Int.zero_add]; rfl, rfl⟩
def CdR (w w' : World) (s : Nat) (C : List (List Int)) (E : List Entry) (root : Int) (e : Ending) : Prop := ∃ cc ud K, e = .returned (.tuple #[.pointer (some ⟨cc, 0, none⟩), .int .i64 0]) ∧ w'.heap[cc]? = some (.cells ((K.cells s ud).setIfInBounds 4 (.int .i64 K.ds.length)) 135 (0, 0)) ∧ Own intEnc 1 3 0 w' ud K.ds ∧ CntE C E root K ∧ Below w.heap.size w w'
theorem tower_sum {C : List (List Int)} {E : List Entry} (hm : MapOk E) : ∀ (T : List (List Kid)) (ks : List Kid), Tower C (ks :: T) E → ((ks :: T).map List.length).sum ≤ 60 * (T.length + 1)
  | [], ks, h => by have := (tower_good hm h).len; simp; omega
  | ks' :: T, ks, h => by
    have h1 := (tower_good hm h).len
    have h2 := tower_sum hm T ks' h.2
    simp only [List.map_cons, List.sum_cons, List.length_cons] at h2 ⊢
    omega
section
variable {w w2 : World} {s p g : Nat} {F : Nat → Prop} {C : List (List Int)}
theorem cnT_new (w : World) (s : Nat) : CnT (fun i => i = w.heap.size) w.heap.size s (.slice none 0 0) Cn.zero (w.alloc (.cells #[.pointer (some ⟨s, 0, none⟩), .int .i64 0, .int .i64 0, .int .i64 0, .int .i64 0, .int .i64 0, .slice none 0 0, .int .i64 0] 135)) :=
  ⟨blk_new w _, Own.nil, (fun k hk => by cases hk), rfl, fun i hi => by subst hi; simp⟩
set_option maxRecDepth 100000 in
set_option maxHeartbeats 4000000 in
theorem counted_calls {E : List Entry} {root : Int} (hm : MapOk E) (ht : TSt w2 s p g F C) (h : RootT C E root) : Calls Tryz.prog 77 #[.pointer (some ⟨s, 0, none⟩), .int .u64 root] w2 fun e w' => CdR w2 w' s C E root e := by
  obtain ⟨W1, hW1⟩ : ∃ W, w2.alloc (.cells #[.pointer (some ⟨s, 0, none⟩), .int .i64 0, .int .i64 0, .int .i64 0, .int .i64 0, .int .i64 0, .slice none 0 0, .int .i64 0] 135) = W := ⟨_, rfl⟩
  obtain ⟨cc, hcc⟩ : ∃ q, w2.heap.size = q := ⟨_, rfl⟩
  have HG : Hid (CnT (fun i => i = cc) cc s (.slice none 0 0) Cn.zero W1) := by rw [← hW1, ← hcc]; exact cnT_new w2 s
  have hb1 : Below w2.heap.size w2 W1 := by rw [← hW1]; exact bl_alloc (Below.refl _ w2) _
  have B1 := Lib.hid hb1
  have HL := Lib.hid (list_calls hm ((h.built ht).below hb1))
  have T1 := Lib.hid (ht.below hb1)
  have HC2 : Hid (∀ i, F i → ¬ i = cc) := fun i hi e => by have := ht.lt i hi; omega
  have HCC : Hid (w2.heap.size ≤ cc) := by show _ ≤ _; rw [hcc]; exact Nat.le_refl _
  have HM := Lib.hid hm
  have HLEN := Lib.hid ht.len
  clear hb1 ht hm
  rcases h with ⟨rfl, rfl⟩ | ⟨k, T, rfl, t1, t2, t3⟩
  · go_enter Tryz.func77, Tryz.ntmps77
    go_wp2_with fail
    refine HL.out.mono ?_
    rintro e w3 ⟨A, c, rfl, -, -, hb⟩
    have B3 := Lib.hid hb
    have G3 := Lib.hid (HG.out.chg (Below.chg hb fun _ => False) (fun _ _ h => h))
    clear hb HL
    go_wp2
    go_ret2
    exact ⟨cc, _, Cn.zero, rfl, G3.out.blk, G3.out.od, .inl ⟨rfl, rfl, rfl⟩, bl_then B1.out B1.out.size B3.out⟩
  · obtain ⟨N, hN, hS⟩ := tower_subN HM.out HLEN.out t1 t2
    have hid1 := (tower_ids t1 k (by simp)).1
    have hid0 : (k.id == 0) = false := by rw [beq_eq_false_iff_ne]; omega
    have HN := Lib.hid hN
    have HS := Lib.hid hS
    have HT1 := Lib.hid t1
    have HT2 := Lib.hid t2
    have HT3 := Lib.hid t3
    clear hN hS t1 t2 t3 hid1
    go_enter Tryz.func77, Tryz.ntmps77
    go_wp2_with fail
    refine HL.out.mono ?_
    rintro e w3 ⟨A, c, rfl, -, -, hb⟩
    have B3 := Lib.hid hb
    have HW := Lib.hid (cwalk_calls T.length w3 _ _ Cn.zero k E N 0 0 HN.out (T1.out.below hb) (HG.out.chg (Below.chg hb fun _ => False) (fun _ _ h => h)) HC2.out ⟨by decide, by decide, by decide, by decide, (fun x hx => by cases hx), by decide⟩ (by
      have h1 := HS.out.all
      have h2 := tower_sum HM.out T [k] HT1.out
      have := HT2.out
      omega) (Nat.le_refl _) (by decide) (by have := HT2.out; omega))
    clear hb HL
    go_wp2_with fail
    refine HW.out.mono ?_
    rintro e w4 ⟨rfl, ud, hx⟩
    obtain ⟨G', ga, gb, gc⟩ := hx
    have GA := Lib.hid ga
    have B4 : Hid (Below w2.heap.size w2 w4) := by
      have hk := gb.below (Nat.le_trans B1.out.size B3.out.size) (fun i hi => by rw [hi]; exact HCC.out)
      exact bl_both (bl_then B1.out B1.out.size B3.out) hk
    obtain ⟨K, hK⟩ : ∃ K, Cn.zero.plus 0 (T.length + 1) E.length N = K := ⟨_, rfl⟩
    have HK := Lib.hid hK
    rw [hK] at GA
    obtain ⟨A9, c9, hu9, h9c, h9b, -, -⟩ := GA.out.od.rd intOk
    have HD : Hid (K.ds.length ≤ 22) := by
      show _ ≤ _
      rw [← hK]
      have : (Cn.zero.plus 0 (T.length + 1) E.length N).ds.length = max 0 (0 + (T.length + 1)) := dsP_len _ _ _ _
      have := HT2.out
      omega
    have hd22 := HD.out
    subst hu9
    have d6 : w4.cell? ⟨cc, 6, none⟩ = some (.slice A9 K.ds.length c9) := by rw [blk_cell GA.out.blk]; rfl
    have d4 : w4.cell? ⟨cc, 4, none⟩ = some (.int .i64 0) := by rw [blk_cell GA.out.blk]; rfl
    have dl := blk_lt GA.out.blk
    have df := blk_free GA.out.blk 4
    clear ga gb gc hK HW HG T1
    go_wp2
    go_ret2
    refine ⟨cc, _, K, rfl, blk_set' GA.out.blk 4 _ rfl, ?_, .inr ⟨k, T, N, rfl, HT1.out, HT2.out, HT3.out, HN.out, HS.out, HK.out.symm⟩, bl_set B4.out HCC.out _⟩
    exact GA.out.od.chg (Chg.set (F := fun i => i = cc) w4 _ rfl) (fun k hk e => (GA.out.ne k hk).1 e)
/-- stat.Tree. -/
def StR (w w' : World) (C : List (List Int)) (E : List Entry) (root : Int) (e : Ending) : Prop := ∃ K, e = .returned (.tuple #[.agg #[.int .i64 K.keys, .int .i64 K.leaves, .int .i64 K.inner, .int .i64 K.ds.length, .int .i64 K.bytes], .int .i64 0]) ∧ CntE C E root K ∧ Below w.heap.size w w'
set_option maxRecDepth 100000 in
set_option maxHeartbeats 4000000 in
theorem statTree_calls {E : List Entry} {root : Int} (hm : MapOk E) (ht : TSt w2 s p g F C) (h : RootT C E root) : Calls Tryz.prog 25 #[.pointer (some ⟨s, 0, none⟩), .int .u64 root] w2 fun e w' => StR w2 w' C E root e := by
  obtain ⟨W1, hW1⟩ : ∃ W, w2.alloc (.cells #[.int .i64 0, .int .i64 0, .int .i64 0, .int .i64 0, .int .i64 0] 41) = W := ⟨_, rfl⟩
  obtain ⟨q, hq⟩ : ∃ q, w2.heap.size = q := ⟨_, rfl⟩
  have hz1 : W1.heap[q]? = some (.cells #[.int .i64 0, .int .i64 0, .int .i64 0, .int .i64 0, .int .i64 0] 41 (0, 0)) := by rw [← hW1, ← hq]; exact blk_new w2 _
  have hb1 : Below w2.heap.size w2 W1 := by rw [← hW1]; exact bl_alloc (Below.refl _ w2) _
  have HZ := Lib.hid hz1
  have B1 := Lib.hid hb1
  have HQ : Hid (w2.heap.size ≤ q) := by show _ ≤ _; rw [hq]; exact Nat.le_refl _
  have HC := Lib.hid (counted_calls hm (ht.below hb1) h)
  clear ht h hb1 hz1
  go_enter Tryz.func25, Tryz.ntmps25
  go_wp2_with fail
  refine HC.out.mono ?_
  rintro e w3 ⟨cc, ud, K, rfl, hz, -, hk, hb⟩
  have Z3 := Lib.hid (blk_below hb HZ.out (blk_lt HZ.out))
  have HK := Lib.hid hk
  have B3 := Lib.hid (bl_then B1.out B1.out.size hb)
  have c1 : w3.cell? ⟨cc, 1, none⟩ = some (.int .i64 K.keys) := by rw [blk_cell hz]; rfl
  have c2 : w3.cell? ⟨cc, 2, none⟩ = some (.int .i64 K.leaves) := by rw [blk_cell hz]; rfl
  have c3 : w3.cell? ⟨cc, 3, none⟩ = some (.int .i64 K.inner) := by rw [blk_cell hz]; rfl
  have c4 : w3.cell? ⟨cc, 4, none⟩ = some (.int .i64 K.ds.length) := by rw [blk_cell hz]; rfl
  have c5 : w3.cell? ⟨cc, 5, none⟩ = some (.int .i64 K.bytes) := by rw [blk_cell hz]; rfl
  have cl := blk_lt hz
  have x0 := blk_cell Z3.out 0
  have x1 := blk_cell Z3.out 1
  have x2 := blk_cell Z3.out 2
  have x3 := blk_cell Z3.out 3
  have x4 := blk_cell Z3.out 4
  have xl := blk_lt Z3.out
  have y0 := blk_free Z3.out 0
  have y1 := blk_free Z3.out 1
  have y2 := blk_free Z3.out 2
  have y3 := blk_free Z3.out 3
  have y4 := blk_free Z3.out 4
  clear hz hk hb HC
  go_wp2
  refine ret_row_slot2 #[.int .i64 K.keys, .int .i64 K.leaves, .int .i64 K.inner, .int .i64 K.ds.length, .int .i64 K.bytes] (g := q) (by rfl) (by rfl) Tryz.underlying41 (by rfl) rfl (by kernel_rfl) (rowOf_blk (blk_set' (blk_set' (blk_set' (blk_set' (blk_set' Z3.out 0 _ rfl) 1 _ rfl) 2 _ rfl) 3 _ rfl) 4 _ rfl)) ?_
  exact ⟨K, rfl, HK.out, bl_set (bl_set (bl_set (bl_set (bl_set B3.out HQ.out _) HQ.out _) HQ.out _) HQ.out _) HQ.out _⟩
def SdR (w w' : World) (C : List (List Int)) (E : List Entry) (root : Int) (e : Ending) : Prop := ∃ K A c, e = .returned (.tuple #[.slice A K.ds.length c, .int .i64 0]) ∧ Rd intEnc 1 w' A K.ds ∧ CntE C E root K ∧ Below w.heap.size w w'
set_option maxRecDepth 100000 in
theorem statDepths_calls {E : List Entry} {root : Int} (hm : MapOk E) (ht : TSt w2 s p g F C) (h : RootT C E root) : Calls Tryz.prog 26 #[.pointer (some ⟨s, 0, none⟩), .int .u64 root] w2 fun e w' => SdR w2 w' C E root e := by
  have HC := Lib.hid (counted_calls hm ht h)
  clear ht h
  go_enter Tryz.func26, Tryz.ntmps26
  go_wp2_with fail
  refine HC.out.mono ?_
  rintro e w3 ⟨cc, ud, K, rfl, hz, ho, hk, hb⟩
  have HK := Lib.hid hk
  have B := Lib.hid hb
  obtain ⟨A, c, rfl, i1, -, hr, -⟩ := ho.rd intOk
  have R := Lib.hid hr
  have c6 : w3.cell? ⟨cc, 6, none⟩ = some (.slice A K.ds.length c) := by rw [blk_cell hz]; rfl
  have cl := blk_lt hz
  clear hz ho hk hb hr HC
  go_wp2
  go_ret2
  exact ⟨K, A, c, rfl, R.out, HK.out, B.out⟩
def SwR (w w' : World) (C : List (List Int)) (E : List Entry) (root : Int) (e : Ending) : Prop := ∃ K, e = .returned (.tuple #[.int .i64 K.wide, .int .i64 0]) ∧ CntE C E root K ∧ Below w.heap.size w w'
set_option maxRecDepth 100000 in
theorem statWidest_calls {E : List Entry} {root : Int} (hm : MapOk E) (ht : TSt w2 s p g F C) (h : RootT C E root) : Calls Tryz.prog 27 #[.pointer (some ⟨s, 0, none⟩), .int .u64 root] w2 fun e w' => SwR w2 w' C E root e := by
  have HC := Lib.hid (counted_calls hm ht h)
  clear ht h
  go_enter Tryz.func27, Tryz.ntmps27
  go_wp2_with fail
  refine HC.out.mono ?_
  rintro e w3 ⟨cc, ud, K, rfl, hz, ho, hk, hb⟩
  have HK := Lib.hid hk
  have B := Lib.hid hb
  have c7 : w3.cell? ⟨cc, 7, none⟩ = some (.int .i64 K.wide) := by rw [blk_cell hz]; rfl
  have cl := blk_lt hz
  clear hz ho hk hb HC
  go_wp2
  go_ret2
  exact ⟨K, rfl, HK.out, B.out⟩
end
end Go.Proofs.YtikgplhcadomcaaGreat
