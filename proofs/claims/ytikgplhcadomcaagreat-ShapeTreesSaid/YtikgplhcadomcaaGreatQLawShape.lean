/- law26.awake, law26.ShapeTrees -/
import Derived.Test.YtikgplhcadomcaaGreatQShapeOf
import Derived.Test.YtikgplhcadomcaaGreatKT
import Derived.Test.YtikgplhcadomcaaGreatQOpenRT
namespace Go.Proofs.YtikgplhcadomcaaGreat
open Go.RowKit
set_option linter.unusedVariables false
set_option linter.unusedSimpArgs false
section
variable {w w2 : World} {s p g : Nat} {F : Nat → Prop} {C : List (List Int)}
set_option maxRecDepth 100000 in
theorem shapeTree_zero (w : World) (q : Value) : Calls Tryz.prog 15 #[q, .int .u64 0] w fun e w' => e = .returned (.tuple #[.slice none 0 0, .int .i64 0]) ∧ w = w' := by
  go_enter Tryz.func15, Tryz.ntmps15
  go_wp2
  go_ret2
  exact ⟨rfl, rfl⟩
/-- The shape of a tree that was built. -/
theorem shapeTree_built {E : List Entry} {root most : Int} (hm : MapOk E) (h : BuiltR F w w2 s p g C E root most) :
    Calls Tryz.prog 15 #[.pointer (some ⟨s, 0, none⟩), .int .u64 root] w2 fun e w' => ShR w2 w' (levels E) e := by
  obtain ⟨F', C', h1, h2, h3, h4, h5, h6⟩ := h
  rcases h6 with ⟨rfl, rfl⟩ | ⟨k, T, rfl, t1, t2, t3⟩
  · refine (shapeTree_zero w2 _).mono ?_
    rintro e w' ⟨rfl, rfl⟩
    exact ⟨none, 0, rfl, Nat.le_refl _, by omega, ⟨[], rfl, .inl rfl, fun i r l h => by simp at h⟩, Below.refl _ _⟩
  · refine (shapeTree_calls h1 E hm k T t1 t2).mono ?_
    intro e w' hh
    have e1 : (lastsOf ([k] :: T)).reverse = levels E := tower_levels t1 t2 t3
    rw [e1] at hh
    exact hh
end
theorem levels_one (a v : Str) : levels [⟨a, v⟩] = [[a]] := by
  unfold levels
  rw [upK_eq]
  rfl
theorem levT_lens (l : List Entry) (hl : l.length ≤ 60) : ∀ x ∈ levels l, x.length ≤ 60 := by
  have key : ∀ (f : Nat) (lv : Int) (row : List Str), row.length ≤ 60 → ∀ x ∈ levT f lv row, x.length ≤ 60 := by
    intro f
    induction f with
    | zero => intro lv row h x hx; cases hx
    | succ f ih =>
      intro lv row h x hx
      rw [levT] at hx
      split at hx
      · cases hx
      · split at hx
        · simp at hx; subst hx; exact h
        · rcases List.mem_cons.1 hx with rfl | hx
          · exact h
          · exact ih _ _ (Nat.le_trans (upK_sub _ _).length_le h) x hx
  exact key 21 1 _ (Nat.le_trans (upK_sub _ _).length_le (by simpa using hl))
theorem levT_len : ∀ (f : Nat) (lv : Int) (row : List Str), (levT f lv row).length ≤ f
  | 0, _, _ => by simp [levT]
  | f + 1, lv, row => by
    rw [levT]
    split
    · simp
    · split
      · simp
      · have := levT_len f (lv + 1) (upK lv row); simp; exact this
set_option maxRecDepth 100000 in
set_option maxHeartbeats 4000000 in
theorem awake26_calls (w : World) : Calls Tryz.prog 11 #[] w fun e w' => e = .returned (.bool true) ∧ Below w.heap.size w w' := by
  have hr : right [(⟨⟨#[97]⟩, ⟨#[]⟩⟩ : Entry)] = 0 := by decide
  have HM : Hid (MapOk [(⟨⟨#[97]⟩, ⟨#[]⟩⟩ : Entry)]) := mapOk_of hr (by simp)
  go_enter Tryz.func11, Tryz.ntmps11
  go_wp2_with fail
  refine (store_calls _).mono ?_
  rintro e w1 ⟨s, p, g, F, rfl, ht1, hF1, hb1⟩
  have hb2 : Below w1.heap.size w1 (w1.alloc (.cells #[.string ⟨#[97]⟩, .string ⟨#[]⟩] 113)) := bl_alloc (Below.refl _ w1) _
  have HT2 := Lib.hid (ht1.below hb2)
  have HF := Lib.hid hF1
  have HR2 : Hid (Rd Entry.enc 2 (w1.alloc (.cells #[.string ⟨#[97]⟩, .string ⟨#[]⟩] 113)) (some ⟨w1.heap.size, 0, none⟩) [⟨⟨#[97]⟩, ⟨#[]⟩⟩]) := Rd.lit (blk_new w1 _) rfl
  have B2 := Lib.hid (bl_then hb1 hb1.size hb2)
  have HBD := Lib.hid (build_calls HT2.out (some ⟨w1.heap.size, 0, none⟩) 1 [⟨⟨#[97]⟩, ⟨#[]⟩⟩] (Nat.le_refl _) (by omega) HR2.out (by simp) (by intro x hx; simp at hx; subst hx; exact ⟨by show (1 : Nat) ≤ _; omega, by show (0 : Nat) ≤ _; omega⟩) (by decide))
  clear ht1 hF1 hb1 hb2
  go_wp2_with fail
  refine HBD.out.mono ?_
  rintro e w3 ⟨root, rfl, hbt⟩
  have hbuilt : BuiltR F (w1.alloc (.cells #[.string ⟨#[97]⟩, .string ⟨#[]⟩] 113)) w3 s p g [] [⟨⟨#[97]⟩, ⟨#[]⟩⟩] root 2640 := by
    rcases hbt with ⟨hx, _⟩ | ⟨_, hx⟩
    · exact absurd hr hx
    · exact hx
  have B3 : Hid (Below w.heap.size w w3) := by
    obtain ⟨F', C', h1, h2, h3, _⟩ := hbuilt
    have := h2.below B2.out.size HF.out
    exact bl_thenB B2.out this
  have HS := Lib.hid (shapeTree_built HM.out hbuilt)
  clear hbt hbuilt HBD HR2
  rw [hr]
  clear hr
  go_wp2_with fail
  refine HS.out.mono ?_
  rintro e w4 ⟨A4, c4, rfl, hc4, hbig4, hR4, hb4⟩
  rw [levels_one] at hR4 ⊢
  obtain ⟨vs, v1, v2, v3⟩ := hR4
  obtain ⟨r, rfl⟩ : ∃ r, vs = [r] := by
    rcases vs with _ | ⟨r, _ | ⟨r2, vs⟩⟩
    · simp at v1
    · exact ⟨r, rfl⟩
    · simp at v1
  obtain ⟨q1, q2, q3⟩ := v3 0 r _ rfl rfl
  obtain ⟨rA, rl, rc⟩ := r
  dsimp only at q1 q2 q3
  subst q1
  rcases v2 with v2 | ⟨b, off, rfl, hlt, hcell⟩
  · cases v2
  rcases q3 with q3 | ⟨b2, off2, rfl, hlt2, hcell2⟩
  · cases q3
  have c0 : w4.cell? ⟨b, off, none⟩ = some (.slice (some ⟨b2, off2, none⟩) 1 rc) := by have := hcell 0 _ rfl 0 _ rfl; simpa using this
  have d0 : w4.cell? ⟨b2, off2, none⟩ = some (.string ⟨#[97]⟩) := by have := hcell2 0 _ rfl 0 _ rfl; simpa using this
  have B4 := Lib.hid (bl_thenB B3.out (bl_then (Below.refl w.heap.size w3) B3.out.size hb4))
  have hOF := Lib.hid (shapeOf_calls w4 none 0 [] (Nat.le_refl _) (by omega) (by simp) (by simp) (.inl rfl))
  have hL1 : ((([[(⟨#[97]⟩ : Str)]] : List (List Str)).length : Nat) : Int) = 1 := rfl
  have hLn : ([[(⟨#[97]⟩ : Str)]] : List (List Str)).length = 1 := rfl
  rw [hLn]
  clear hcell hcell2 v1 v3 q2 hb4 hc4 hL1 hLn
  go_wp2_with fail
  refine hOF.out.mono ?_
  rintro e w5 ⟨v5, rfl, h5, hb5⟩
  obtain ⟨A5, c5, rfl, -, -, -⟩ := h5.rwr
  rw [levels_nil]
  have B5 := Lib.hid (bl_thenB B4.out (bl_then (Below.refl w.heap.size w4) B4.out.size hb5))
  have hLn : ([] : List (List Str)).length = 0 := rfl
  rw [hLn]
  clear h5 hb5 hLn c0 d0
  go_wp2
  go_ret
  exact ⟨rfl, B5.out⟩
where
  bl_thenB {w w1 w2 : World} (h : Below w.heap.size w w1) (k : Below w.heap.size w1 w2) : Below w.heap.size w w2 :=
    ⟨k.os.trans h.os, k.tape.trans h.tape, k.output.trans h.output, Nat.le_trans h.size k.size, fun i hi => (k.block i hi).trans (h.block i hi)⟩
theorem isMap_split {l : List Entry} (h : isMap l = true) : right l = 0 ∧ l.length ≤ 60 ∧ ∀ x ∈ l, x.key.size ≤ 60 ∧ x.val.size ≤ 250 := by
  unfold isMap light at h
  simp only [Bool.and_eq_true, decide_eq_true_eq, List.all_eq_true] at h
  obtain ⟨⟨h1, h2⟩, h3⟩ := h
  refine ⟨h3, h2, fun x hx => ?_⟩
  have := h1 x hx
  unfold lightE at this
  simpa using this
set_option maxRecDepth 100000 in
set_option maxHeartbeats 4000000 in
theorem shapeTrees_calls (w : World) (A : Option Addr) (c : Nat) (l : List Entry) (hm : l.length ≤ 9223372036854775807) (hcap : l.length ≤ c) (hbig : c ≤ 9223372036854775807) (hs : ∀ x ∈ l, x.key.size ≤ 9223372036854775807 ∧ x.val.size ≤ 9223372036854775807) (h : Rd Entry.enc 2 w A l)
    (A1 : Option Addr) (c1 : Nat) (a : List (List Str)) (ha : RwR strEnc 1 w A1 a) (hal : ∀ x ∈ a, x.length ≤ 9223372036854775807) (ham : a.length ≤ 9223372036854775807) (A2 : Option Addr) (c2 : Nat) (b : List (List Str)) (hb : RwR strEnc 1 w A2 b) (hbl : ∀ x ∈ b, x.length ≤ 9223372036854775807) (hbm : b.length ≤ 9223372036854775807) :
    Calls Tryz.prog 3 #[.slice A l.length c, .slice A1 a.length c1, .slice A2 b.length c2] w fun e w' => e = .returned (.bool true) ∧ Below w.heap.size w w' := by
  have HS := Lib.hid hs
  have H := Lib.hid h
  have HA := Lib.hid ha
  have HB := Lib.hid hb
  have HAL := Lib.hid hal
  have HBL := Lib.hid hbl
  clear hs h ha hb hal hbl
  go_enter Tryz.func3, Tryz.ntmps3
  go_wp2_with fail
  refine (awake26_calls _).mono ?_
  rintro e w1 ⟨rfl, hb1⟩
  have B1 := Lib.hid hb1
  have HM := Lib.hid (Map_calls w1 A c l hm hcap HS.out (H.out.below hb1 (Nat.le_refl _)))
  clear hb1
  cases hmap : isMap l with
  | false =>
    have HMP := Lib.hid hmap
    clear hmap
    go_wp2_with fail
    refine HM.out.mono ?_
    rintro e w2 ⟨rfl, hb2⟩
    rw [HMP.out]
    have B2 := Lib.hid (bl_then B1.out B1.out.size hb2)
    clear hb2
    go_wp2
    go_ret
    exact ⟨rfl, B2.out⟩
  | true =>
    have HMP := Lib.hid hmap
    obtain ⟨hr, hl60, hsz⟩ := isMap_split hmap
    have HR := Lib.hid hr
    have HZ := Lib.hid hsz
    have HMO := Lib.hid (mapOk_of hr hl60)
    clear hmap hr hsz
    by_cases h10 : (10 : Int) < (a.length : Int)
    · go_wp2_with fail
      refine HM.out.mono ?_
      rintro e w2 ⟨rfl, hb2⟩
      rw [HMP.out]
      have B2 := Lib.hid (bl_then B1.out B1.out.size hb2)
      clear hb2
      go_wp2
      go_ret
      exact ⟨rfl, B2.out⟩
    by_cases h11 : (10 : Int) < (b.length : Int)
    · go_wp2_with fail
      refine HM.out.mono ?_
      rintro e w2 ⟨rfl, hb2⟩
      rw [HMP.out]
      have B2 := Lib.hid (bl_then B1.out B1.out.size hb2)
      clear hb2
      go_wp2
      go_ret
      exact ⟨rfl, B2.out⟩
    go_wp2_with fail
    refine HM.out.mono ?_
    rintro e w2 ⟨rfl, hb2⟩
    rw [HMP.out]
    have B2 := Lib.hid (bl_then B1.out B1.out.size hb2)
    clear hb2 HM
    go_wp2_with fail
    refine (store_calls _).mono ?_
    rintro e w3 ⟨s, p, g, F, rfl, ht3, hF3, hb3⟩
    have B3 := Lib.hid (bl_then B2.out B2.out.size hb3)
    have HF : Hid (∀ i, F i → w.heap.size ≤ i) := fun i hi => Nat.le_trans B2.out.size (hF3 i hi)
    have HBD := Lib.hid (build_calls ht3 A c l hcap hbig (H.out.below B3.out (Nat.le_refl _)) hl60 (fun x hx => by have := HZ.out x hx; omega) (by decide))
    clear ht3 hF3 hb3
    go_wp2_with fail
    refine HBD.out.mono ?_
    rintro e w4 ⟨root, rfl, hbt⟩
    have hbuilt : BuiltR F w3 w4 s p g [] l root 2640 := by
      rcases hbt with ⟨hx, _⟩ | ⟨_, hx⟩
      · exact absurd HR.out hx
      · exact hx
    have B4 : Hid (Below w.heap.size w w4) := by
      obtain ⟨F', C', h1, h2, h3, _⟩ := hbuilt
      exact awake26_calls.bl_thenB B3.out (h2.below B3.out.size HF.out)
    have HT := Lib.hid (shapeTree_built HMO.out hbuilt)
    clear hbt hbuilt HBD
    go_wp2_with fail
    refine HT.out.mono ?_
    rintro e w5 ⟨A5, c5, rfl, hc5, hbig5, hR5, hb5⟩
    have B5 := Lib.hid (bl_then B4.out B4.out.size hb5)
    have R5 := Lib.hid hR5
    clear HT hR5 hb5
    go_wp2_with fail
    refine (levels_calls _ A c l hcap hl60 (fun x hx => by have := HZ.out x hx; omega) (H.out.below B5.out (Nat.le_refl _))).mono ?_
    rintro e w6 ⟨v6, rfl, hv6, hb6⟩
    obtain ⟨A6, c6, rfl, hc6, hbig6, hR6⟩ := hv6.rwr
    have B6 := Lib.hid (bl_then B5.out B5.out.size hb6)
    have R56 := Lib.hid (R5.out.below hb6)
    have R6 := Lib.hid hR6
    have HLL := Lib.hid (levT_lens l hl60)
    have hlv : (levels l).length ≤ 21 := levT_len _ _ _
    clear hv6 hb6 hR6 R5
    go_wp2_with fail
    refine (sameLevels_calls w6 A5 A6 c5 c6 (levels l) (levels l) (by omega) (by omega) (fun x hx => by have := HLL.out x hx; omega) (fun x hx => by have := HLL.out x hx; omega) R56.out R6.out).mono ?_
    rintro e w7 ⟨rfl, hb7⟩
    have hd1 : decide (levels l = levels l) = true := decide_eq_true rfl
    rw [hd1]
    clear hd1
    have B7 := Lib.hid (bl_then B6.out B6.out.size hb7)
    have R67 := Lib.hid (R6.out.below hb7)
    clear hb7 R56 R6
    go_wp2_with fail
    refine (shapeOf_calls _ A c l hcap hbig hl60 (fun x hx => by have := HZ.out x hx; omega) (H.out.below B7.out (Nat.le_refl _))).mono ?_
    rintro e w8 ⟨v8, rfl, hv8, hb8⟩
    obtain ⟨A8, c8, rfl, hc8, hbig8, hR8⟩ := hv8.rwr
    have B8 := Lib.hid (bl_then B7.out B7.out.size hb8)
    have R8 := Lib.hid hR8
    have R68 := Lib.hid (R67.out.below hb8)
    clear hv8 hb8 hR8 R67
    go_wp2_with fail
    refine (sameLevels_calls w8 A8 A6 c8 c6 (levels l) (levels l) (by omega) (by omega) (fun x hx => by have := HLL.out x hx; omega) (fun x hx => by have := HLL.out x hx; omega) R8.out R68.out).mono ?_
    rintro e w9 ⟨rfl, hb9⟩
    have hd1 : decide (levels l = levels l) = true := decide_eq_true rfl
    rw [hd1]
    clear hd1
    have B9 := Lib.hid (bl_then B8.out B8.out.size hb9)
    have RA := Lib.hid (HA.out.below B9.out)
    have RB := Lib.hid (HB.out.below B9.out)
    clear hb9 R8 R68
    go_wp2_with fail
    refine (same_calls w9 A1 A2 c1 c2 a b ham hbm HAL.out HBL.out RA.out RB.out).mono ?_
    rintro e w10 ⟨rfl, hb10⟩
    have B10 := Lib.hid (bl_then B9.out B9.out.size hb10)
    have RA2 := Lib.hid (RA.out.below hb10)
    have RB2 := Lib.hid (RB.out.below hb10)
    obtain ⟨d, hd⟩ : ∃ d, decide (a = b) = d := ⟨_, rfl⟩
    have HD := Lib.hid hd
    rw [hd]
    clear hb10 hd RA RB
    go_wp2_with fail
    refine (sameLevels_calls w10 A1 A2 c1 c2 a b ham hbm HAL.out HBL.out RA2.out RB2.out).mono ?_
    rintro e w11 ⟨rfl, hb11⟩
    rw [HD.out]
    have B11 := Lib.hid (bl_then B10.out B10.out.size hb11)
    clear hb11 HD
    cases d
    · go_wp2
      go_ret
      exact ⟨rfl, B11.out⟩
    · go_wp2
      go_ret
      exact ⟨rfl, B11.out⟩
theorem shapeTrees_row (w : World) (v0 v1 v2 : Value) (l : List Entry) (a b : List (List Str)) (h0 : Came w v0 l) (h1 : RwT w v1 a) (h2 : RwT w v2 b) :
    Calls Tryz.prog 3 #[v0, v1, v2] w fun e w' => e = .returned (.bool true) ∧ Below w.heap.size w w' := by
  obtain ⟨A, c, rfl, k1, k2, k3, k4, -⟩ := h0
  obtain ⟨A1, c1, rfl, m1, m2, m3, m4⟩ := h1
  obtain ⟨A2, c2, rfl, n1, n2, n3, n4⟩ := h2
  exact shapeTrees_calls w A c l (by omega) k1 k2 k4 k3 A1 c1 a m3 m4 (by omega) A2 c2 b n3 n4 (by omega)
end Go.Proofs.YtikgplhcadomcaaGreat
