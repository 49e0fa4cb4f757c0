/- law10.told, law10.awake, law10.TreeBuilds -/
import Derived.Test.YtikgplhcadomcaaGreatQGetC
import Derived.Test.YtikgplhcadomcaaGreatQSameEntries
import Derived.Test.YtikgplhcadomcaaGreatQGet
import Derived.Test.YtikgplhcadomcaaGreatQOpenT
namespace Go.Proofs.YtikgplhcadomcaaGreat
open Go.RowKit
set_option linter.unusedVariables false
set_option linter.unusedSimpArgs false
theorem bl_both {w w1 w2 : World} (h : Below w.heap.size w w1) (k : Below w.heap.size w1 w2) : Below w.heap.size w w2 :=
  ⟨k.os.trans h.os, k.tape.trans h.tape, k.output.trans h.output, Nat.le_trans h.size k.size, fun i hi => (k.block i hi).trans (h.block i hi)⟩
theorem ok_ids {n : NodeP} (h : NodeOk n) : ∀ x ∈ n.kids, 1 ≤ x.id := fun x hx => by
  have z7 := (right_zero h.right).2.2.2.2.2.2
  have := List.any_eq_false.1 z7 x hx
  have h2 := h.kids x hx
  simp at this
  omega
section
variable {w w2 : World} {s p g : Nat} {F : Nat → Prop} {C : List (List Int)}
set_option maxRecDepth 100000 in
theorem get0_calls (w : World) (q : Value) (key : Str) : Calls Tryz.prog 71 #[q, .int .u64 0, .string key] w fun e w' => GetTR w w' ⟨false, ⟨#[]⟩⟩ e := by
  have hb : Below w.heap.size w (w.alloc (.cells #[.string key] 9)) := bl_alloc (Below.refl _ w) _
  have B := Lib.hid hb
  clear hb
  go_enter Tryz.func71, Tryz.ntmps71
  go_wp2
  go_loopg [1] 0 (fun m v wr => v = .int .u64 0 ∧ Hid (Below w.heap.size w wr))
  case atStart => exact ⟨rfl, B.out⟩
  case round =>
    obtain ⟨rfl, hb⟩ := hrel
    go_wp2
    refine bodyPost_ret (results_tmp3 rfl _ _ _) rfl ?_
    exact ⟨rfl, hb.out⟩
theorem get_built {E : List Entry} {root most : Int} (hm : MapOk E) (h : BuiltR F w w2 s p g C E root most) (key : Str) : Calls Tryz.prog 71 #[.pointer (some ⟨s, 0, none⟩), .int .u64 root, .string key] w2 fun e w' => GetTR w2 w' (get E key) e := by
  obtain ⟨F', C', h1, h2, h3, h4, h5, h6⟩ := h
  rcases h6 with ⟨rfl, rfl⟩ | ⟨k, T, rfl, t1, t2, t3⟩
  · exact get0_calls w2 _ key
  · exact getSub_calls h1 T.length k E t2 (tower_sub hm h1.len t1 t2) hm.rise (tower_ids t1 k (by simp)).1 (fun n ks id _ hok x hx => ok_ids hok x hx) key
theorem BuiltR.below {w3 : World} {E : List Entry} {root most : Int} (h : BuiltR F w w2 s p g C E root most) (hb : Below w2.heap.size w2 w3) : BuiltR F w w3 s p g C E root most := by
  obtain ⟨F', C', h1, h2, h3, h4⟩ := h
  exact ⟨F', C', h1.below hb, h2.trans (Below.chg hb F) (fun _ _ h => h), h3, h4⟩
theorem BuiltR.bl {E : List Entry} {root most : Int} {B : Nat} (h : BuiltR F w w2 s p g C E root most) (hB : B ≤ w.heap.size) (hF : ∀ i, F i → B ≤ i) : Below B w w2 := by
  obtain ⟨F', C', h1, h2, h3, h4⟩ := h
  exact h2.below hB hF
/-- Whether a root is none. -/
theorem BuiltR.root {E : List Entry} {root most : Int} (h : BuiltR F w w2 s p g C E root most) : (E = [] ∧ root = 0) ∨ (E ≠ [] ∧ 1 ≤ root) := by
  obtain ⟨F', C', h1, h2, h3, h4, h5, h6⟩ := h
  rcases h6 with ⟨rfl, rfl⟩ | ⟨k, T, rfl, t1, t2, t3⟩
  · exact .inl ⟨rfl, rfl⟩
  · refine .inr ⟨fun e => ?_, (tower_ids t1 k (by simp)).1⟩
    subst e
    exact tower_some t1
where
  tower_some {C : List (List Int)} {k : Kid} : ∀ {T : List (List Kid)} {ks : List Kid}, Tower C ((k :: ks) :: T) [] → False
    | [], ks, h => by have := h.1; simp [leafNs, splitE, splitAll, rowsF] at this
    | ks' :: T, ks, h => by
      cases ks' with
      | nil => have := h.1.1; simp [innerNs, groupK, splitAll, rowsF] at this
      | cons k' ks' => exact tower_some h.2
set_option maxRecDepth 100000 in
set_option maxHeartbeats 4000000 in
theorem told_calls {E : List Entry} {root most : Int} (hm : MapOk E) (h : BuiltR F w w2 s p g C E root most) (key : Str) (A : Option Addr) (c : Nat) (hc : E.length ≤ c) (hR : Rd Entry.enc 2 w2 A E) :
    Calls Tryz.prog 23 #[.pointer (some ⟨s, 0, none⟩), .int .u64 root, .slice A E.length c, .string key] w2 fun e w' => e = .returned (.bool true) ∧ Below w2.heap.size w2 w' := by
  have HL := Lib.hid (list_calls hm h)
  have H := Lib.hid h
  have HR := Lib.hid hR
  have HM := Lib.hid hm
  have hlen := hm.len
  clear h hR hm
  go_enter Tryz.func23, Tryz.ntmps23
  go_wp2_with fail
  refine HL.out.mono ?_
  rintro e w3 ⟨A3, c3, rfl, hc3, hr3, hb3⟩
  have B3 := Lib.hid hb3
  have R3 := Lib.hid hr3
  have HG := Lib.hid (get_built HM.out (H.out.below hb3) key)
  clear hb3 hr3 HL
  go_wp2_with fail
  refine HG.out.mono ?_
  rintro e w4 ⟨rfl, hb4⟩
  have B4 := Lib.hid (bl_then B3.out B3.out.size hb4)
  have R4 := Lib.hid (R3.out.below hb4 (Nat.le_refl _))
  clear hb4 R3 HG
  obtain ⟨sd, hsd⟩ : ∃ sd, get E key = sd := ⟨_, rfl⟩
  have HSD := Lib.hid hsd
  rw [hsd]
  clear hsd
  have hrg := Get_calls' w4 A c E key (by omega) (HR.out.below B4.out (Nat.le_refl _))
  rw [HSD.out] at hrg
  have HRG := Lib.hid hrg
  clear hrg
  obtain ⟨hs, hv⟩ := sd
  dsimp only at HRG ⊢
  go_wp2_with fail
  refine HRG.out.mono ?_
  rintro e w5 ⟨rfl, hb5⟩
  have B5 := Lib.hid (bl_then B4.out B4.out.size hb5)
  have R5 := Lib.hid (R4.out.below hb5 (Nat.le_refl _))
  obtain ⟨W6, hW6⟩ : ∃ W, w5.alloc (.cells #[.bool hs, .string hv] 129) = W := ⟨_, rfl⟩
  have hb6 : Below w5.heap.size w5 W6 := by rw [← hW6]; exact bl_alloc (Below.refl _ w5) _
  obtain ⟨q, hq⟩ : ∃ q, w5.heap.size = q := ⟨_, rfl⟩
  have Z6 : Hid (W6.heap[q]? = some (.cells #[.bool hs, .string hv] 129 (0, 0))) := by show _ = _; rw [← hW6, ← hq]; exact blk_new w5 _
  have B6 := Lib.hid (bl_then B5.out B5.out.size hb6)
  have hse := SameEntries_calls W6 A3 A c3 c E E (by omega) (by omega) (R5.out.below hb6 (Nat.le_refl _)) (HR.out.below B6.out (Nat.le_refl _))
  have hd1 : decide (E = E) = true := decide_eq_true rfl
  rw [hd1] at hse
  have HSE := Lib.hid hse
  clear hse hd1
  clear hb5 hb6 R4 R5 HRG
  go_wp2_with fail
  refine HSE.out.mono ?_
  rintro e w7 ⟨rfl, hb7⟩
  have B7 := Lib.hid (bl_then B6.out B6.out.size hb7)
  have Z7 := blk_below hb7 Z6.out (blk_lt Z6.out)
  have z0 := blk_cell Z7 0
  have z1 := blk_cell Z7 1
  have zl := blk_lt Z7
  clear hb7 Z7 HSE
  cases hs
  · go_wp2
    go_ret
    exact ⟨rfl, B7.out⟩
  · go_wp2
    go_ret
    exact ⟨rfl, B7.out⟩
end
theorem strA_get : get [(⟨⟨#[97]⟩, ⟨#[49]⟩⟩ : Entry)] ⟨#[97]⟩ = ⟨true, ⟨#[49]⟩⟩ := by decide
set_option maxRecDepth 100000 in
set_option maxHeartbeats 4000000 in
theorem awake10_calls (w : World) : Calls Tryz.prog 20 #[] w fun e w' => e = .returned (.bool true) ∧ Below w.heap.size w w' := by
  have hr : right [(⟨⟨#[97]⟩, ⟨#[49]⟩⟩ : Entry)] = 0 := by decide
  have HM : Hid (MapOk [(⟨⟨#[97]⟩, ⟨#[49]⟩⟩ : Entry)]) := mapOk_of hr (by simp)
  go_enter Tryz.func20, Tryz.ntmps20
  go_wp2_with fail
  refine (store_calls _).mono ?_
  rintro e w1 ⟨s, p, g, F, rfl, ht1, hF1, hb1⟩
  have hb2 : Below w1.heap.size w1 (w1.alloc (.cells #[.string ⟨#[97]⟩, .string ⟨#[49]⟩] 113)) := bl_alloc (Below.refl _ w1) _
  have HT2 := Lib.hid (ht1.below hb2)
  have HF := Lib.hid hF1
  have HR2 : Hid (Rd Entry.enc 2 (w1.alloc (.cells #[.string ⟨#[97]⟩, .string ⟨#[49]⟩] 113)) (some ⟨w1.heap.size, 0, none⟩) [⟨⟨#[97]⟩, ⟨#[49]⟩⟩]) := Rd.lit (blk_new w1 _) rfl
  have B2 := Lib.hid (bl_then hb1 hb1.size hb2)
  have HBD := Lib.hid (build_calls HT2.out (some ⟨w1.heap.size, 0, none⟩) 1 [⟨⟨#[97]⟩, ⟨#[49]⟩⟩] (Nat.le_refl _) (by omega) HR2.out (by simp) (by intro x hx; simp at hx; subst hx; exact ⟨by show (1 : Nat) ≤ _; omega, by show (1 : Nat) ≤ _; omega⟩) (by decide))
  clear ht1 hF1 hb1 hb2
  go_wp2_with fail
  refine HBD.out.mono ?_
  rintro e w3 ⟨root, rfl, hbt⟩
  have hbuilt : BuiltR F (w1.alloc (.cells #[.string ⟨#[97]⟩, .string ⟨#[49]⟩] 113)) w3 s p g [] [⟨⟨#[97]⟩, ⟨#[49]⟩⟩] root (44 * ([(⟨⟨#[97]⟩, ⟨#[49]⟩⟩ : Entry)].length : Nat)) := by
    rcases hbt with ⟨hx, _⟩ | ⟨_, hx⟩
    · exact absurd hr hx
    · exact hx
  have B3 : Hid (Below w.heap.size w w3) := bl_both B2.out (hbuilt.bl B2.out.size HF.out)
  have hroot : (root == 0) = false := by
    rcases hbuilt.root with ⟨e, _⟩ | ⟨_, e⟩
    · cases e
    · rw [beq_eq_false_iff_ne]; omega
  have hrootb : (root != 0) = true := by simpa using hroot
  have hg := get_built HM.out hbuilt ⟨#[97]⟩
  rw [strA_get] at hg
  have HG := Lib.hid hg
  have HB := Lib.hid hbuilt
  rw [hr]
  clear hbt hbuilt HBD HR2 hg hr
  go_wp2_with fail
  refine HG.out.mono ?_
  rintro e w4 ⟨rfl, hb4⟩
  have B4 := Lib.hid (bl_both B3.out (bl_then (Below.refl w.heap.size w3) B3.out.size hb4))
  obtain ⟨F', C', t1, t2, t3, t4, t5, t6⟩ := HB.out.below hb4
  have hF4 : Hid (∀ i, F' i → w.heap.size ≤ i) := fun i hi => by
    rcases t3 i hi with q | q
    · exact HF.out i q
    · exact Nat.le_trans B2.out.size q
  have hr2 : right [] = 0 := by decide
  have HB2 := Lib.hid (build_calls t1 none 0 [] (Nat.le_refl _) (by omega) (.inl rfl) (by simp) (by simp) (by simp [endOf] at t5 ⊢; omega))
  clear hb4 t1 t2 t3 t4 t5 t6 HG HB
  go_wp2_with fail
  refine HB2.out.mono ?_
  rintro e w5 ⟨root2, rfl, hbt⟩
  have hbuilt : BuiltR F' w4 w5 s p g C' [] root2 (44 * (([] : List Entry).length : Nat)) := by
    rcases hbt with ⟨hx, _⟩ | ⟨_, hx⟩
    · exact absurd hr2 hx
    · exact hx
  have hroot2 : root2 = 0 := by
    rcases hbuilt.root with ⟨_, e⟩ | ⟨e, _⟩
    · exact e
    · exact absurd rfl e
  subst hroot2
  have B5 : Hid (Below w.heap.size w w5) := bl_both B4.out (hbuilt.bl B4.out.size hF4.out)
  rw [hr2]
  clear hbt hbuilt HB2 hr2
  go_wp2
  go_ret
  exact ⟨rfl, B5.out⟩
set_option maxRecDepth 100000 in
set_option maxHeartbeats 4000000 in
theorem treeBuilds_calls (w : World) (A : Option Addr) (c : Nat) (l : List Entry) (key : Str) (hm : l.length ≤ 9223372036854775807) (hcap : l.length ≤ c) (hbig : c ≤ 9223372036854775807) (hs : ∀ x ∈ l, x.key.size ≤ 9223372036854775807 ∧ x.val.size ≤ 9223372036854775807) (h : Rd Entry.enc 2 w A l) (hk : key.size ≤ 9223372036854775807) :
    Calls Tryz.prog 4 #[.slice A l.length c, .string key] w fun e w' => e = .returned (.bool true) ∧ Below w.heap.size w w' := by
  have HS := Lib.hid hs
  have H := Lib.hid h
  clear hs h
  go_enter Tryz.func4, Tryz.ntmps4
  go_wp2_with fail
  refine (awake10_calls _).mono ?_
  rintro e w1 ⟨rfl, hb1⟩
  have B1 := Lib.hid hb1
  have HL := Lib.hid (Light_calls w1 A c l hm HS.out (H.out.below hb1 (Nat.le_refl _)))
  clear hb1
  cases hlight : light l with
  | false =>
    have HLL := Lib.hid hlight
    clear hlight
    go_wp2_with fail
    refine HL.out.mono ?_
    rintro e w2 ⟨rfl, hb2⟩
    rw [HLL.out]
    have B2 := Lib.hid (bl_then B1.out B1.out.size hb2)
    clear hb2
    go_wp2
    go_ret
    exact ⟨rfl, B2.out⟩
  | true =>
    have HLL := Lib.hid hlight
    have hl60 : l.length ≤ 60 := by unfold light at hlight; simp only [Bool.and_eq_true, decide_eq_true_eq] at hlight; exact hlight.2
    clear hlight
    by_cases hk60 : (60 : Int) < (key.size : Int)
    · go_wp2_with fail
      refine HL.out.mono ?_
      rintro e w2 ⟨rfl, hb2⟩
      rw [HLL.out]
      have B2 := Lib.hid (bl_then B1.out B1.out.size hb2)
      clear hb2
      go_wp2
      go_ret
      exact ⟨rfl, B2.out⟩
    go_wp2_with fail
    refine HL.out.mono ?_
    rintro e w2 ⟨rfl, hb2⟩
    rw [HLL.out]
    have B2 := Lib.hid (bl_then B1.out B1.out.size hb2)
    clear hb2 HL
    go_wp2_with fail
    refine (store_calls _).mono ?_
    rintro e w3 ⟨s, p, g, F, rfl, ht3, hF3, hb3⟩
    have B3 := Lib.hid (bl_then B2.out B2.out.size hb3)
    have HF : Hid (∀ i, F i → w.heap.size ≤ i) := fun i hi => Nat.le_trans B2.out.size (hF3 i hi)
    have HBD := Lib.hid (build_calls ht3 A c l hcap hbig (H.out.below B3.out (Nat.le_refl _)) hl60 HS.out (by show (1 : Int) + 44 * l.length < 4096; omega))
    clear ht3 hF3 hb3
    go_wp2_with fail
    refine HBD.out.mono ?_
    rintro e w4 ⟨root, rfl, hbt⟩
    have B4 : Hid (Below w.heap.size w w4) := by
      rcases hbt with ⟨_, _, hx⟩ | ⟨_, hx⟩
      · exact bl_then B3.out B3.out.size hx
      · exact bl_both B3.out (hx.bl B3.out.size HF.out)
    have HRT := Lib.hid (Right_calls w4 A c l hm hcap HS.out (H.out.below B4.out (Nat.le_refl _)))
    have HBT := Lib.hid hbt
    obtain ⟨n, hn⟩ : ∃ n, right l = n := ⟨_, rfl⟩
    have HN := Lib.hid hn
    rw [hn]
    clear hbt HBD hn
    go_wp2_with fail
    refine HRT.out.mono ?_
    rintro e w5 ⟨rfl, hb5⟩
    have B5 := Lib.hid (bl_then B4.out B4.out.size hb5)
    rw [HN.out]
    rcases HBT.out with ⟨hx, rfl, -⟩ | ⟨hx, hx2⟩
    · have hn0 : (n == 0) = false := by rw [beq_eq_false_iff_ne, ← HN.out]; exact hx
      have HBT' := Lib.hid hx
      clear hx hb5 HRT HBT
      go_wp2
      go_ret
      exact ⟨rfl, B5.out⟩
    · have hn0 : n = 0 := by rw [← HN.out]; exact hx
      subst hn0
      have hbuilt := hx2.below hb5
      have HT := Lib.hid (told_calls (mapOk_of hx hl60) hbuilt key A c hcap (H.out.below B5.out (Nat.le_refl _)))
      have hroot := hbuilt.root
      clear hx hx2 hb5 HRT HBT hbuilt
      go_wp2_with fail
      refine HT.out.mono ?_
      rintro e w6 ⟨rfl, hb6⟩
      have B6 := Lib.hid (bl_then B5.out B5.out.size hb6)
      clear hb6 HT
      rcases hroot with ⟨rfl, rfl⟩ | ⟨hne, hr1⟩
      · have h0 : ((([] : List Entry).length : Nat) : Int) = 0 := rfl
        go_wp2
        go_ret
        exact ⟨rfl, B6.out⟩
      · have hr0 : (root == 0) = false := by rw [beq_eq_false_iff_ne]; omega
        have hl0 : ((l.length : Int) == 0) = false := by rw [beq_eq_false_iff_ne]; have := List.length_pos_iff.2 hne; omega
        clear hne hr1
        go_wp2
        go_ret
        exact ⟨rfl, B6.out⟩
theorem treeBuilds_row (w : World) (v0 v1 : Value) (l : List Entry) (key : Str) (h0 : Came w v0 l) (h1 : TextV v1 key) :
    Calls Tryz.prog 4 #[v0, v1] w fun e w' => e = .returned (.bool true) ∧ Below w.heap.size w w' := by
  obtain ⟨A, c, rfl, k1, k2, k3, k4, -⟩ := h0
  obtain ⟨rfl, m1⟩ := h1
  exact treeBuilds_calls w A c l key (by omega) k1 k2 k4 k3 m1
end Go.Proofs.YtikgplhcadomcaaGreat
