/- slices.Sorted(maps.Keys(m)), the keys of a map as rising texts -/
import Derived.Test.YtofdmkglhjpbcaaProg
import Derived.Test.YtofdmkglhjpbcaaMapG
import Derived.Test.YtofdmkglhjpbcaaOwn
import Derived.Test.YtofdmkglhjpbcaaOrder
import Derived.Shelf.SlIter.Nil
import Derived.Shelf.SortM.Plain
import Derived.Shelf.SortM.SortNone
import Derived.Ground.GgzProg
import Derived.Ground.SlgmProg
import Derived.Shelf.Lay
namespace Go.Proofs.Ytofdmkglhjpbcaa
open Go.RowKit Go.Maps Go.Sort Go.Shelf
set_option linter.unusedVariables false
set_option linter.unusedSimpArgs false
def keysB_ren : Go.Shelf.Ren := ⟨fun | 7 => 85 | 10 => 110 | n => n, fun | 23 => 131 | 26 => 9 | 3 => 4 | 28 => 119 | 0 => 0 | 27 => 118 | 33 => 122 | 4 => 4 | n => n, fun | n => n⟩
theorem keysB : Go.Proofs.SlLaysZ.n7 Try.prog keysB_ren where
  mixed := by kernel_rfl
  f7 := ⟨Try.f85.name, by decide, Try.func85.trans (congrArg some (by kernel_rfl))⟩
  f10 := ⟨Try.f110.name, by decide, Try.func110.trans (congrArg some (by kernel_rfl))⟩
  t0 := Try.underlying0
  a0 := Try.isAgg0
  z0 := Try.sizeOf0
  v0 := Try.zeroValue0
  t4 := Try.underlying4
  a4 := Try.isAgg4
  z4 := Try.sizeOf4
  v4 := Try.zeroValue4
  t23 := Try.underlying131
  a23 := Try.isAgg131
  z23 := Try.sizeOf131
  v23 := Try.zeroValue131
  t26 := Try.underlying9
  a26 := Try.isAgg9
  z26 := Try.sizeOf9
  v26 := Try.zeroValue9
  t27 := Try.underlying118
  a27 := Try.isAgg118
  z27 := Try.sizeOf118
  v27 := Try.zeroValue118
  t28 := Try.underlying119
  a28 := Try.isAgg119
  z28 := Try.sizeOf119
  v28 := Try.zeroValue119
  t33 := Try.underlying122
  a33 := Try.isAgg122
  z33 := Try.sizeOf122
  v33 := Try.zeroValue122
def sortedS_ren : Go.Shelf.Ren := ⟨fun | 6 => 75 | 8 => 96 | 9 => 97 | 11 => 111 | 13 => 82 | 12 => 112 | 23 => 107 | 24 => 108 | 14 => 118 | 15 => 119 | 16 => 120 | 17 => 121 | 18 => 122 | 19 => 123 | 20 => 124 | 21 => 125 | 22 => 126 | 25 => 128 | 26 => 114 | 27 => 115 | 28 => 129 | 29 => 130 | 30 => 131 | 31 => 132 | n => n, fun | 26 => 9 | 28 => 119 | 24 => 88 | 0 => 0 | 3 => 3 | 37 => 125 | 48 => 153 | 50 => 96 | 4 => 4 | 40 => 146 | 39 => 145 | 45 => 150 | 5 => 5 | 9 => 9 | 51 => 158 | 55 => 162 | 57 => 170 | 58 => 171 | 33 => 122 | n => n, fun | n => n⟩
theorem sortedS : Go.Proofs.SlLaysZ.n6 Try.prog sortedS_ren where
  mixed := by kernel_rfl
  f6 := ⟨Try.f75.name, by decide, Try.func75.trans (congrArg some (by kernel_rfl))⟩
  f8 := ⟨Try.f96.name, by decide, Try.func96.trans (congrArg some (by kernel_rfl))⟩
  f11 := ⟨Try.f111.name, by decide, Try.func111.trans (congrArg some (by kernel_rfl))⟩
  t0 := Try.underlying0
  a0 := Try.isAgg0
  z0 := Try.sizeOf0
  v0 := Try.zeroValue0
  t24 := Try.underlying88
  a24 := Try.isAgg88
  z24 := Try.sizeOf88
  v24 := Try.zeroValue88
  t26 := Try.underlying9
  a26 := Try.isAgg9
  z26 := Try.sizeOf9
  v26 := Try.zeroValue9
  t28 := Try.underlying119
  a28 := Try.isAgg119
  z28 := Try.sizeOf119
  v28 := Try.zeroValue119
  i26 := by kernel_rfl
def sortS_ren : Go.Shelf.Ren := ⟨fun | 6 => 97 | 8 => 82 | 9 => 112 | 19 => 107 | 20 => 108 | 21 => 118 | 22 => 119 | 23 => 120 | 24 => 121 | 25 => 122 | 26 => 123 | 27 => 124 | 28 => 125 | 29 => 126 | 36 => 128 | 31 => 114 | 32 => 115 | 37 => 129 | 38 => 130 | 39 => 131 | 41 => 132 | n => n, fun | 27 => 88 | 29 => 9 | 3 => 3 | 32 => 125 | 26 => 88 | 0 => 0 | 44 => 153 | 46 => 96 | 4 => 4 | 36 => 146 | 35 => 145 | 41 => 150 | 5 => 5 | 9 => 9 | 53 => 158 | 57 => 162 | 63 => 170 | 64 => 171 | n => n, fun | n => n⟩
theorem sortS : Go.Proofs.SlLaysM.n6 Try.prog sortS_ren where
  mixed := by kernel_rfl
  f6 := ⟨Try.f97.name, by decide, Try.func97.trans (congrArg some (by kernel_rfl))⟩
  f8 := Try.func82.trans (congrArg some (by kernel_rfl))
  f9 := ⟨Try.f112.name, by decide, Try.func112.trans (congrArg some (by kernel_rfl))⟩
  f19 := Try.func107.trans (congrArg some (by kernel_rfl))
  f20 := Try.func108.trans (congrArg some (by kernel_rfl))
  f21 := ⟨Try.f118.name, by decide, Try.func118.trans (congrArg some (by kernel_rfl))⟩
  f22 := ⟨Try.f119.name, by decide, Try.func119.trans (congrArg some (by kernel_rfl))⟩
  f23 := ⟨Try.f120.name, by decide, Try.func120.trans (congrArg some (by kernel_rfl))⟩
  f24 := ⟨Try.f121.name, by decide, Try.func121.trans (congrArg some (by kernel_rfl))⟩
  f25 := ⟨Try.f122.name, by decide, Try.func122.trans (congrArg some (by kernel_rfl))⟩
  f26 := ⟨Try.f123.name, by decide, Try.func123.trans (congrArg some (by kernel_rfl))⟩
  f27 := ⟨Try.f124.name, by decide, Try.func124.trans (congrArg some (by kernel_rfl))⟩
  f28 := ⟨Try.f125.name, by decide, Try.func125.trans (congrArg some (by kernel_rfl))⟩
  f29 := ⟨Try.f126.name, by decide, Try.func126.trans (congrArg some (by kernel_rfl))⟩
  f31 := Try.func114.trans (congrArg some (by kernel_rfl))
  f32 := Try.func115.trans (congrArg some (by kernel_rfl))
  f36 := ⟨Try.f128.name, by decide, Try.func128.trans (congrArg some (by kernel_rfl))⟩
  f37 := ⟨Try.f129.name, by decide, Try.func129.trans (congrArg some (by kernel_rfl))⟩
  f38 := ⟨Try.f130.name, by decide, Try.func130.trans (congrArg some (by kernel_rfl))⟩
  f39 := ⟨Try.f131.name, by decide, Try.func131.trans (congrArg some (by kernel_rfl))⟩
  f41 := ⟨Try.f132.name, by decide, Try.func132.trans (congrArg some (by kernel_rfl))⟩
  t0 := Try.underlying0
  a0 := Try.isAgg0
  z0 := Try.sizeOf0
  v0 := Try.zeroValue0
  t3 := Try.underlying3
  a3 := Try.isAgg3
  z3 := Try.sizeOf3
  v3 := Try.zeroValue3
  t4 := Try.underlying4
  a4 := Try.isAgg4
  z4 := Try.sizeOf4
  v4 := Try.zeroValue4
  t5 := Try.underlying5
  a5 := Try.isAgg5
  z5 := Try.sizeOf5
  v5 := Try.zeroValue5
  t9 := Try.underlying9
  a9 := Try.isAgg9
  z9 := Try.sizeOf9
  v9 := Try.zeroValue9
  t26 := Try.underlying88
  a26 := Try.isAgg88
  z26 := Try.sizeOf88
  v26 := Try.zeroValue88
  t27 := Try.underlying88
  a27 := Try.isAgg88
  z27 := Try.sizeOf88
  v27 := Try.zeroValue88
  t29 := Try.underlying9
  a29 := Try.isAgg9
  z29 := Try.sizeOf9
  v29 := Try.zeroValue9
  t32 := Try.underlying125
  a32 := Try.isAgg125
  z32 := Try.sizeOf125
  v32 := Try.zeroValue125
  t35 := Try.underlying145
  a35 := Try.isAgg145
  z35 := Try.sizeOf145
  v35 := Try.zeroValue145
  t36 := Try.underlying146
  a36 := Try.isAgg146
  z36 := Try.sizeOf146
  v36 := Try.zeroValue146
  t41 := Try.underlying150
  a41 := Try.isAgg150
  z41 := Try.sizeOf150
  v41 := Try.zeroValue150
  t44 := Try.underlying153
  a44 := Try.isAgg153
  z44 := Try.sizeOf153
  v44 := Try.zeroValue153
  t46 := Try.underlying96
  a46 := Try.isAgg96
  z46 := Try.sizeOf96
  v46 := Try.zeroValue96
  t53 := Try.underlying158
  a53 := Try.isAgg158
  z53 := Try.sizeOf158
  v53 := Try.zeroValue158
  t57 := Try.underlying162
  a57 := Try.isAgg162
  z57 := Try.sizeOf162
  v57 := Try.zeroValue162
  t63 := Try.underlying170
  a63 := Try.isAgg170
  z63 := Try.sizeOf170
  v63 := Try.zeroValue170
  t64 := Try.underlying171
  a64 := Try.isAgg171
  z64 := Try.sizeOf171
  v64 := Try.zeroValue171
def keysC_ren : Go.Shelf.Ren := ⟨fun | 7 => 76 | 10 => 98 | n => n, fun | 23 => 115 | 26 => 9 | 3 => 35 | 28 => 119 | 0 => 0 | 27 => 118 | 33 => 122 | 4 => 4 | n => n, fun | n => n⟩
theorem keysC : Go.Proofs.SlLaysZ.n7 Try.prog keysC_ren where
  mixed := by kernel_rfl
  f7 := ⟨Try.f76.name, by decide, Try.func76.trans (congrArg some (by kernel_rfl))⟩
  f10 := ⟨Try.f98.name, by decide, Try.func98.trans (congrArg some (by kernel_rfl))⟩
  t0 := Try.underlying0
  a0 := Try.isAgg0
  z0 := Try.sizeOf0
  v0 := Try.zeroValue0
  t4 := Try.underlying4
  a4 := Try.isAgg4
  z4 := Try.sizeOf4
  v4 := Try.zeroValue4
  t23 := Try.underlying115
  a23 := Try.isAgg115
  z23 := Try.sizeOf115
  v23 := Try.zeroValue115
  t26 := Try.underlying9
  a26 := Try.isAgg9
  z26 := Try.sizeOf9
  v26 := Try.zeroValue9
  t27 := Try.underlying118
  a27 := Try.isAgg118
  z27 := Try.sizeOf118
  v27 := Try.zeroValue118
  t28 := Try.underlying119
  a28 := Try.isAgg119
  z28 := Try.sizeOf119
  v28 := Try.zeroValue119
  t33 := Try.underlying122
  a33 := Try.isAgg122
  z33 := Try.sizeOf122
  v33 := Try.zeroValue122
/-- slices.Sort's two contracts at this dump, at the fence that asks nothing. -/
theorem sortsT (m : Nat) : AnyZ.SortsIn Try.prog sortedS_ren Fence.wide m :=
  ⟨fun blk off cap ss W hH hblk hsz => callsIn_wide.2 (AnyM.slices_Sort_string sortS blk off cap ss W hH hblk hsz),
   fun p cap W => callsIn_wide.2 (AnyM.slices_Sort_string_none sortS p cap W)⟩

def strB (x : List UInt8) : Str := ⟨x.toArray⟩
theorem strB_data (x : List UInt8) : (strB x).data.toList = x := by simp [strB]
theorem strB_of (s : Str) : strB s.data.toList = s := by cases s; simp [strB]
theorem strB_inj {x y : List UInt8} (h : strB x = strB y) : x = y := by rw [← strB_data x, h, strB_data]
theorem slt_strB (x y : List UInt8) : slt (strB x) (strB y) = decide (x < y) := by
  unfold slt
  rw [Go.Proofs.bytesLess_eq, Lib.toList_data, Lib.toList_data, strB_data, strB_data]
theorem strKeys_has {P : Program} {k : TypeId} {α : Type} {enc : α → Value} {w : World} {b n : Nat} {D : DataW Value} {f : Str → Option α} (hk : P.underlying k = some .string) (h : w.ownsMap P k heldR b n D) (hr : GReads enc D f) :
    (strKeys D).Nodup ∧ ∀ s : Str, s.data.toList ∈ strKeys D ↔ (f s).isSome = true := by
  obtain ⟨es, rfl, hp, hl⟩ := h.entries (string_keyed hk)
  obtain ⟨es', e, hkk⟩ := h.keysOf
  cases e
  have hks : ∀ p ∈ es, ∃ x, p.1 = .string x := fun p hp' => by
    obtain ⟨key, hkey⟩ := hkk p hp'
    obtain ⟨x, _, e2, _⟩ := Maps.keyOf_str hk hkey
    exact ⟨x, e2⟩
  constructor
  · show (es.map fun p => strOf p.1).Nodup
    refine List.pairwise_map.2 (hp.imp_of_mem fun {p q} hp' hq' hne e => hne ?_)
    obtain ⟨a, ha⟩ := hks p hp'
    obtain ⟨b, hb⟩ := hks q hq'
    rw [ha, hb] at e ⊢
    exact congrArg _ e
  · intro s
    rw [← (hr.2 s).1, has_eq, List.any_eq_true]
    show s.data.toList ∈ es.map (fun p => strOf p.1) ↔ _
    rw [List.mem_map]
    constructor
    · rintro ⟨p, hp', e⟩
      obtain ⟨x, hx⟩ := hks p hp'
      rw [hx] at e
      refine ⟨p, hp', ?_⟩
      rw [hx, show x = s.data.toList from e]
      exact WideAt.sameKey_self (lit_key s)
    · rintro ⟨p, hp', e⟩
      obtain ⟨x, hx⟩ := hks p hp'
      refine ⟨p, hp', ?_⟩
      rw [hx] at e ⊢
      refine Classical.byContradiction fun hne => ?_
      have hn : (Lit.string x) ≠ lit s := fun e' => hne (by unfold lit at e'; injection e')
      rw [sameKey_ne hn] at e
      cases e
theorem sorted_srt {l : List (List UInt8)} (hn : l.Nodup) : Srt ((l.mergeSort leB).map strB) := by
  have tr : ∀ a b c : List UInt8, leB a b = true → leB b c = true → leB a c = true := fun a b c h1 h2 => by simp only [leB, decide_eq_true_eq] at *; exact List.le_trans h1 h2
  have to : ∀ a b : List UInt8, (leB a b || leB b a) = true := fun a b => by simp only [leB, Bool.or_eq_true, decide_eq_true_eq]; exact List.le_total a b
  have h1 := List.pairwise_mergeSort tr to l
  have h2 : (l.mergeSort leB).Nodup := (List.mergeSort_perm l leB).nodup_iff.2 hn
  unfold Srt
  rw [List.pairwise_map]
  refine (h2.and h1).imp fun {x y} h => ?_
  rw [slt_strB, decide_eq_true_iff]
  obtain ⟨hne, hle⟩ := h
  simp only [leB, decide_eq_true_eq] at hle
  rcases slt_total (strB x) (strB y) with e | e | e
  · rw [slt_strB, decide_eq_true_iff] at e; exact e
  · exact absurd (strB_inj e) hne
  · rw [slt_strB, decide_eq_true_iff] at e
    exact absurd e (by simpa using hle)
theorem own_strs {w : World} {base e : Nat} {v : Value} {ss : List (List UInt8)} {n : Nat} (hn : ss.length = n) (h : w.ownsRow base e 1 v n (ss.map encStr)) : Own strEnc 1 e base w v (ss.map strB) := by
  unfold Own
  have e1 : (ss.map strB).flatMap strEnc = ss.map encStr := by
    clear h hn
    induction ss with
    | nil => rfl
    | cons x ss ih =>
      simp only [List.map_cons, List.flatMap_cons, ih]
      rfl
  rw [e1, List.length_map, hn]
  exact h

set_option maxRecDepth 100000 in
theorem keysB_calls (mb : Option Nat) (W : World) : Calls Try.prog 85 #[.map mb] W fun e w' => e = .returned (.func (.func 110) #[] #[.pointer (some ⟨W.heap.size, 0, none⟩)]) ∧ w' = W.alloc (.cells #[.map mb] 131) :=
  (callsIn_wide (n := 5)).1 (AnyZ.keys_in keysB Fence.wide 5 trivial rfl mb W)
set_option maxRecDepth 100000 in
set_option maxHeartbeats 1000000 in
theorem sortedB_calls {α : Type} (enc : α → Value) (b n : Nat) (f : Str → Option α) (w : World) (hn : n ≤ 1000000) (h : MapG Try.prog 9 enc w b n f) :
    Calls Try.prog 75 #[.func (.func 110) #[] #[.pointer (some ⟨w.heap.size, 0, none⟩)]] (w.alloc (.cells #[.map (some b)] 131)) fun e w' => ∃ (v : Value) (ks : List Str), e = .returned v ∧
      Own strEnc 1 9 w.heap.size w' v ks ∧ Srt ks ∧ (∀ k, k ∈ ks ↔ (f k).isSome = true) ∧ ks.length ≤ n ∧ Below w.heap.size w w' := by
  obtain ⟨D, hown, hr⟩ := h
  have hsz := hown.size_le
  have hbl := hown.lt
  have hsp := strKeys_has Try.underlying9 hown hr
  have hlen : (strKeys D).length = Maps.size D := by
    obtain ⟨es, rfl, _⟩ := hown.entries (string_keyed Try.underlying9)
    simp [strKeys, Maps.size]
  have hseq : SeqGives Fence.wide 2 Try.prog 110 #[.pointer (some ⟨w.heap.size, 0, none⟩)] encStr (fun ss => ss.Perm (strKeys D)) (Maps.size D) (w.alloc (.cells #[.map (some b)] 131)) :=
    AnyZ.keys_gives (ρ := keysB_ren) { keysB with } Fence.wide _ trivial rfl (by omega) w.heap.size b n D _ (by simp) (by simp) (by
      obtain ⟨es, clock, hb, Ft, hs, hD⟩ := hown
      exact ⟨es, clock, (Below.heap_alloc _ _ b hbl).trans hb, Ft, hs, hD⟩)
  have cS := AnyZ.sorted_in sortedS Fence.wide 5 trivial trivial trivial trivial rfl (by omega) (sortsT _) (enters_of Try.func97 (by kernel_rfl) rfl) 110 #[.pointer (some ⟨w.heap.size, 0, none⟩)] trivial (enters_of Try.func110 (by kernel_rfl) rfl) _ _ (by unfold maxLen; omega) (by omega) _ hseq
  change CallsIn _ _ Try.prog 75 _ _ _ at cS
  refine ((callsIn_wide (n := 5)).1 cS).mono ?_
  rintro e w' ⟨v, ss, rfl, hS, hrow, hnil, hb⟩
  have hnd := hS.nodup_iff.2 hsp.1
  refine ⟨v, (ss.mergeSort leB).map strB, rfl, ?_, sorted_srt hnd, fun k => ?_, ?_, ?_⟩
  · exact (own_strs (by rw [(List.mergeSort_perm ss leB).length_eq]) hrow).mono (by simp)
  · rw [← hsp.2 k, List.mem_map]
    constructor
    · rintro ⟨x, hx, rfl⟩
      rw [strB_data]
      exact hS.mem_iff.1 ((List.mergeSort_perm ss leB).mem_iff.1 hx)
    · intro hk
      exact ⟨_, (List.mergeSort_perm ss leB).mem_iff.2 (hS.mem_iff.2 hk), strB_of k⟩
  · rw [List.length_map, (List.mergeSort_perm ss leB).length_eq, hS.length_eq]; omega
  · exact ((Below.refl _ w).alloc (Nat.le_refl _) _).trans (hb.mono (by simp))

set_option maxRecDepth 100000 in
theorem keysC_calls (mb : Option Nat) (W : World) : Calls Try.prog 76 #[.map mb] W fun e w' => e = .returned (.func (.func 98) #[] #[.pointer (some ⟨W.heap.size, 0, none⟩)]) ∧ w' = W.alloc (.cells #[.map mb] 115) :=
  (callsIn_wide (n := 5)).1 (AnyZ.keys_in keysC Fence.wide 5 trivial rfl mb W)
set_option maxRecDepth 100000 in
set_option maxHeartbeats 1000000 in
theorem sortedC_calls {α : Type} (enc : α → Value) (b n : Nat) (f : Str → Option α) (w : World) (hn : n ≤ 1000000) (h : MapG Try.prog 9 enc w b n f) :
    Calls Try.prog 75 #[.func (.func 98) #[] #[.pointer (some ⟨w.heap.size, 0, none⟩)]] (w.alloc (.cells #[.map (some b)] 115)) fun e w' => ∃ (v : Value) (ks : List Str), e = .returned v ∧
      Own strEnc 1 9 w.heap.size w' v ks ∧ Srt ks ∧ (∀ k, k ∈ ks ↔ (f k).isSome = true) ∧ ks.length ≤ n ∧ Below w.heap.size w w' := by
  obtain ⟨D, hown, hr⟩ := h
  have hsz := hown.size_le
  have hbl := hown.lt
  have hsp := strKeys_has Try.underlying9 hown hr
  have hlen : (strKeys D).length = Maps.size D := by
    obtain ⟨es, rfl, _⟩ := hown.entries (string_keyed Try.underlying9)
    simp [strKeys, Maps.size]
  have hseq : SeqGives Fence.wide 2 Try.prog 98 #[.pointer (some ⟨w.heap.size, 0, none⟩)] encStr (fun ss => ss.Perm (strKeys D)) (Maps.size D) (w.alloc (.cells #[.map (some b)] 115)) :=
    AnyZ.keys_gives (ρ := keysC_ren) { keysC with } Fence.wide _ trivial rfl (by omega) w.heap.size b n D _ (by simp) (by simp) (by
      obtain ⟨es, clock, hb, Ft, hs, hD⟩ := hown
      exact ⟨es, clock, (Below.heap_alloc _ _ b hbl).trans hb, Ft, hs, hD⟩)
  have cS := AnyZ.sorted_in sortedS Fence.wide 5 trivial trivial trivial trivial rfl (by omega) (sortsT _) (enters_of Try.func97 (by kernel_rfl) rfl) 98 #[.pointer (some ⟨w.heap.size, 0, none⟩)] trivial (enters_of Try.func98 (by kernel_rfl) rfl) _ _ (by unfold maxLen; omega) (by omega) _ hseq
  change CallsIn _ _ Try.prog 75 _ _ _ at cS
  refine ((callsIn_wide (n := 5)).1 cS).mono ?_
  rintro e w' ⟨v, ss, rfl, hS, hrow, hnil, hb⟩
  have hnd := hS.nodup_iff.2 hsp.1
  refine ⟨v, (ss.mergeSort leB).map strB, rfl, ?_, sorted_srt hnd, fun k => ?_, ?_, ?_⟩
  · exact (own_strs (by rw [(List.mergeSort_perm ss leB).length_eq]) hrow).mono (by simp)
  · rw [← hsp.2 k, List.mem_map]
    constructor
    · rintro ⟨x, hx, rfl⟩
      rw [strB_data]
      exact hS.mem_iff.1 ((List.mergeSort_perm ss leB).mem_iff.1 hx)
    · intro hk
      exact ⟨_, (List.mergeSort_perm ss leB).mem_iff.2 (hS.mem_iff.2 hk), strB_of k⟩
  · rw [List.length_map, (List.mergeSort_perm ss leB).length_eq, hS.length_eq]; omega
  · exact ((Below.refl _ w).alloc (Nat.le_refl _) _).trans (hb.mono (by simp))
end Go.Proofs.Ytofdmkglhjpbcaa
