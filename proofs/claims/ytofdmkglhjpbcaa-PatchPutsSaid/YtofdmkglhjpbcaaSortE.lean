/- slices.SortFunc at entries, with diff.Apply's closure: SortOk -/
import Derived.Test.YtofdmkglhjpbcaaApply
import Derived.Test.YtofdmkglhjpbcaaSortP
import Derived.Shelf.SlSortCmp.NoneTotal
import Derived.Ground.SlgcProg
import Derived.Ground.NamesProg
import Derived.Shelf.Lay
import Derived.Ground.SlsfProg
namespace Go.Proofs.Ytofdmkglhjpbcaa
open Go.RowKit
set_option linter.unusedVariables false
set_option linter.unusedSimpArgs false
def sortEn_ren : Go.Shelf.Ren := ⟨fun | 6 => 46 | 15 => 82 | 14 => 81 | 28 => 107 | 29 => 108 | 20 => 99 | 21 => 100 | 22 => 101 | 23 => 102 | 24 => 103 | 25 => 104 | 26 => 105 | 27 => 106 | 46 => 113 | 47 => 114 | 48 => 115 | 49 => 116 | 50 => 117 | 57 => 127 | n => n, fun | 22 => 22 | 24 => 72 | 25 => 82 | 3 => 3 | 39 => 125 | 0 => 0 | 53 => 153 | 55 => 96 | 4 => 4 | 46 => 146 | 45 => 145 | 50 => 150 | 5 => 5 | 9 => 9 | 66 => 158 | 70 => 162 | 76 => 170 | 77 => 171 | n => n, fun | n => n⟩
theorem sortEn : Go.Proofs.SlLaysF0.n6 Try.prog sortEn_ren where
  mixed := by kernel_rfl
  f6 := ⟨Try.f46.name, by decide, Try.func46.trans (congrArg some (by kernel_rfl))⟩
  f14 := ⟨Try.f81.name, by decide, Try.func81.trans (congrArg some (by kernel_rfl))⟩
  f15 := Try.func82.trans (congrArg some (by kernel_rfl))
  f20 := ⟨Try.f99.name, by decide, Try.func99.trans (congrArg some (by kernel_rfl))⟩
  f21 := ⟨Try.f100.name, by decide, Try.func100.trans (congrArg some (by kernel_rfl))⟩
  f22 := ⟨Try.f101.name, by decide, Try.func101.trans (congrArg some (by kernel_rfl))⟩
  f23 := ⟨Try.f102.name, by decide, Try.func102.trans (congrArg some (by kernel_rfl))⟩
  f24 := ⟨Try.f103.name, by decide, Try.func103.trans (congrArg some (by kernel_rfl))⟩
  f25 := ⟨Try.f104.name, by decide, Try.func104.trans (congrArg some (by kernel_rfl))⟩
  f26 := ⟨Try.f105.name, by decide, Try.func105.trans (congrArg some (by kernel_rfl))⟩
  f27 := ⟨Try.f106.name, by decide, Try.func106.trans (congrArg some (by kernel_rfl))⟩
  f28 := Try.func107.trans (congrArg some (by kernel_rfl))
  f29 := Try.func108.trans (congrArg some (by kernel_rfl))
  f46 := ⟨Try.f113.name, by decide, Try.func113.trans (congrArg some (by kernel_rfl))⟩
  f47 := Try.func114.trans (congrArg some (by kernel_rfl))
  f48 := Try.func115.trans (congrArg some (by kernel_rfl))
  f49 := ⟨Try.f116.name, by decide, Try.func116.trans (congrArg some (by kernel_rfl))⟩
  f50 := ⟨Try.f117.name, by decide, Try.func117.trans (congrArg some (by kernel_rfl))⟩
  f57 := ⟨Try.f127.name, by decide, Try.func127.trans (congrArg some (by kernel_rfl))⟩
  t0 := Try.underlying0
  a0 := Try.isAgg0
  z0 := Try.sizeOf0
  v0 := Try.zeroValue0
  t3 := Try.underlying3
  a3 := Try.isAgg3
  z3 := Try.sizeOf3
  v3 := Try.zeroValue3
  t4 := Try.underlying4
  a4 := Try.isAgg4
  z4 := Try.sizeOf4
  v4 := Try.zeroValue4
  t5 := Try.underlying5
  a5 := Try.isAgg5
  z5 := Try.sizeOf5
  v5 := Try.zeroValue5
  t9 := Try.underlying9
  a9 := Try.isAgg9
  z9 := Try.sizeOf9
  v9 := Try.zeroValue9
  t22 := Try.underlying22
  a22 := Try.isAgg22
  z22 := Try.sizeOf22
  v22 := Try.zeroValue22
  t25 := Try.underlying82
  a25 := Try.isAgg82
  z25 := Try.sizeOf82
  v25 := Try.zeroValue82
  t39 := Try.underlying125
  a39 := Try.isAgg125
  z39 := Try.sizeOf125
  v39 := Try.zeroValue125
  t45 := Try.underlying145
  a45 := Try.isAgg145
  z45 := Try.sizeOf145
  v45 := Try.zeroValue145
  t46 := Try.underlying146
  a46 := Try.isAgg146
  z46 := Try.sizeOf146
  v46 := Try.zeroValue146
  t50 := Try.underlying150
  a50 := Try.isAgg150
  z50 := Try.sizeOf150
  v50 := Try.zeroValue150
  t53 := Try.underlying153
  a53 := Try.isAgg153
  z53 := Try.sizeOf153
  v53 := Try.zeroValue153
  t55 := Try.underlying96
  a55 := Try.isAgg96
  z55 := Try.sizeOf96
  v55 := Try.zeroValue96
  t66 := Try.underlying158
  a66 := Try.isAgg158
  z66 := Try.sizeOf158
  v66 := Try.zeroValue158
  t70 := Try.underlying162
  a70 := Try.isAgg162
  z70 := Try.sizeOf162
  v70 := Try.zeroValue162
  t76 := Try.underlying170
  a76 := Try.isAgg170
  z76 := Try.sizeOf170
  v76 := Try.zeroValue170
  t77 := Try.underlying171
  a77 := Try.isAgg171
  z77 := Try.sizeOf171
  v77 := Try.zeroValue171
def cfE (x y : Entry) : Int := if slt x.key y.key then -1 else 1
theorem ltE (x y : Entry) : ltOf cfE x y = slt x.key y.key := by
  unfold ltOf cfE
  cases slt x.key y.key <;> simp

open Go.Sort (grow grow_grow alloc_eq_grow) in
theorem closE (x y : Entry) (W : World) : Calls Try.prog 47 #[.agg #[.string x.key, .string x.val], .agg #[.string y.key, .string y.val]] W fun e w' => e = .returned (.int .i64 (cfE x y)) ∧ ∃ q os', w' = grow (W.drewN q) os' := by
  have hc : Hid (cfE x y = if slt x.key y.key then -1 else 1) := rfl
  cases hq : slt x.key y.key with
  | true =>
    rw [hq] at hc
    have hq' : Op.bytesLess x.key.toList y.key.toList = true := hq
    clear hq
    go_enter Try.func47, Try.ntmps47
    go_wp2
    go_ret
    exact ⟨by rw [hc.out]; rfl, 0, _, by rw [alloc_eq_grow, alloc_eq_grow, grow_grow]; rfl⟩
  | false =>
    rw [hq] at hc
    have hq' : Op.bytesLess x.key.toList y.key.toList = false := hq
    clear hq
    go_enter Try.func47, Try.ntmps47
    go_wp2
    go_ret
    exact ⟨by rw [hc.out]; rfl, 0, _, by rw [alloc_eq_grow, alloc_eq_grow, grow_grow]; rfl⟩

theorem swoE : Go.Sort.SWO (ltOf cfE) where
  irrefl x := by rw [ltE]; exact slt_irrefl _
  trans x y z h1 h2 := by rw [ltE] at *; exact slt_trans h1 h2
  ntrans x y z h1 h2 := by
    rw [ltE] at *
    cases h : slt x.key z.key with
    | false => rfl
    | true =>
      rcases slt_total x.key y.key with e | e | e
      · rw [e] at h1; cases h1
      · rw [e, h2] at h; cases h
      · have := slt_trans e h
        rw [h2] at this; cases this

theorem sortSome (w : World) (base g cap : Nat) (l : List Entry) (hl : l.length < 4611686018427387904) (h : Own Entry.enc 2 72 base w (.slice (some ⟨g, 0, none⟩) l.length cap) l) :
    Calls Try.prog 46 #[.slice (some ⟨g, 0, none⟩) l.length cap, Value.func (.func 47) #[] #[]] w fun e w' => e = .returned (.tuple #[]) ∧ ∃ l' : List Entry, Own Entry.enc 2 72 base w' (.slice (some ⟨g, 0, none⟩) l.length cap) l' ∧ l'.Perm l ∧ l'.Pairwise (fun x y => slt y.key x.key = false) ∧ w.grownBy w' (some g) := by
  have eg : ∀ args w, (callFunc 47 args).run Try.prog w = .ok (.enter 47 args) w := enters_of Try.func47 (by kernel_rfl) rfl
  have hH := own_holds Entry.ok h
  have hcon := AnyQ.slices_SortFunc sortEn 2 Try.isAgg72 Try.sizeOf72 Entry.enc (fun _ => rfl) Entry.ok.one cfE swoE 47 #[] g 0 cap l.toArray w eg (fun _ _ _ _ x y => closE x y _) hH.1 hH.2 (by simpa using hl)
  have hsz : l.toArray.size = l.length := by simp
  rw [hsz] at hcon
  change Calls Try.prog 46 _ _ _ at hcon
  refine hcon.mono ?_
  rintro e w' ⟨rfl, d', n, os, hp, hs, rfl⟩
  rw [← hsz] at hp
  obtain ⟨hpm, hdl⟩ := perm_of hp
  have ho := own_sorted Entry.ok h (l' := d'.toList) (by simpa using hdl) n os
  refine ⟨rfl, d'.toList, by simpa using ho.1, hpm, ?_, by simpa using ho.2⟩
  exact (sorted_of hdl hs).imp fun {x y} hxy => by rw [← ltE]; exact hxy

theorem sortNone (w : World) (fv : Value) : Calls Try.prog 46 #[.slice none 0 0, fv] w fun e w' => e = .returned (.tuple #[]) ∧ w' = w := by
  have hcon := AnyF.slices_SortFunc_none sortEn none 0 fv w
  exact hcon
theorem sortOk : SortOk := by
  intro w base v l hl h
  rcases h.2 with ⟨rfl, h0⟩ | ⟨g, cap, cur, rfl, hb, hh, h1, h2, h3, h4⟩
  · have hl0 : l = [] := List.eq_nil_of_length_eq_zero h0
    subst hl0
    refine (sortNone w _).mono ?_
    rintro e w' ⟨rfl, rfl⟩
    exact ⟨rfl, [], h, List.Perm.refl _, List.Pairwise.nil, grown_refl _ _⟩
  · exact sortSome w base g cap l hl h
end Go.Proofs.Ytofdmkglhjpbcaa
