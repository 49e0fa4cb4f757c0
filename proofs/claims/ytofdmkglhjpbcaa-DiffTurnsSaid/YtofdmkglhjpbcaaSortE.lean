/- slices.SortFunc at entries, with diff.Apply's closure: SortOk -/
import Derived.Test.YtofdmkglhjpbcaaApply
import Derived.Test.YtofdmkglhjpbcaaSortP
import Derived.Shelf.SlSortCmp.NoneTotal
import Derived.Ground.SlgcProg
import Derived.Ground.NamesProg
import Derived.Shelf.Lay
import Derived.Ground.SlsfProg
namespace Go.Proofs.Ytofdmkglhjpbcaa
open Go.RowKit
set_option linter.unusedVariables false
set_option linter.unusedSimpArgs false
open Go.Shelf Go.Lib Go.Sort in
shelf_lay_g SlLaysF0.n6 Slsf 6 at Try 46 as sortEn
def cfE (x y : Entry) : Int := if slt x.key y.key then -1 else 1
theorem ltE (x y : Entry) : ltOf cfE x y = slt x.key y.key := by
  unfold ltOf cfE
  cases slt x.key y.key <;> simp

open Go.Sort (grow grow_grow alloc_eq_grow) in
theorem closE (x y : Entry) (W : World) : Calls Try.prog 47 #[.agg #[.string x.key, .string x.val], .agg #[.string y.key, .string y.val]] W fun e w' => e = .returned (.int .i64 (cfE x y)) ∧ ∃ q os', w' = grow (W.drewN q) os' := by
  have hc : Hid (cfE x y = if slt x.key y.key then -1 else 1) := rfl
  cases hq : slt x.key y.key with
  | true =>
    rw [hq] at hc
    have hq' : Op.bytesLess x.key.toList y.key.toList = true := hq
    clear hq
    go_enter Try.func47, Try.ntmps47
    go_wp2
    go_ret
    exact ⟨by rw [hc.out]; rfl, 0, _, by rw [alloc_eq_grow, alloc_eq_grow, grow_grow]; rfl⟩
  | false =>
    rw [hq] at hc
    have hq' : Op.bytesLess x.key.toList y.key.toList = false := hq
    clear hq
    go_enter Try.func47, Try.ntmps47
    go_wp2
    go_ret
    exact ⟨by rw [hc.out]; rfl, 0, _, by rw [alloc_eq_grow, alloc_eq_grow, grow_grow]; rfl⟩

theorem swoE : Go.Sort.SWO (ltOf cfE) where
  irrefl x := by rw [ltE]; exact slt_irrefl _
  trans x y z h1 h2 := by rw [ltE] at *; exact slt_trans h1 h2
  ntrans x y z h1 h2 := by
    rw [ltE] at *
    cases h : slt x.key z.key with
    | false => rfl
    | true =>
      rcases slt_total x.key y.key with e | e | e
      · rw [e] at h1; cases h1
      · rw [e, h2] at h; cases h
      · have := slt_trans e h
        rw [h2] at this; cases this

theorem sortSome (w : World) (base g cap : Nat) (l : List Entry) (hl : l.length < 4611686018427387904) (h : Own Entry.enc 2 72 base w (.slice (some ⟨g, 0, none⟩) l.length cap) l) :
    Calls Try.prog 46 #[.slice (some ⟨g, 0, none⟩) l.length cap, Value.func (.func 47) #[] #[]] w fun e w' => e = .returned (.tuple #[]) ∧ ∃ l' : List Entry, Own Entry.enc 2 72 base w' (.slice (some ⟨g, 0, none⟩) l.length cap) l' ∧ l'.Perm l ∧ l'.Pairwise (fun x y => slt y.key x.key = false) ∧ w.grownBy w' (some g) := by
  have eg : ∀ args w, (callFunc 47 args).run Try.prog w = .ok (.enter 47 args) w := enters_of Try.func47 (by kernel_rfl) rfl
  have hH := own_holds Entry.ok h
  have hcon := AnyQ.slices_SortFunc sortEn 2 Try.isAgg72 Try.sizeOf72 Entry.enc (fun _ => rfl) Entry.ok.one cfE swoE 47 #[] g 0 cap l.toArray w eg (fun _ _ _ _ x y => closE x y _) hH.1 hH.2 (by simpa using hl)
  have hsz : l.toArray.size = l.length := by simp
  rw [hsz] at hcon
  change Calls Try.prog 46 _ _ _ at hcon
  refine hcon.mono ?_
  rintro e w' ⟨rfl, d', n, os, hp, hs, rfl⟩
  rw [← hsz] at hp
  obtain ⟨hpm, hdl⟩ := perm_of hp
  have ho := own_sorted Entry.ok h (l' := d'.toList) (by simpa using hdl) n os
  refine ⟨rfl, d'.toList, by simpa using ho.1, hpm, ?_, by simpa using ho.2⟩
  exact (sorted_of hdl hs).imp fun {x y} hxy => by rw [← ltE]; exact hxy

theorem sortNone (w : World) (fv : Value) : Calls Try.prog 46 #[.slice none 0 0, fv] w fun e w' => e = .returned (.tuple #[]) ∧ w' = w := by
  have hcon := AnyF.slices_SortFunc_none sortEn none 0 fv w
  exact hcon
theorem sortOk : SortOk := by
  intro w base v l hl h
  rcases h.2 with ⟨rfl, h0⟩ | ⟨g, cap, cur, rfl, hb, hh, h1, h2, h3, h4⟩
  · have hl0 : l = [] := List.eq_nil_of_length_eq_zero h0
    subst hl0
    refine (sortNone w _).mono ?_
    rintro e w' ⟨rfl, rfl⟩
    exact ⟨rfl, [], h, List.Perm.refl _, List.Pairwise.nil, grown_refl _ _⟩
  · exact sortSome w base g cap l hl h
end Go.Proofs.Ytofdmkglhjpbcaa
