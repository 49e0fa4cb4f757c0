/- For every three sides, 'apographlaw12.MergeKeys' returns true and leaves its arguments as they were. No condition. -/
import Derived.Test.YtglpckdmiohciaaRows
import Derived.Test.YtglpckdmiohciaaPMergeKeysx
import Derived.WalkKit
import Derived.ProofKit
import Derived.OpenShut
import Derived.ShutString
import Derived.Below
import Derived.Carry
import Derived.Lib.SmallJoins
namespace Go.Proofs.Ytglpckdmiohciaa.MergeKeysRow
open Go.ChangeShapes Go.WideShapes Go.ChangeAt Go.RowKit Go.Joins
open Go.ChangeMaps (open_string shut_string)
open Go.Proofs.Ytglpckdmiohciaa.PMergeKeys
set_option linter.unusedVariables false
set_option linter.unusedSimpArgs false

theorem own : ownKnob Try.prog.godebug = none := by kernel_rfl
theorem laidOut : laidOutB Try.prog = true := by kernel_rfl

theorem awake_true : apographlaw12_awake.f 1 = some true := by decide +kernel

theorem pure (a0 : Bool) (s0 : ByteArray) (a1 : Bool) (s1 : ByteArray) (a2 : Bool) (s2 : ByteArray) :
    apographlaw12_MergeKeys.f 1 a0 s0 a1 s1 a2 s2 = some true := by
  unfold apographlaw12_MergeKeys.f
  rw [awake_true]
  simp only [Option.bind_some, if_true]
  unfold merge_Key.f apographref09_Pick.f merge_plain.f apographref09_plain.f
  cases a0 <;> cases a1 <;> cases a2 <;>
    simp only [Option.bind_some, if_true, Bool.false_eq_true, if_false, merge_Key.j0, Bool.and_true, Bool.true_and, Bool.and_false, Bool.false_and]
  all_goals (repeat' split)
  all_goals simp_all

theorem walk (a0 : Bool) (s0 : ByteArray) (a1 : Bool) (s1 : ByteArray) (a2 : Bool) (s2 : ByteArray) (w : World) :
    Calls Try.prog 3 #[.agg #[.bool a0, .string s0], .agg #[.bool a1, .string s1], .agg #[.bool a2, .string s2]] w fun e w' => e = .returned (.bool true) ∧ Below w.heap.size w w' :=
  apographlaw12_MergeKeys.calls 1 a0 s0 a1 s1 a2 s2 true w (pure a0 s0 a1 s1 a2 s2)

set_option maxRecDepth 100000 in
theorem side_open {H : Type} {enc : TypeId × Value → H} {W : World} {base : Nat} {v : Value} {d : DataW H} {p : List MemPlace}
    (hv : Value.okWide Try.prog W .any base 23 v) (h : DataW.Trod enc Try.prog W 0 (fun _ => true) true 23 v d p) :
    ∃ (b : Bool) (s : ByteArray), v = .agg #[.bool b, .string s] := by
  obtain ⟨v0, v1, y0, y1, n, rfl, _, _, h0, h1⟩ := open_agg2 Try.underlying23 (by kernel_rfl) (by kernel_rfl) hv h
  obtain ⟨b, e0, _⟩ := DataW.trod_bool Try.underlying4 h0
  obtain ⟨s, e1, _⟩ := DataW.trod_string Try.underlying9 h1
  simp only [List.cons.injEq, and_true] at e0 e1
  subst e0 e1
  exact ⟨b, s, rfl⟩

set_option maxRecDepth 100000 in
theorem lifted (os : Os) (started : os.Started) (H : Type) (enc : TypeId × Value → H) :
    ReturnsInHanded {} Try.checked os 3 .any (Rows.mergeKeysSpec.pre6 enc Try.prog Try.f3 Rows.mergeKeysRow.domain false) (Rows.mergeKeysSpec.post enc Try.prog Try.f3 false true false false) := by
  refine returnsInHanded_of_change (C := Try.checked) own started (by kernel_rfl) Try.func3
    (ChangeSpec.witness6 (enc := enc) (C := Try.checked) false ⟨#[], #[.agg #[.bool false, .string ⟨#[]⟩], .agg #[.bool false, .string ⟨#[]⟩], .agg #[.bool false, .string ⟨#[]⟩]], []⟩ 8 (by kernel_rfl) (by kernel_rfl) (by kernel_rfl) (by kernel_rfl)) ?_
  intro W base args ds gs before hval0 hW hcnd _
  have hval : ∀ (j : Nat) t v, Try.f3.params[j]? = some t → args[j]? = some v → Value.okWide Try.prog W .any base t v := hval0
  have hW' := hW
  obtain ⟨p, q, hA0, hV, rfl, hfz, hnd⟩ := hW
  have hA : DataW.TrodAll enc Try.prog W 0 (fun _ => true) true Try.f3.params.toList args.toList ds p := hA0
  rw [Try.params3] at hA hval
  obtain ⟨v0, vs0, d0, ds0, p0, q0, hargs, rfl, rfl, h0, r0⟩ := trodAll_cons hA
  obtain ⟨v1, vs1, d1, ds1, p1, q1, rfl, rfl, rfl, h1, r1⟩ := trodAll_cons r0
  obtain ⟨v2, vs2, d2, ds2, p2, q2, rfl, rfl, rfl, h2, r2⟩ := trodAll_cons r1
  obtain ⟨rfl, rfl, rfl⟩ := trodAll_nil r2
  obtain rfl : args = #[v0, v1, v2] := by cases args; simp_all
  obtain ⟨rfl, rfl⟩ := trodVars_none hV
  have k0 := h0
  have lt0 : ∀ x ∈ p0, x.block < W.heap.size := by obtain ⟨m, hm⟩ := k0; exact DataW.trod_lt m _ _ _ hm
  have k1 := h1
  have lt1 : ∀ x ∈ p1, x.block < W.heap.size := by obtain ⟨m, hm⟩ := k1; exact DataW.trod_lt m _ _ _ hm
  have k2 := h2
  have lt2 : ∀ x ∈ p2, x.block < W.heap.size := by obtain ⟨m, hm⟩ := k2; exact DataW.trod_lt m _ _ _ hm
  obtain ⟨a0, s0, rfl⟩ := side_open (hval 0 23 v0 rfl rfl) h0
  obtain ⟨a1, s1, rfl⟩ := side_open (hval 1 23 v1 rfl rfl) h1
  obtain ⟨a2, s2, rfl⟩ := side_open (hval 2 23 v2 rfl rfl) h2
  clear hA0 hval0
  refine (walk a0 s0 a1 s1 a2 s2 W).mono fun e W' ⟨he, bel⟩ => ?_
  subst he
  exact ⟨_, rfl, _, _, _, [], _, [], hW', trodAll_mk1 (shut_bool Try.underlying4 _), (trodAll_cons_mk (Below.trod laidOut (by kernel_rfl) (of_decide_eq_true (by kernel_rfl)) k0 bel lt0) (trodAll_cons_mk (Below.trod laidOut (by kernel_rfl) (of_decide_eq_true (by kernel_rfl)) k1 bel lt1) (trodAll_cons_mk (Below.trod laidOut (by kernel_rfl) (of_decide_eq_true (by kernel_rfl)) k2 bel lt2) trodAll_mk0))), rfl, bel.frame _, fun h => by cases h⟩

theorem mergeKeys_holds : Rows.MergeKeysSaid :=
  OpenClaim.holds_of_wide 3 Try.f3 rfl rfl rfl rfl rfl rfl rfl ⟨rfl, rfl, rfl, rfl, rfl⟩ rfl rfl rfl rfl rfl (by kernel_rfl) Try.func3 (by kernel_rfl)
    (of_decide_eq_true (by kernel_rfl)) (by unfold Func.isWrapper; first | (rw [if_pos (by decide +kernel)]; kernel_rfl) | (rw [if_neg (by decide +kernel)]; exact ⟨rfl, rfl⟩))
    (fun os started H enc _ => lifted os started H enc)
#print axioms mergeKeys_holds
end Go.Proofs.Ytglpckdmiohciaa.MergeKeysRow
