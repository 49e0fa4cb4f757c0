/- XHeld, further: an operation for which z waits through others may be taken first. No program is named here. -/
import Derived.Test.YtglpckdmiohciaaHeld
namespace Go.Proofs.Ytglpckdmiohciaa
open Go.RowKit
set_option linter.unusedVariables false
set_option linter.unusedSimpArgs false

section
variable {P : Program} {ops : Array Oper} {Q : Exit → Act → World → Prop} {md : Region.Mode} {S : World → Prop} {z : Nat}
/-- None of U can come up ahead of i: each waits for i or for one of U. -/
def chained (md : Region.Mode) (ops : Array Oper) (i : Nat) (U : List Nat) : Bool :=
  U.all fun u => match ops[u]? with
    | some o => o.after.any fun e => Region.binds md e && (e.on == i || U.contains e.on)
    | none => false
theorem unrun {i j : Nat} {U : List Nat} {l : Array Bool} (hc : chained md ops i U = true) (hl : ∀ u ∈ U, l.getD u true = false) (hi : i ∈ Region.ready md ops l) (hj : j ∈ Region.ready md ops l) : j ∉ U := by
  intro hU
  obtain ⟨_, o, ho, hall⟩ := mem_ready.1 hj
  have := List.all_eq_true.1 hc j hU
  rw [ho] at this
  obtain ⟨k, hk, he⟩ := Array.any_eq_true.1 this
  simp only [Bool.and_eq_true, Bool.or_eq_true, beq_iff_eq, List.contains_iff_mem] at he
  have hd := hall _ (Array.getElem_mem hk) he.1
  rcases he.2 with e | e
  · exact waits hj ho hi _ (Array.getElem_mem hk) he.1 e
  · have h0 := hl _ e
    generalize (o.after[k]).on = u at *
    rcases Nat.lt_or_ge u l.size with hlt | hge
    · simp [hlt] at h0 hd
      rw [h0] at hd
      cases hd
    · simp [Array.getElem?_eq_none hge] at hd
theorem AnyZ.firstU {i : Nat} {oi : Oper} {v : Value} (U : List Nat) (hi : ops[i]? = some oi) (hzU : z ∈ U) (hc : chained md ops i U = true) (hsel : ∀ (j : Nat) (o : Oper) cs b, ops[j]? = some o → o.op ≠ .select cs b)
    (hQ : ∀ c a w, Q (.panic c) (a.put oi.dst v) w → Q (.panic c) a w) : ∀ (n : Nat) (l : Array Bool) (a : Act) (w : World),
      (∀ j oj, ops[j]? = some oj → j ≠ i → l.getD j true = false → (∀ e ∈ oj.after, Region.binds md e = true → e.on ≠ i) → oi.apart ops oj = true) →
      (∀ u ∈ U, l.getD u true = false) →
      i ∈ Region.ready md ops l → YieldsIf P ops S oi v a → S w → AnyZ P md ops Q S z n (l.setIfInBounds i true) (a.put oi.dst v) w → AnyZ P md ops Q S z (n + 1) l a w := by
  intro n
  have now : ∀ (m : Nat) (l : Array Bool) (a : Act) (w : World), YieldsIf P ops S oi v a → S w → AnyZ P md ops Q S z m (l.setIfInBounds i true) (a.put oi.dst v) w → wpOp P ops Q i (fun a' w' => (i = z ∨ S w') ∧ AnyZ P md ops Q S z m (l.setIfInBounds i true) a' w') a w :=
    fun m l a w hy hS h => hy.wpOp hi hS ⟨.inr hS, h⟩
  induction n with
  | zero =>
    intro l a w _ _ hr hy hS h
    refine ⟨fun e => (by rw [e] at hr; cases hr), fun j hj => ?_⟩
    rcases Decidable.em (j = i) with e | e
    · subst e
      exact now 0 l a w hy hS h
    · have q := ready_mono hj e
      rw [h.1] at q
      cases q
  | succ n ih =>
    intro l a w hfree hU hr hy hS h
    refine ⟨fun e => (by rw [e] at hr; cases hr), fun j hj => ?_⟩
    rcases Decidable.em (j = i) with e | e
    · subst e
      exact now (n + 1) l a w hy hS h
    · obtain ⟨hun, oj, hoj, _⟩ := mem_ready.1 hj
      have hno := waits hj hoj hr
      have hjU := unrun hc hU hr hj
      have hjz : j ≠ z := fun ez => hjU (ez ▸ hzU)
      have step := wpOp_putIf hoj (hfree j oj hoj e hun hno) (fun cs b => hsel i oi cs b hi) (fun cs b => hsel j oj cs b hoj) hQ hy (h.2 j (ready_mono hj e))
      refine wpOp_mono (fun a' w' k => ?_) step
      obtain ⟨ky, ks, kn⟩ := k
      have hS' : S w' := ks.resolve_left hjz
      refine ⟨.inr hS', ih _ a' w' (fun k ok hk hki hu hw => hfree k ok hk hki ?_ hw) (fun u hu => ?_) (ready_mono hr (fun q => e q.symm)) ky hS' ?_⟩
      · rcases Decidable.em (j = k) with q | q
        · subst q; exact hun
        · rwa [getD_set_ne true q] at hu
      · rw [getD_set_ne true (fun q => hjU (by rw [q]; exact hu))]
        exact hU u hu
      · rw [Array.setIfInBounds_comm _ _ e]
        exact kn
theorem AnyZ.takeU {i : Nat} {oi : Oper} {v : Value} {n : Nat} {l : Array Bool} {a : Act} {w : World} (U : List Nat) (hi : ops[i]? = some oi) (hzU : U.contains z = true) (hc : chained md ops i U = true) (hl : (U.all fun u => l.getD u true == false) = true)
    (hs : Region.noSelect ops = true) (hf : Region.free md ops l i = true) (hr : (Region.ready md ops l).contains i = true) (hQ : ∀ c a w, Q (.panic c) (a.put oi.dst v) w → Q (.panic c) a w) (hy : YieldsIf P ops S oi v a) (hS : S w)
    (h : AnyZ P md ops Q S z n (l.setIfInBounds i true) (a.put oi.dst v) w) : AnyZ P md ops Q S z (n + 1) l a w :=
  AnyZ.firstU U hi (by simpa using hzU) hc (Region.noSelect_spec hs) hQ n l a w (Region.free_spec hi hf) (fun u hu => by simpa using List.all_eq_true.1 hl u hu) (by simpa using hr) hy hS h
end
end Go.Proofs.Ytglpckdmiohciaa
