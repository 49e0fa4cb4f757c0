/- Regions that draw their order, whose last operation (number z) may break what held of the world till then. No program is named here. -/
import Derived.Test.YtglpckdmiohciaaAppend
import Derived.Deep.RegionHeld
namespace Go.Proofs.Ytglpckdmiohciaa
open Go.RowKit
set_option linter.unusedVariables false
set_option linter.unusedSimpArgs false

section
variable {P : Program} {ops : Array Oper} {Q : Exit → Act → World → Prop} {md : Region.Mode} {S : World → Prop} {z : Nat}
/-- Whatever order is picked; S holds behind every operation but z. -/
def AnyZ (P : Program) (md : Region.Mode) (ops : Array Oper) (Q : Exit → Act → World → Prop) (S : World → Prop) (z : Nat) : Nat → Array Bool → Act → World → Prop
  | 0, l, a, w => Region.ready md ops l = [] ∧ Q .normal a w
  | n + 1, l, a, w => (Region.ready md ops l = [] → Q .normal a w) ∧ ∀ i ∈ Region.ready md ops l, wpOp P ops Q i (fun a' w' => (i = z ∨ S w') ∧ AnyZ P md ops Q S z n (l.setIfInBounds i true) a' w') a w
theorem AnyZ.any : ∀ (n : Nat) (l : Array Bool) (a : Act) (w : World), AnyZ P md ops Q S z n l a w → wpAny P md ops Q n l a w
  | 0, _, _, _, h => h
  | n + 1, l, a, w, h => ⟨h.1, fun i hi => wpOp_mono (fun a' w' k => AnyZ.any n _ a' w' k.2) (h.2 i hi)⟩
/-- Who waits for i cannot come up ahead of it. -/
theorem waits {i j : Nat} {oj : Oper} {l : Array Bool} (hj : j ∈ Region.ready md ops l) (hoj : ops[j]? = some oj) (hi : i ∈ Region.ready md ops l) : ∀ e ∈ oj.after, Region.binds md e = true → e.on ≠ i := by
  intro e he hb heq
  obtain ⟨_, o', ho', hall⟩ := mem_ready.1 hj
  rw [hoj] at ho'
  cases ho'
  have h1 := hall e he hb
  have h0 := (mem_ready.1 hi).1
  subst heq
  rcases Nat.lt_or_ge e.on l.size with hlt | hge
  · simp [hlt] at h0 h1
    rw [h0] at h1
    cases h1
  · simp [Array.getElem?_eq_none hge] at h1
/-- An operation that yields its value in every world that meets S, and for which z waits, may be taken first. -/
theorem AnyZ.first {i : Nat} {oi oz : Oper} {v : Value} (hi : ops[i]? = some oi) (hz : ops[z]? = some oz) (hzi : ∃ e ∈ oz.after, Region.binds md e = true ∧ e.on = i) (hsel : ∀ (j : Nat) (o : Oper) cs b, ops[j]? = some o → o.op ≠ .select cs b)
    (hQ : ∀ c a w, Q (.panic c) (a.put oi.dst v) w → Q (.panic c) a w) : ∀ (n : Nat) (l : Array Bool) (a : Act) (w : World),
      (∀ j oj, ops[j]? = some oj → j ≠ i → l.getD j true = false → (∀ e ∈ oj.after, Region.binds md e = true → e.on ≠ i) → oi.apart ops oj = true) →
      i ∈ Region.ready md ops l → YieldsIf P ops S oi v a → S w → AnyZ P md ops Q S z n (l.setIfInBounds i true) (a.put oi.dst v) w → AnyZ P md ops Q S z (n + 1) l a w := by
  intro n
  have now : ∀ (m : Nat) (l : Array Bool) (a : Act) (w : World), YieldsIf P ops S oi v a → S w → AnyZ P md ops Q S z m (l.setIfInBounds i true) (a.put oi.dst v) w → wpOp P ops Q i (fun a' w' => (i = z ∨ S w') ∧ AnyZ P md ops Q S z m (l.setIfInBounds i true) a' w') a w :=
    fun m l a w hy hS h => hy.wpOp hi hS ⟨.inr hS, h⟩
  induction n with
  | zero =>
    intro l a w _ hr hy hS h
    refine ⟨fun e => (by rw [e] at hr; cases hr), fun j hj => ?_⟩
    rcases Decidable.em (j = i) with e | e
    · subst e
      exact now 0 l a w hy hS h
    · have q := ready_mono hj e
      rw [h.1] at q
      cases q
  | succ n ih =>
    intro l a w hfree hr hy hS h
    refine ⟨fun e => (by rw [e] at hr; cases hr), fun j hj => ?_⟩
    rcases Decidable.em (j = i) with e | e
    · subst e
      exact now (n + 1) l a w hy hS h
    · obtain ⟨hun, oj, hoj, _⟩ := mem_ready.1 hj
      have hno := waits hj hoj hr
      have hjz : j ≠ z := fun ez => by
        subst ez
        rw [hz] at hoj
        cases hoj
        obtain ⟨d, hd, hb, ho⟩ := hzi
        exact hno d hd hb ho
      have step := wpOp_putIf hoj (hfree j oj hoj e hun hno) (fun cs b => hsel i oi cs b hi) (fun cs b => hsel j oj cs b hoj) hQ hy (h.2 j (ready_mono hj e))
      refine wpOp_mono (fun a' w' k => ?_) step
      obtain ⟨ky, ks, kn⟩ := k
      have hS' : S w' := ks.resolve_left hjz
      refine ⟨.inr hS', ih _ a' w' (fun k ok hk hki hu hw => hfree k ok hk hki ?_ hw) (ready_mono hr (fun q => e q.symm)) ky hS' ?_⟩
      · rcases Decidable.em (j = k) with q | q
        · subst q; exact hun
        · rwa [getD_set_ne true q] at hu
      · rw [Array.setIfInBounds_comm _ _ e]
        exact kn
theorem AnyZ.take {i : Nat} {oi oz : Oper} {v : Value} {n : Nat} {l : Array Bool} {a : Act} {w : World} (hi : ops[i]? = some oi) (hz : ops[z]? = some oz) (hzi : (oz.after.any fun e => Region.binds md e && e.on == i) = true)
    (hs : Region.noSelect ops = true) (hf : Region.free md ops l i = true) (hr : (Region.ready md ops l).contains i = true) (hQ : ∀ c a w, Q (.panic c) (a.put oi.dst v) w → Q (.panic c) a w) (hy : YieldsIf P ops S oi v a) (hS : S w)
    (h : AnyZ P md ops Q S z n (l.setIfInBounds i true) (a.put oi.dst v) w) : AnyZ P md ops Q S z (n + 1) l a w :=
  AnyZ.first hi hz (by
    obtain ⟨k, hk, he⟩ := Array.any_eq_true.1 hzi
    simp only [Bool.and_eq_true, beq_iff_eq] at he
    exact ⟨_, Array.getElem_mem hk, he.1, he.2⟩) (Region.noSelect_spec hs) hQ n l a w (Region.free_spec hi hf) (by simpa using hr) hy hS h
theorem AnyZ.one {i : Nat} {oi : Oper} {n : Nat} {l : Array Bool} {a : Act} {w : World} (hr : Region.ready md ops l = [i]) (hi : ops[i]? = some oi)
    (h : ∀ K : Act → World → Prop, Shut (∀ a w, (i = z ∨ S w) → AnyZ P md ops Q S z n (l.setIfInBounds i true) a w → K a w) → if Region.wanted oi (yielded ops a.tmps) = true then Oper.wp P oi a w K Q else K (a.put oi.dst undef) w) : AnyZ P md ops Q S z (n + 1) l a w := by
  refine ⟨fun e => (by rw [hr] at e; cases e), fun j hj => ?_⟩
  rw [hr] at hj
  simp at hj
  subst hj
  exact wpOp_step hi (fun K hK => h K (fun a w k1 k2 => hK a w ⟨k1, k2⟩))
theorem AnyZ.done {l : Array Bool} {a : Act} {w : World} (hr : Region.ready md ops l = []) (h : Q .normal a w) : ∀ n, AnyZ P md ops Q S z n l a w
  | 0 => ⟨hr, h⟩
  | _ + 1 => ⟨fun _ => h, fun i hi => by rw [hr] at hi; cases hi⟩
theorem wp_regionZ {id : Nat} {a : Act} {w : World} (z : Nat) (S : World → Prop) (hm : P.follows .mixedOrders = true) (h : AnyZ P .any ops Q S z ops.size (Array.replicate ops.size false) a w.drew) : (Code.region id ops true).wp P Q a w :=
  wp_region_any hm (AnyZ.any _ _ _ _ h)
end
end Go.Proofs.Ytglpckdmiohciaa
