/- ref09.SameEntries -/
import Derived.Test.YtikgplhcadomcaaGreatProg
import Derived.Test.YtikgplhcadomcaaGreatKA
import Derived.Deep.QuietTactic
import Derived.BigQuiet
namespace Go.Proofs.YtikgplhcadomcaaGreat
open Go.RowKit
set_option linter.unusedVariables false
set_option linter.unusedSimpArgs false

theorem eqEntry (d : Nat) (w : World) (x y : Entry) : (Op.equalIn (d + 2) 113 (.agg #[.string x.key, .string x.val]) (.agg #[.string y.key, .string y.val])).run Tryz.prog w = .ok (decide (x = y)) w := by
  have e : decide (x = y) = (x.key.toList == y.key.toList && (x.val.toList == y.val.toList && true)) := by
    simp only [toList_beq]
    cases x; cases y; simp
  rw [e]
  refine eq_struct Tryz.underlying113 (by kernel_rfl) ?_
  refine eqf_more (by decide) (by go_simp; rfl) (by go_simp; rfl) (by go_simp) ?_
  refine eqf_more (by decide) (by go_simp; rfl) (by go_simp; rfl) (by go_simp) ?_
  exact eqf_none

attribute [local go_sem high] eqEntry

theorem SameEntries_calls (w : World) (A B : Option Addr) (c e : Nat) (l m : List Entry) (hl : l.length ≤ 9223372036854775807) (hm : m.length ≤ 9223372036854775807) (h : Rd Entry.enc 2 w A l) (k : Rd Entry.enc 2 w B m) :
    Calls Tryz.prog 58 #[.slice A l.length c, .slice B m.length e] w fun e w' => e = .returned (.bool (decide (l = m))) ∧ Below w.heap.size w w' := by
  by_cases hlen : l.length = m.length
  · have hq : ((l.length : Int) != (m.length : Int)) = false := by simp [hlen]
    have HL := Lib.hid hlen
    clear hlen
    go_enter Tryz.func58, Tryz.ntmps58
    go_wp2
    go_loopw [13] (fun i wr => ∃ k : Nat, k ≤ l.length ∧ i = .int .i64 k ∧ Hid (∀ i : Nat, i < k → l[i]? = m[i]?) ∧ Below w.heap.size w wr) (fun i _ => l.length - (intOf i).toNat)
    case atStart => exact ⟨0, Nat.zero_le _, rfl, fun i h => by omega, Below.refl _ _⟩
    case round =>
      obtain ⟨n, hn, rfl, hg, hb⟩ := hrel
      by_cases hlt : n < l.length
      · have hlt' : n < m.length := by rw [← HL.out]; exact hlt
        rcases h.below hb (Nat.le_refl _) with h0 | ⟨b, off, rfl, hbl, hc⟩
        · simp [h0] at hlt
        rcases k.below hb (Nat.le_refl _) with h0 | ⟨b', off', rfl, hbl', hc'⟩
        · simp [h0] at hlt'
        have c0 : wr.cell? ⟨b, off + n * 2, none⟩ = some (.string l[n].key) := hc n l[n] (by simp [hlt]) 0 _ rfl
        have c1 : wr.cell? ⟨b, off + n * 2 + 1, none⟩ = some (.string l[n].val) := hc n l[n] (by simp [hlt]) 1 _ rfl
        have d0 : wr.cell? ⟨b', off' + n * 2, none⟩ = some (.string m[n].key) := hc' n m[n] (by simp [hlt']) 0 _ rfl
        have d1 : wr.cell? ⟨b', off' + n * 2 + 1, none⟩ = some (.string m[n].val) := hc' n m[n] (by simp [hlt']) 1 _ rfl
        clear hc hc' h k
        by_cases he : l[n] = m[n]
        · have hd : decide (l[n] = m[n]) = true := by simp [he]
          have hg' : Hid (∀ i : Nat, i < n + 1 → l[i]? = m[i]?) := fun i hi => by
            by_cases e : i = n
            · subst e; simp [hlt, hlt', he]
            · exact hg.out i (by omega)
          clear he
          go_wp2
          go_quiet (fail)
          go_wp2
          exact ⟨⟨n + 1, by omega, by go_num, hg', bl_drewN hb _⟩, by simp [intOf]; omega⟩
        · have hd : decide (l[n] = m[n]) = false := by simp [he]
          have hv : Hid (decide (l = m) = false) := by
            show _ = _
            rw [decide_eq_false_iff_not]
            intro e
            exact he (by simp [e])
          clear he
          go_wp2
          go_quiet (fail)
          go_wp2
          go_ret
          exact ⟨by rw [hv.out]; rfl, bl_drewN hb _⟩
      · have hv : Hid (decide (l = m) = true) := by
          show _ = _
          rw [decide_eq_true_iff]
          apply List.ext_getElem?
          intro i
          by_cases hi : i < n
          · exact hg.out i hi
          · have := HL.out
            rw [List.getElem?_eq_none (by omega), List.getElem?_eq_none (by omega)]
        go_wp2
        go_ret
        exact ⟨by rw [hv.out]; rfl, hb⟩
  · have hq : ((l.length : Int) != (m.length : Int)) = true := by rw [bne_iff_ne]; omega
    have hv : Hid (decide (l = m) = false) := by
      show _ = _
      rw [decide_eq_false_iff_not]
      intro e
      exact hlen (by simp [e])
    clear hlen
    go_enter Tryz.func58, Tryz.ntmps58
    go_wp2
    go_ret
    exact ⟨by rw [hv.out]; rfl, Below.refl _ _⟩
end Go.Proofs.YtikgplhcadomcaaGreat
