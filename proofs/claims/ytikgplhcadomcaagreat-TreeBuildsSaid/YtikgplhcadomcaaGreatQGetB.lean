/- slices.IndexFunc of children; a part's last key; what a key has: plain -/
import Derived.Test.YtikgplhcadomcaaGreatQGetA
import Derived.Test.YtikgplhcadomcaaGreatKN
namespace Go.Proofs.YtikgplhcadomcaaGreat
open Go.RowKit
set_option linter.unusedVariables false
set_option linter.unusedSimpArgs false
def IxR (w w' : World) (ks : List Kid) (key : Str) (e : Ending) : Prop :=
  ((∃ (i : Nat) (x : Kid), ks[i]? = some x ∧ slt x.last key = false ∧ (∀ (m : Nat) y, m < i → ks[m]? = some y → slt y.last key = true) ∧ e = .returned (.int .i64 (i : Int))) ∨ ((∀ (m : Nat) y, ks[m]? = some y → slt y.last key = true) ∧ e = .returned (.int .i64 (-1)))) ∧ Below w.heap.size w w'
set_option maxRecDepth 100000 in
set_option maxHeartbeats 2000000 in
theorem indexK_calls (w : World) (A : Option Addr) (c : Nat) (ks : List Kid) (key : Str) (g : Nat) (hK : Rd Kid.enc 2 w A ks) (hlen : ks.length ≤ 1000) (hg : w.cell? ⟨g, 0, none⟩ = some (.string key)) (hgl : g < w.heap.size) :
    Calls Tryz.prog 117 #[.slice A ks.length c, .func (.func 118) #[] #[.pointer (some ⟨g, 0, none⟩)]] w fun e w' => IxR w w' ks key e := by
  have HK := Lib.hid hK
  have HG : Hid (w.cell? ⟨g, 0, none⟩ = some (.string key) ∧ g < w.heap.size) := ⟨hg, hgl⟩
  clear hK hg hgl
  go_enter Tryz.func117, Tryz.ntmps117
  go_wp2
  go_loopg [8] ks.length (fun m i wr => ∃ k : Nat, i = .int .i64 k ∧ k + m = ks.length ∧ Hid (∀ (m : Nat) y, m < k → ks[m]? = some y → slt y.last key = true) ∧ Hid (Below w.heap.size w wr))
  case atStart => exact ⟨0, rfl, by omega, fun m y h => by omega, Below.refl _ _⟩
  case round =>
    obtain ⟨k, rfl, hk, hl, hb⟩ := hrel
    by_cases hkn : k < ks.length
    · obtain ⟨m', hm'⟩ : ∃ m', gk = m' + 1 := ⟨gk - 1, by omega⟩
      subst hm'
      have hki : (k : Int) < (ks.length : Int) := by omega
      have hkz : (0 : Int) ≤ (k : Int) := by omega
      rcases HK.out.below hb.out (Nat.le_refl _) with h0 | ⟨bb, off, rfl, hlt, hcell⟩
      · rw [h0] at hkn; simp at hkn
      have hxk : ks[k]? = some ks[k] := List.getElem?_eq_getElem hkn
      have z0 := hcell k _ hxk 0 _ rfl
      have z1 := hcell k _ hxk 1 _ rfl
      generalize ks[k] = x at *
      obtain ⟨kl, ki⟩ := x
      dsimp only at z0 z1
      simp only [Nat.add_zero] at z0
      have HX := Lib.hid hxk
      have g1 : wr.cell? ⟨g, 0, none⟩ = some (.string key) := (hb.out.cell (p := ⟨g, 0, none⟩) HG.out.2).trans HG.out.1
      have gl : g < wr.heap.size := Nat.lt_of_lt_of_le HG.out.2 hb.out.size
      clear hcell hxk
      go_wp2_with fail
      refine (get2_calls wr kl ki g key g1 gl).mono ?_
      rintro e w2 ⟨rfl, hb2⟩
      have B2 := Lib.hid (bl_then hb.out hb.out.size hb2)
      clear hb2 z0 z1 hlt g1 gl
      rcases hq : slt kl key with _ | _
      · have HQ : Hid (slt kl key = false) := hq
        clear hq
        go_wp2
        go_ret
        exact ⟨.inl ⟨k, _, HX.out, HQ.out, hl.out, rfl⟩, B2.out⟩
      · have HQ : Hid (slt kl key = true) := hq
        clear hq
        go_wp2
        go_roundg m'
        case measure => omega
        case rel =>
          refine ⟨k + 1, by go_num, by omega, fun m y hm hy => ?_, B2.out⟩
          by_cases hmk : m < k
          · exact hl.out m y hmk hy
          · have : m = k := by omega
            subst this
            rw [HX.out] at hy
            cases hy
            exact HQ.out
    · have hkk : ¬ (k : Int) < (ks.length : Int) := by omega
      clear hkn
      go_wp2
      go_ret
      exact ⟨.inr ⟨fun m y hy => hl.out m y (by have := (List.getElem?_eq_some_iff.1 hy).1; omega) hy, rfl⟩, hb.out⟩
end Go.Proofs.YtikgplhcadomcaaGreat
