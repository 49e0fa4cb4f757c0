/- ref09.Apply -/
import Derived.Test.YtofdmkglhjpbcaaRefSet
namespace Go.Proofs.Ytofdmkglhjpbcaa
open Go.RowKit
set_option linter.unusedVariables false
set_option linter.unusedSimpArgs false

def refApply (a : List Entry) (l : List EditE) : List Entry := l.foldl (fun m x => setRef m x.key ⟨!x.gone, x.val⟩) a
theorem refApply_snoc (a : List Entry) (l : List EditE) (x : EditE) : refApply a (l ++ [x]) = setRef (refApply a l) x.key ⟨!x.gone, x.val⟩ := by simp [refApply, List.foldl_append]
theorem setRef_len (a : List Entry) (key : Str) (s : Side) : (setRef a key s).length ≤ a.length + 1 := by
  have := setGo_len key s.val a (!s.has)
  unfold setRef
  split at this <;> omega
theorem take_snoc' {α : Type} {l : List α} {k : Nat} {x : α} (h : l[k]? = some x) : l.take (k + 1) = l.take k ++ [x] := by rw [List.take_add_one, h]; rfl

set_option maxRecDepth 100000 in
theorem refApply_calls (w : World) (A B : Option Addr) (c d : Nat) (a : List Entry) (l : List EditE) (hal : a.length + l.length ≤ 1000000) (hc : a.length ≤ c) (hc' : c ≤ 9223372036854775807) (hA : Rd Entry.enc 2 w A a) (hB : Rd EditE.enc 3 w B l) :
    Calls Try.prog 23 #[.slice A a.length c, .slice B l.length d] w fun e w' => ∃ A' c', e = .returned (.slice A' (refApply a l).length c') ∧ (refApply a l).length ≤ c' ∧ c' ≤ 9223372036854775807 ∧ Rd Entry.enc 2 w' A' (refApply a l) ∧ Below w.heap.size w w' := by
  have hA1 := Lib.hid hA
  have hB1 := Lib.hid hB
  have hst : Hid (∃ A' c', Value.slice A a.length c = .slice A' (refApply a (l.take 0)).length c' ∧ (refApply a (l.take 0)).length ≤ c' ∧ c' ≤ 9223372036854775807 ∧ Rd Entry.enc 2 w A' (refApply a (l.take 0))) := ⟨A, c, rfl, hc, hc', hA⟩
  clear hA hB
  go_enter Try.func23, Try.ntmps23
  go_wp2
  go_loopg [0, 9] l.length (fun n v i wr => ∃ k : Nat, i = .int .i64 k ∧ k + n = l.length ∧ Hid ((refApply a (l.take k)).length ≤ a.length + k) ∧
    Hid (∃ A' c', v = .slice A' (refApply a (l.take k)).length c' ∧ (refApply a (l.take k)).length ≤ c' ∧ c' ≤ 9223372036854775807 ∧ Rd Entry.enc 2 wr A' (refApply a (l.take k))) ∧ Hid (Below w.heap.size w wr))
  case atStart => exact ⟨0, rfl, by omega, by show _ ≤ _; simp [refApply], hst.out, Below.refl _ _⟩
  case round =>
    obtain ⟨k, rfl, hk, hlen, hm, hb⟩ := hrel
    obtain ⟨A', c', rfl, h1, h2, h3⟩ := hm.out
    by_cases hlt : k < l.length
    · obtain ⟨n', hn'⟩ : ∃ n', gk = n' + 1 := ⟨gk - 1, by omega⟩
      subst hn'
      have hrk := Lib.hid (hB1.out.below hb.out (Nat.le_refl _))
      rcases hrk.out with h0 | ⟨b, off, rfl, hbl, hcell⟩
      · simp [h0] at hlt
      have hx := List.getElem?_eq_getElem hlt
      have hd : Hid (refApply a (l.take (k + 1)) = setRef (refApply a (l.take k)) l[k].key ⟨!l[k].gone, l[k].val⟩) := by show _ = _; rw [take_snoc' hx, refApply_snoc]
      have c0 : wr.cell? ⟨b, off + k * 3, none⟩ = some (.string l[k].key) := hcell k l[k] hx 0 _ rfl
      have c1 : wr.cell? ⟨b, off + k * 3 + 1, none⟩ = some (.string l[k].val) := hcell k l[k] hx 1 _ rfl
      have c2 : wr.cell? ⟨b, off + k * 3 + 2, none⟩ = some (.bool l[k].gone) := hcell k l[k] hx 2 _ rfl
      generalize hxx : l[k] = x at *
      obtain ⟨key, val, gone⟩ := x
      clear hcell hx hxx hrk
      have hb2 := Lib.hid (bl_alloc hb.out (.cells #[.string key, .string val, .bool gone] 37))
      have h4 := Lib.hid (h3.below (bl_alloc (Below.refl wr.heap.size wr) (.cells #[.string key, .string val, .bool gone] 37)) (Nat.le_refl _))
      have hl2 : (refApply a (l.take k)).length ≤ 1000000 := by have := hlen.out; omega
      have hs := Lib.hid (setRef_len (refApply a (l.take k)) key ⟨!gone, val⟩)
      have hcl := Lib.hid (refSet_calls _ A' c' (refApply a (l.take k)) key ⟨!gone, val⟩ hl2 h4.out)
      clear h3 hm hl2
      generalize refApply a (l.take k) = m at *
      go_wp2_with fail
      refine hcl.out.mono ?_
      rintro e w1 ⟨v1, rfl, ho, hb3⟩
      obtain ⟨A2, c2', rfl, k1, k2, k3, k4⟩ := ho.rd Entry.ok
      have K3 := Lib.hid k3
      have hb4 := Lib.hid (bl_then hb2.out hb2.out.size hb3)
      clear ho k3 k4 hb3
      go_wp2
      go_roundg n'
      case measure => omega
      case rel =>
        refine ⟨k + 1, by go_num, by omega, ?_, ?_, hb4.out⟩
        · show _ ≤ _; rw [hd.out]; have := hs.out; have := hlen.out; omega
        · show ∃ A' c', _
          rw [hd.out]
          exact ⟨A2, c2', rfl, k1, k2, K3.out⟩
    · have hk' : k = l.length := by omega
      have hv : Hid (l.take k = l) := by show _ = _; rw [hk', List.take_length]
      have H3 := Lib.hid h3
      clear h3 hm hk'
      go_wp2
      go_ret
      rw [hv.out] at h1 H3
      exact ⟨A', c', by rw [hv.out]; rfl, h1, h2, H3.out, hb.out⟩
end Go.Proofs.Ytofdmkglhjpbcaa
