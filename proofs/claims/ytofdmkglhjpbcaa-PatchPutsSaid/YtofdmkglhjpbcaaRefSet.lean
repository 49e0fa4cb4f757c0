/- ref09.Set -/
import Derived.Test.YtofdmkglhjpbcaaEdits
import Derived.Test.YtofdmkglhjpbcaaOrder
namespace Go.Proofs.Ytofdmkglhjpbcaa
open Go.RowKit
set_option linter.unusedVariables false
set_option linter.unusedSimpArgs false

def setGo (key val : Str) : List Entry → Bool → List Entry
  | [], d => if d = true then [] else [⟨key, val⟩]
  | x :: l, d => (if d = false ∧ slt key x.key = true then [⟨key, val⟩] else []) ++ ((if x.key = key then [] else [x]) ++ setGo key val l (d || slt key x.key))
def setRef (l : List Entry) (key : Str) (s : Side) : List Entry := setGo key s.val l (!s.has)
theorem setGo_len (key val : Str) : ∀ (l : List Entry) (d : Bool), (setGo key val l d).length ≤ l.length + if d = true then 0 else 1
  | [], d => by unfold setGo; cases d <;> simp
  | x :: l, d => by
    have h1 := setGo_len key val l (d || slt key x.key)
    have e1 : (if x.key = key then ([] : List Entry) else [x]).length ≤ 1 := by split <;> simp
    unfold setGo
    simp only [List.length_append, List.length_cons]
    generalize (if x.key = key then ([] : List Entry) else [x]).length = n1 at *
    generalize slt key x.key = q at *
    generalize (setGo key val l (d || q)).length = n2 at *
    cases d <;> cases q <;> simp at h1 ⊢ <;> omega
theorem infoEn' : (Try.prog.info? 72).map (fun i => (i.zero, i.size, i.bytes)) = some (some (.agg #[.string ⟨#[]⟩, .string ⟨#[]⟩]), 2, 32) := by kernel_rfl

set_option maxRecDepth 100000 in
set_option maxHeartbeats 600000 in
theorem refSet_calls (w : World) (A : Option Addr) (c : Nat) (l : List Entry) (key : Str) (s : Side) (hl : l.length ≤ 1000000) (h : Rd Entry.enc 2 w A l) :
    Calls Try.prog 48 #[.slice A l.length c, .string key, s.v] w fun e w' => ∃ v, e = .returned v ∧ Own Entry.enc 2 72 w.heap.size w' v (setRef l key s) ∧ Below w.heap.size w w' := by
  obtain ⟨has, val⟩ := s
  have hA1 := Lib.hid h
  clear h
  have hbx := Lib.hid (blk_new w (.cells #[.bool has, .string val] 45))
  have hb0 := Lib.hid (bl_alloc (Below.refl w.heap.size w) (.cells #[.bool has, .string val] 45))
  have hs0 : Hid (w.heap.size + 1 ≤ (w.alloc (.cells #[.bool has, .string val] 45)).heap.size) := by show _ ≤ _; simp
  show Calls Try.prog 48 #[.slice A l.length c, .string key, .agg #[.bool has, .string val]] w _
  go_enter Try.func48, Try.ntmps48
  go_wp2
  go_loopg [7, 8, 16] l.length (fun n v dn i wr => ∃ (k : Nat) (b : Bool) (done : List Entry), dn = .bool b ∧ i = .int .i64 k ∧ k + n = l.length ∧ Hid (done ++ setGo key val (l.drop k) b = setRef l key ⟨has, val⟩) ∧
    Hid (Own Entry.enc 2 72 (w.heap.size + 1) wr v done) ∧ Hid (done.length ≤ 2 * k) ∧ Hid (w.heap.size + 1 ≤ wr.heap.size) ∧ Hid (wr.heap[w.heap.size]? = some (.cells #[.bool has, .string val] 45 (0, 0))) ∧ Hid (Below w.heap.size w wr))
  case atStart => exact ⟨0, !has, [], by cases has <;> rfl, rfl, by omega, by show _ = _; rfl, Own.nil, by show _ ≤ _; simp, hs0.out, hbx.out, hb0.out⟩
  case round =>
    obtain ⟨k, b, done, rfl, rfl, hk, hv, ho, hdl, hz, hc, hb⟩ := hrel
    have hob := Lib.hid ho.out.lt
    by_cases hlt : k < l.length
    · obtain ⟨n', hn'⟩ : ∃ n', gk = n' + 1 := ⟨gk - 1, by omega⟩
      subst hn'
      have hrk := Lib.hid (hA1.out.below hb.out (Nat.le_refl _))
      rcases hrk.out with h0 | ⟨b0, off, rfl, hbl, hcell⟩
      · simp [h0] at hlt
      have hx := List.getElem?_eq_getElem hlt
      have hd : l.drop k = l[k] :: l.drop (k + 1) := by simp
      have hv1 : Hid (done ++ ((if b = false ∧ slt key l[k].key = true then [⟨key, val⟩] else []) ++ ((if l[k].key = key then [] else [l[k]]) ++ setGo key val (l.drop (k + 1)) (b || slt key l[k].key))) = setRef l key ⟨has, val⟩) := by
        show _ = _; rw [← hv.out, hd]; rfl
      have c0 : wr.cell? ⟨b0, off + k * 2, none⟩ = some (.string l[k].key) := hcell k l[k] hx 0 _ rfl
      have c1 : wr.cell? ⟨b0, off + k * 2 + 1, none⟩ = some (.string l[k].val) := hcell k l[k] hx 1 _ rfl
      generalize hxx : l[k] = x at *
      obtain ⟨xk, xv⟩ := x
      clear hcell hx hxx hrk hd hv
      have hkl : k ≤ 1000000 := by omega
      have C2 : Hid ((done.length + 1) * 32 ≤ 140737488355328) := by show _ ≤ _; have := hdl.out; omega
      have C3 : Hid (done.length + 1 ≤ 140737488355328) := by show _ ≤ _; have := hdl.out; omega
      have C4 : Hid (((done ++ [(⟨key, val⟩ : Entry)]).length + 1) * 32 ≤ 140737488355328) := by show _ ≤ _; have := hdl.out; simp; omega
      have C5 : Hid ((done ++ [(⟨key, val⟩ : Entry)]).length + 1 ≤ 140737488355328) := by show _ ≤ _; have := hdl.out; simp; omega
      have hz1 : Hid (w.heap.size + 1 ≤ (wr.alloc (.cells #[.string xk, .string xv] 72)).heap.size) := by show _ ≤ _; simp; have := hz.out; omega
      have hs1 : Hid ((wr.alloc (.cells #[.string xk, .string xv] 72)).heap.size = wr.heap.size + 1) := by show _ = _; simp
      have ho1 := Lib.hid (ho.out.alloc (.cells #[.string xk, .string xv] 72))
      have hc1 := Lib.hid (blk_alloc hc.out (.cells #[.string xk, .string xv] 72))
      have hb1 := Lib.hid (bl_alloc hb.out (.cells #[.string xk, .string xv] 72))
      have hx1 := Lib.hid (blk_new wr (.cells #[.string xk, .string xv] 72))
      have sv : (wr.alloc (.cells #[.string xk, .string xv] 72)).cell? ⟨w.heap.size, 1, none⟩ = some (.string val) := blk_cell hc1.out 1
      clear hlt
      have hcase : (b = false ∧ slt key xk = true) ∨ (b = true ∧ xk = key) ∨ (b = true ∧ ¬ xk = key) ∨ (b = false ∧ slt key xk = false ∧ xk = key) ∨ (b = false ∧ slt key xk = false ∧ ¬ xk = key) := by
        cases b <;> cases slt key xk <;> by_cases h : xk = key <;> simp [h]
      rcases hcase with ⟨rfl, hq⟩ | ⟨rfl, hq⟩ | ⟨rfl, hq⟩ | ⟨rfl, hp, hq⟩ | ⟨rfl, hp, hq⟩
      · have hne : ¬ xk = key := fun e => by subst e; rw [slt_irrefl] at hq; cases hq
        have hv2 : Hid ((done ++ [⟨key, val⟩] ++ [⟨xk, xv⟩]) ++ setGo key val (l.drop (k + 1)) true = setRef l key ⟨has, val⟩) := by
          show _ = _; rw [← hv1.out, if_pos ⟨rfl, hq⟩, if_neg hne, hq]; simp
        have q1 : Op.bytesLess xk.toList key.toList = false := slt_asymm hq
        have q2 : (xk.toList == key.toList) = false := str_ne hne
        clear hq hne hv1
        go_wp2_with (first
          | (at_builtin; refine ap_own Entry.ok rfl _ _ _ _ _ _ rfl Try.underlying22 infoEn' rfl (w.heap.size + 1) u7 done ⟨key, val⟩ #[_, _] rfl rfl (wr.heap.size + 1) hs1.out rfl ho1.out hz1.out C2.out C3.out ?_
             intro gg cap w5 ho5 hg5 hat5 hlt5
             have hx5 := (hg5.block wr.heap.size (by rw [hs1.out]; omega) (fun e => by have := (hob.out _ e.symm).2; omega)).trans hx1.out
             have d0 : w5.cell? ⟨wr.heap.size, 0, none⟩ = some (.string xk) := blk_cell hx5 0
             have d1 : w5.cell? ⟨wr.heap.size, 0 + 1, none⟩ = some (.string xv) := blk_cell hx5 1
             have hz5 : Hid (w.heap.size + 1 ≤ w5.heap.size) := by show _ ≤ _; have := hg5.size; have := hz1.out; omega
             have hc5 := Lib.hid ((hg5.block w.heap.size (by have := hz1.out; omega) (fun e => by have := (hob.out _ e.symm).1; omega)).trans hc1.out)
             have hb5 := Lib.hid (hb1.out.grown hg5 hb1.out.size (fun k e => by have := (hob.out _ e).1; omega))
             obtain ⟨d2, hd2⟩ : ∃ d2, d2 = done ++ [(⟨key, val⟩ : Entry)] := ⟨_, rfl⟩
             have hL2 : d2.length = done.length + 1 := by rw [hd2]; simp
             have ho6 : Hid (Own Entry.enc 2 72 (w.heap.size + 1) w5 (.slice (some ⟨gg, 0, none⟩) (done.length + 1) cap) d2) := by show Own _ _ _ _ _ _ _; rw [hd2]; exact ho5
             have HD2 := Lib.hid hd2
             have HL2 := Lib.hid hL2
             have D4 : Hid ((d2.length + 1) * 32 ≤ 140737488355328) := by show _ ≤ _; have := hdl.out; omega
             have D5 : Hid (d2.length + 1 ≤ 140737488355328) := by show _ ≤ _; have := hdl.out; omega
             have hob6 := Lib.hid ho5.lt
             clear hd2 hL2
             clear ho5 hg5 hat5 hlt5 hx5)
          | (at_builtin; (refine ap_own Entry.ok rfl _ _ _ _ _ _ rfl Try.underlying22 infoEn' rfl (w.heap.size + 1) (.slice (some ⟨gg, 0, none⟩) (done.length + 1) cap) d2 ⟨xk, xv⟩ #[_, _] rfl rfl w5.heap.size rfl rfl ho6.out hz5.out D4.out D5.out ?_)
             intro gg2 cap2 w6 ho7 hg7 hat7 hlt7))
        go_roundg n'
        case measure => omega
        case rel =>
          refine ⟨k + 1, true, d2 ++ [⟨xk, xv⟩], rfl, by go_num, by omega, by show _ = _; rw [HD2.out]; exact hv2.out, ?_, ?_, ?_, ?_, ?_⟩
          · show Own _ _ _ _ _ _ _
            simpa using ho7
          · show _ ≤ _; have := hdl.out; have := HL2.out; simp; omega
          · show _ ≤ _; have := hg7.size; have := hz5.out; omega
          · exact (hg7.block w.heap.size (by have := hz5.out; omega) (fun e => by have := (hob6.out _ e.symm).1; omega)).trans hc5.out
          · exact hb5.out.grown hg7 hb5.out.size (fun k e => by have := (hob6.out _ e).1; omega)
      · have hq' := hq
        have hv2 : Hid (done ++ setGo key val (l.drop (k + 1)) true = setRef l key ⟨has, val⟩) := by
          show _ = _; rw [← hv1.out]; rw [if_neg (by simp), if_pos hq]; simp
        have q2 : (xk.toList == key.toList) = true := str_eq hq
        clear hq hq' hv1
        go_wp2
        go_roundg n'
        case measure => omega
        case rel =>
          refine ⟨k + 1, true, done, rfl, by go_num, by omega, hv2, ho1.out, ?_, ?_, hc1.out, hb1.out⟩
          · show _ ≤ _; have := hdl.out; omega
          · show _ ≤ _; have := hz1.out; omega
      · have hq' := hq
        have hv2 : Hid ((done ++ [⟨xk, xv⟩]) ++ setGo key val (l.drop (k + 1)) true = setRef l key ⟨has, val⟩) := by
          show _ = _; rw [← hv1.out]; rw [if_neg (by simp), if_neg hq]; simp
        have q2 : (xk.toList == key.toList) = false := str_ne hq
        clear hq hq' hv1
        go_wp2_with (at_builtin; refine ap_own Entry.ok rfl _ _ _ _ _ _ rfl Try.underlying22 infoEn' rfl (w.heap.size + 1) u7 done ⟨xk, xv⟩ #[_, _] rfl rfl (wr.heap.size + 1) hs1.out rfl ho1.out hz1.out C2.out C3.out ?_; intro gg cap w5 ho5 hg5 hat5 hlt5)
        go_roundg n'
        case measure => omega
        case rel =>
          refine ⟨k + 1, true, done ++ [⟨xk, xv⟩], rfl, by go_num, by omega, hv2, ?_, ?_, ?_, ?_, ?_⟩
          · show Own _ _ _ _ _ _ _
            simpa using ho5
          · show _ ≤ _; have := hdl.out; simp; omega
          · show _ ≤ _; have := hg5.size; have := hz1.out; omega
          · exact (hg5.block w.heap.size (by have := hz1.out; omega) (fun e => by have := (hob.out _ e.symm).1; omega)).trans hc1.out
          · exact hb1.out.grown hg5 hb1.out.size (fun k e => by have := (hob.out _ e).1; omega)
      · have hq' := hq
        have hv2 : Hid (done ++ setGo key val (l.drop (k + 1)) false = setRef l key ⟨has, val⟩) := by
          show _ = _; rw [← hv1.out]; rw [if_neg (by simp [hp]), if_pos hq, hp]; simp
        have q1 : ((!Op.bytesLess xk.toList key.toList) && !(xk.toList == key.toList)) = false := by
          rcases slt_total key xk with e | e | e
          · rw [e] at hp; cases hp
          · rw [e]; simp
          · have : Op.bytesLess xk.toList key.toList = true := e
            simp [this]
        have q2 : (xk.toList == key.toList) = true := str_eq hq
        clear hq hq' hv1 hp
        go_wp2
        go_roundg n'
        case measure => omega
        case rel =>
          refine ⟨k + 1, false, done, rfl, by go_num, by omega, hv2, ho1.out, ?_, ?_, hc1.out, hb1.out⟩
          · show _ ≤ _; have := hdl.out; omega
          · show _ ≤ _; have := hz1.out; omega
      · have hq' := hq
        have hv2 : Hid ((done ++ [⟨xk, xv⟩]) ++ setGo key val (l.drop (k + 1)) false = setRef l key ⟨has, val⟩) := by
          show _ = _; rw [← hv1.out]; rw [if_neg (by simp [hp]), if_neg hq, hp]; simp
        have q1 : Op.bytesLess xk.toList key.toList = true := by
          rcases slt_total key xk with e | e | e
          · rw [e] at hp; cases hp
          · exact absurd e.symm hq
          · exact e
        have q2 : (xk.toList == key.toList) = false := str_ne hq
        clear hq hq' hv1 hp
        go_wp2_with (at_builtin; refine ap_own Entry.ok rfl _ _ _ _ _ _ rfl Try.underlying22 infoEn' rfl (w.heap.size + 1) u7 done ⟨xk, xv⟩ #[_, _] rfl rfl (wr.heap.size + 1) hs1.out rfl ho1.out hz1.out C2.out C3.out ?_; intro gg cap w5 ho5 hg5 hat5 hlt5)
        go_roundg n'
        case measure => omega
        case rel =>
          refine ⟨k + 1, false, done ++ [⟨xk, xv⟩], rfl, by go_num, by omega, hv2, ?_, ?_, ?_, ?_, ?_⟩
          · show Own _ _ _ _ _ _ _
            simpa using ho5
          · show _ ≤ _; have := hdl.out; simp; omega
          · show _ ≤ _; have := hg5.size; have := hz1.out; omega
          · exact (hg5.block w.heap.size (by have := hz1.out; omega) (fun e => by have := (hob.out _ e.symm).1; omega)).trans hc1.out
          · exact hb1.out.grown hg5 hb1.out.size (fun k e => by have := (hob.out _ e).1; omega)
    · have hk' : k = l.length := by omega
      have hv2 : Hid (done ++ (if b = true then [] else [⟨key, val⟩]) = setRef l key ⟨has, val⟩) := by show _ = _; rw [← hv.out, hk', List.drop_length]; rfl
      have C2 : Hid ((done.length + 1) * 32 ≤ 140737488355328) := by show _ ≤ _; have := hdl.out; omega
      have C3 : Hid (done.length + 1 ≤ 140737488355328) := by show _ ≤ _; have := hdl.out; omega
      have sv : wr.cell? ⟨w.heap.size, 1, none⟩ = some (.string val) := blk_cell hc.out 1
      clear hk'
      cases b
      · go_wp2_with (at_builtin; refine ap_own Entry.ok rfl _ _ _ _ _ _ rfl Try.underlying22 infoEn' rfl (w.heap.size + 1) u7 done ⟨key, val⟩ #[_, _] rfl rfl wr.heap.size rfl rfl ho.out hz.out C2.out C3.out ?_; intro gg cap w5 ho5 hg5 hat5 hlt5)
        have hb5 := Lib.hid (hb.out.grown hg5 hb.out.size (fun k e => by have := (hob.out _ e).1; omega))
        have ho6 : Hid (Own Entry.enc 2 72 w.heap.size w5 (.slice (some ⟨gg, 0, none⟩) (done.length + 1) cap) (setRef l key ⟨has, val⟩)) := by
          show Own _ _ _ _ _ _ _; rw [← hv2.out]; exact ho5.mono (Nat.le_succ _)
        clear ho5 hg5 hat5
        go_wp2
        go_ret
        exact ⟨_, rfl, ho6.out, hb5.out⟩
      · have ho6 : Hid (Own Entry.enc 2 72 w.heap.size wr u7 (setRef l key ⟨has, val⟩)) := by
          show Own _ _ _ _ _ _ _; rw [← hv2.out]; simpa using ho.out.mono (Nat.le_succ _)
        go_wp2
        go_ret
        exact ⟨_, rfl, ho6.out, hb.out⟩
end Go.Proofs.Ytofdmkglhjpbcaa
