/- ref27.change -/
import Derived.Test.YtofdmkglhjpbcaaPatchJoin
import Derived.Test.YtofdmkglhjpbcaaMergeKey
namespace Go.Proofs.Ytofdmkglhjpbcaa
open Go.RowKit
set_option linter.unusedVariables false
set_option linter.unusedSimpArgs false

theorem set5 {w : World} {g : Nat} {a b c d e : Value} {t : TypeId} {fr : Nat × Nat} (h : w.heap[g]? = some (.cells #[a, b, c, d, e] t fr)) (a' b' c' d' e' : Value) :
    (((((w.setCell ⟨g, 0, none⟩ a').setCell ⟨g, 1, none⟩ b').setCell ⟨g, 2, none⟩ c').setCell ⟨g, 3, none⟩ d').setCell ⟨g, 4, none⟩ e').heap[g]? = some (.cells #[a', b', c', d', e'] t fr) :=
  blk_set' (cs := #[a', b', c', d', e]) (blk_set' (cs := #[a', b', c', d, e]) (blk_set' (cs := #[a', b', c, d, e]) (blk_set' (cs := #[a', b, c, d, e]) (blk_set' h 0 a' rfl) 1 b' rfl) 2 c' rfl) 3 d' rfl) 4 e' rfl
theorem chOf_hit {l : List Change} {k : Nat} {key : Str} {c : Change} (h : chOf l key = chOf (l.drop k) key) (hx : l[k]? = some c) (hk : c.key = key) : chOf l key = some c := by
  have hlt := (List.getElem?_eq_some_iff.1 hx).1
  have hd : l.drop k = c :: l.drop (k + 1) := by rw [List.drop_eq_getElem_cons hlt]; rw [(List.getElem?_eq_some_iff.1 hx).2]
  rw [h, hd]
  unfold chOf
  rw [List.find?_cons, decide_eq_true hk]
theorem chOf_miss {l : List Change} {k : Nat} {key : Str} {c : Change} (h : chOf l key = chOf (l.drop k) key) (hx : l[k]? = some c) (hk : ¬ c.key = key) : chOf l key = chOf (l.drop (k + 1)) key := by
  have hlt := (List.getElem?_eq_some_iff.1 hx).1
  have hd : l.drop k = c :: l.drop (k + 1) := by rw [List.drop_eq_getElem_cons hlt]; rw [(List.getElem?_eq_some_iff.1 hx).2]
  rw [h, hd]
  unfold chOf
  rw [List.find?_cons, decide_eq_false hk]

set_option maxRecDepth 100000 in
set_option maxHeartbeats 1000000 in
theorem changeOf_calls (w : World) (A : Option Addr) (c : Nat) (l : List Change) (key : Str) (hl : l.length ≤ 1000000) (h : Rd Change.enc 5 w A l) :
    Calls Try.prog 77 #[.slice A l.length c, .string key] w fun e w' => e = .returned (.tuple #[chV ((chOf l key).getD noChg), .bool (chOf l key).isSome]) ∧ Below w.heap.size w w' := by
  have HA := Lib.hid h
  clear h
  have hN0 := Lib.hid (blk_new w (.cells #[.string ⟨#[]⟩, .bool false, .string ⟨#[]⟩, .bool false, .string ⟨#[]⟩] 35))
  have hB0 : Hid (Below w.heap.size w (w.alloc (.cells #[.string ⟨#[]⟩, .bool false, .string ⟨#[]⟩, .bool false, .string ⟨#[]⟩] 35))) := bl_alloc (Below.refl _ _) _
  go_enter Try.func77, Try.ntmps77
  go_wp2
  go_loopg [10] l.length (fun n i wr => ∃ k : Nat, i = .int .i64 k ∧ k + n = l.length ∧ Hid (chOf l key = chOf (l.drop k) key) ∧ Hid (wr.heap[w.heap.size]? = some (.cells #[.string ⟨#[]⟩, .bool false, .string ⟨#[]⟩, .bool false, .string ⟨#[]⟩] 35)) ∧ Hid (Below w.heap.size w wr))
  case atStart => exact ⟨0, rfl, by omega, rfl, hN0.out, hB0.out⟩
  case round =>
    obtain ⟨k, rfl, hk, hg, hN, hb⟩ := hrel
    by_cases hlt : k < l.length
    · obtain ⟨n', hn'⟩ : ∃ n', gk = n' + 1 := ⟨gk - 1, by omega⟩
      subst hn'
      rcases HA.out.below hb.out (Nat.le_refl _) with h0 | ⟨b, off, rfl, hbl, hc⟩
      · simp [h0] at hlt
      have hx := List.getElem?_eq_getElem hlt
      have c0 : wr.cell? ⟨b, off + k * 5, none⟩ = some (.string l[k].key) := hc k l[k] hx 0 _ rfl
      have c1 : wr.cell? ⟨b, off + k * 5 + 1, none⟩ = some (.bool l[k].had) := hc k l[k] hx 1 _ rfl
      have c2 : wr.cell? ⟨b, off + k * 5 + 2, none⟩ = some (.string l[k].was) := hc k l[k] hx 2 _ rfl
      have c3 : wr.cell? ⟨b, off + k * 5 + 3, none⟩ = some (.bool l[k].has) := hc k l[k] hx 3 _ rfl
      have c4 : wr.cell? ⟨b, off + k * 5 + 4, none⟩ = some (.string l[k].now) := hc k l[k] hx 4 _ rfl
      have HH := Lib.hid (fun e => chOf_hit hg.out hx e)
      have HM := Lib.hid (fun e => chOf_miss hg.out hx e)
      generalize l[k] = x at *
      obtain ⟨xk, had, was, has, now⟩ := x
      simp only at c0 c1 c2 c3 c4 HH HM
      clear hc hx hg
      by_cases he : xk = key
      · have hv : Hid (chOf l key = some ⟨xk, had, was, has, now⟩) := HH.out he
        have hq : (xk.toList == key.toList) = true := by rw [toList_beq]; exact decide_eq_true he
        have hf := fun i => blk_free hN.out i
        have z0 : wr.cell? ⟨w.heap.size, 0, none⟩ = some (.string ⟨#[]⟩) := by rw [blk_cell hN.out]; rfl
        have z1 : wr.cell? ⟨w.heap.size, 1, none⟩ = some (.bool false) := by rw [blk_cell hN.out]; rfl
        have z2 : wr.cell? ⟨w.heap.size, 2, none⟩ = some (.string ⟨#[]⟩) := by rw [blk_cell hN.out]; rfl
        have z3 : wr.cell? ⟨w.heap.size, 3, none⟩ = some (.bool false) := by rw [blk_cell hN.out]; rfl
        have z4 : wr.cell? ⟨w.heap.size, 4, none⟩ = some (.string ⟨#[]⟩) := by rw [blk_cell hN.out]; rfl
        have hlN := blk_lt hN.out
        clear he HH HM
        go_wp2
        refine ret_row_slot #[.string xk, .bool had, .string was, .bool has, .string now] (g := w.heap.size) (by rfl) (by rfl) Try.underlying35 (by rfl) rfl (by kernel_rfl) (rowOf_blk (blk_alloc (set5 hN.out _ _ _ _ _) _)) ?_
        refine ⟨by rw [hv.out]; rfl, ?_⟩
        exact bl_alloc (bl_set (bl_set (bl_set (bl_set (bl_set hb.out (Nat.le_refl _) _) (Nat.le_refl _) _) (Nat.le_refl _) _) (Nat.le_refl _) _) (Nat.le_refl _) _) _
      · have hv : Hid (chOf l key = chOf (l.drop (k + 1)) key) := HM.out he
        have hq : (xk.toList == key.toList) = false := by rw [toList_beq]; exact decide_eq_false he
        clear he HH HM
        go_wp2
        go_roundg n'
        case measure => omega
        case rel => exact ⟨k + 1, by go_num, by omega, hv, blk_alloc hN.out _, bl_alloc hb.out _⟩
    · have hv : Hid (chOf l key = none) := by show _ = _; rw [hg.out, List.drop_of_length_le (by omega)]; rfl
      have hf := fun i => blk_free hN.out i
      have z0 : wr.cell? ⟨w.heap.size, 0, none⟩ = some (.string ⟨#[]⟩) := by rw [blk_cell hN.out]; rfl
      have z1 : wr.cell? ⟨w.heap.size, 1, none⟩ = some (.bool false) := by rw [blk_cell hN.out]; rfl
      have z2 : wr.cell? ⟨w.heap.size, 2, none⟩ = some (.string ⟨#[]⟩) := by rw [blk_cell hN.out]; rfl
      have z3 : wr.cell? ⟨w.heap.size, 3, none⟩ = some (.bool false) := by rw [blk_cell hN.out]; rfl
      have z4 : wr.cell? ⟨w.heap.size, 4, none⟩ = some (.string ⟨#[]⟩) := by rw [blk_cell hN.out]; rfl
      go_wp2
      refine ret_row_slot #[.string ⟨#[]⟩, .bool false, .string ⟨#[]⟩, .bool false, .string ⟨#[]⟩] (g := w.heap.size) (by rfl) (by rfl) Try.underlying35 (by rfl) rfl (by kernel_rfl) (rowOf_blk (set5 hN.out _ _ _ _ _)) ?_
      refine ⟨by rw [hv.out]; rfl, ?_⟩
      exact bl_set (bl_set (bl_set (bl_set (bl_set hb.out (Nat.le_refl _) _) (Nat.le_refl _) _) (Nat.le_refl _) _) (Nat.le_refl _) _) (Nat.le_refl _) _
end Go.Proofs.Ytofdmkglhjpbcaa
