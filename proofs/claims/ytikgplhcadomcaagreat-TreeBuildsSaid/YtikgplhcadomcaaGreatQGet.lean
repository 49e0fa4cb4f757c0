/- ref09.Get -/
import Derived.Test.YtikgplhcadomcaaGreatProg
import Derived.Test.YtikgplhcadomcaaGreatKA
namespace Go.Proofs.YtikgplhcadomcaaGreat
open Go.RowKit
set_option linter.unusedVariables false
set_option linter.unusedSimpArgs false

theorem Get_calls (w : World) (A : Option Addr) (c : Nat) (l : List Entry) (key : Str) (hm : l.length ≤ 9223372036854775807) (h : Rd Entry.enc 2 w A l) :
    Calls Tryz.prog 76 #[.slice A l.length c, .string key] w fun e w' => e = .returned ((get l key).v) ∧ Below w.heap.size w w' := by
  go_enter Tryz.func76, Tryz.ntmps76
  go_wp2
  go_loopw [9] (fun i wr => ∃ k : Nat, k ≤ l.length ∧ i = .int .i64 k ∧ Hid (get l key = get (l.drop k) key) ∧ Hid (wr.heap[w.heap.size]? = some (.cells #[.bool false, .string ⟨#[]⟩] 129 (0, 0))) ∧ Below w.heap.size w wr) (fun i _ => l.length - (intOf i).toNat)
  case atStart => exact ⟨0, Nat.zero_le _, rfl, rfl, blk_new _ _, (Below.refl _ _).alloc (Nat.le_refl _) _⟩
  case round =>
    obtain ⟨k, hk, rfl, hg, hr, hb⟩ := hrel
    have hz := blk_lt hr.out
    have r0 := blk_cell hr.out 0
    have r1 := blk_cell hr.out 1
    have f0 := blk_free hr.out 0
    have f1 := blk_free hr.out 1
    simp at r0 r1
    by_cases hlt : k < l.length
    · have hr2 := h.below hb (Nat.le_refl _)
      rcases hr2 with h0 | ⟨b, off, rfl, hbl, hc⟩
      · simp [h0] at hlt
      have c0 : wr.cell? ⟨b, off + k * 2, none⟩ = some (.string l[k].key) := hc k l[k] (by simp [hlt]) 0 _ rfl
      have c1 : wr.cell? ⟨b, off + k * 2 + 1, none⟩ = some (.string l[k].val) := hc k l[k] (by simp [hlt]) 1 _ rfl
      clear hc h
      have hd : l.drop k = l[k] :: l.drop (k + 1) := by simp
      by_cases he : l[k].key = key
      · have hv : Hid ((get l key).v = .agg #[.bool true, .string l[k].val]) := by show _ = _; rw [hg.out, hd]; simp [get, he, Side.v, Side.cells]
        have hq := str_eq he
        clear hd he
        go_wp2
        refine ret_row #[.bool true, .string l[k].val] rfl rfl Tryz.underlying129 rfl rfl (by kernel_rfl) (by simp [rowOf_alloc, rowOf_set, rowOf_blk hr.out, hz]) ⟨by rw [hv.out], ?_⟩
        repeat (first | exact hb | refine bl_alloc ?_ _ | refine bl_set ?_ (by omega) _)
      · have hg' : Hid (get l key = get (l.drop (k + 1)) key) := by show _ = _; rw [hg.out, hd]; simp [get, he]
        have hq := str_ne he
        clear hd he
        go_wp2
        exact ⟨⟨k + 1, by omega, by go_num, hg', blk_alloc hr.out _, hb.alloc hb.size _⟩, by simp [intOf]; omega⟩
    · have hv : Hid ((get l key).v = .agg #[.bool false, .string ⟨#[]⟩]) := by show _ = _; rw [hg.out, List.drop_of_length_le (by omega)]; rfl
      go_wp2
      refine ret_row #[.bool false, .string ⟨#[]⟩] rfl rfl Tryz.underlying129 rfl rfl (by kernel_rfl) (by simp [rowOf_set, rowOf_blk hr.out]) ⟨by rw [hv.out], ?_⟩
      repeat (first | exact hb | refine bl_alloc ?_ _ | refine bl_set ?_ (by omega) _)
theorem Get_calls' (w : World) (A : Option Addr) (c : Nat) (l : List Entry) (key : Str) (hm : l.length ≤ 9223372036854775807) (h : Rd Entry.enc 2 w A l) :
    Calls Tryz.prog 76 #[.slice A l.length c, .string key] w fun e w' => e = .returned (.agg #[.bool (get l key).has, .string (get l key).val]) ∧ Below w.heap.size w w' := Get_calls w A c l key hm h

end Go.Proofs.YtikgplhcadomcaaGreat
