/- shape.lasts -/
import Derived.Test.YtikgplhcadomcaaGreatKP
namespace Go.Proofs.YtikgplhcadomcaaGreat
open Go.RowKit
set_option linter.unusedVariables false
set_option linter.unusedSimpArgs false
set_option maxRecDepth 100000 in
set_option maxHeartbeats 2000000 in
theorem lasts_calls (w : World) (A : Option Addr) (c : Nat) (K : List Kid) (hK : Rd Kid.enc 2 w A K) (lk : K.length ≤ 1000000) :
    Calls Tryz.prog 63 #[.slice A K.length c] w fun e w' => KeysR w w' (K.map Kid.last) e := by
  have HK := Lib.hid hK
  have t1 : Hid ((Value.string ⟨#[]⟩).cells.size = 1) := rfl
  clear hK
  go_enter Tryz.func63, Tryz.ntmps63
  go_wp2
  go_loopg [3, 8] K.length (fun m s3 i wr => ∃ (k : Nat) (v : Value), v = s3 ∧ i = .int .i64 k ∧ k + m = K.length ∧ Hid (Own strEnc 1 9 w.heap.size wr v ((K.take k).map Kid.last)) ∧ Hid (Below w.heap.size w wr))
  case atStart => exact ⟨0, _, rfl, rfl, by omega, Own.nil, Below.refl _ _⟩
  case round =>
    obtain ⟨k, v, rfl, rfl, hk, ho, hb⟩ := hrel
    by_cases hkn : k < K.length
    · obtain ⟨m', hm'⟩ : ∃ m', gk = m' + 1 := ⟨gk - 1, by omega⟩
      subst hm'
      have hki : (k : Int) < (K.length : Int) := by omega
      have hkz : (0 : Int) ≤ (k : Int) := by omega
      rcases HK.out with h0 | ⟨bb, off, rfl, hlt, hcell⟩
      · rw [h0] at hkn; simp at hkn
      have hxk : K[k]? = some K[k] := List.getElem?_eq_getElem hkn
      have hrg := (HK.out.below hb.out (Nat.le_refl _)).range hxk
      have z0 := hrg 0 _ rfl
      have z1 := hrg 1 _ rfl
      have hbl : bb < wr.heap.size := Nat.lt_of_lt_of_le hlt hb.out.size
      have htk : Hid ((K.take (k + 1)).map Kid.last = (K.take k).map Kid.last ++ [(K[k]).last]) := by show _ = _; rw [List.take_add_one, hxk, List.map_append]; rfl
      generalize K[k] = x at *
      obtain ⟨xk, xv⟩ := x
      have e1 : off + k * 2 + 0 = off + k * 2 := rfl
      rw [e1] at z0
      dsimp only at z0 z1 htk
      obtain ⟨W3, hW3⟩ : ∃ W, wr.alloc (.cells #[.string xk, .int .u64 xv] 109) = W := ⟨_, rfl⟩
      have hb3 : Below wr.heap.size wr W3 := by rw [← hW3]; exact bl_alloc (Below.refl _ wr) _
      have hz3 : W3.heap[wr.heap.size]? = some (.cells #[.string xk, .int .u64 xv] 109 (0, 0)) := by rw [← hW3]; exact blk_new wr _
      have y0 := blk_cell hz3 0
      have yl := blk_lt hz3
      have hb4 : Below W3.heap.size W3 (W3.alloc (.cells #[.string xk] 9)) := bl_alloc (Below.refl _ W3) _
      have B4 := Lib.hid (bl_then (bl_then hb.out hb.out.size hb3) (Nat.le_trans hb.out.size hb3.size) hb4)
      have O4 := Lib.hid ((ho.out.below hb3).below hb4)
      have z4 := Lib.hid B4.out.size
      have hlen : Hid (((K.take k).map Kid.last).length = k) := by show _ = _; rw [List.length_map, List.length_take]; omega
      have l1 : Hid ((((K.take k).map Kid.last).length + 1) * 16 ≤ 140737488355328) := by show _ ≤ _; rw [hlen.out]; omega
      have l2 : Hid (((K.take k).map Kid.last).length + 1 ≤ 140737488355328) := by show _ ≤ _; rw [hlen.out]; omega
      have nn : Hid ([xk] ≠ []) := by show _ ≠ _; simp
      have hmin : min k K.length = k := by omega
      clear hrg hcell hlt hxk hb3 hb4 hz3
      go_wp2_with (at_builtin; refine at_list rfl (fun K' hK' => op_ownN strOk _ _ _ _ _ _ rfl Tryz.underlying49 infoSt t1.out w.heap.size _ ((K.take k).map Kid.last) (some ⟨W3.heap.size, 0, none⟩) 1 [xk] 1 rfl nn.out rfl rfl O4.out (Rd.lit (blk_new W3 _) rfl) z4.out l1.out l2.out (fun g7 cap w7 ho7 hg7 hat7 hlt7 => hK' _ _ ?_)); have O7 := Lib.hid ho7; have B7 := Lib.hid (B4.out.grown hg7 z4.out (fun k e => (O4.out.lt _ e).1)); clear ho7 hg7 hat7 hlt7)
      rw [← htk.out, hlen.out] at O7
      go_roundg m'
      case measure => omega
      case rel => exact ⟨k + 1, _, rfl, by go_num, by omega, O7.out, B7.out⟩
    · have hkk : ¬ (k : Int) < (K.length : Int) := by omega
      have ho1 : Hid (Own strEnc 1 9 w.heap.size wr v (K.map Kid.last)) := by show Own _ _ _ _ _ _ _; have := ho.out; rw [List.take_of_length_le (by omega)] at this; exact this
      clear ho
      go_wp2
      go_ret
      exact ⟨_, rfl, ho1.out, hb.out⟩
end Go.Proofs.YtikgplhcadomcaaGreat
