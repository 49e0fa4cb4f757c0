/- ref01: More, Sum, Ends; ref09.Ends -/
import Derived.Test.YtikgplhcadomcaaGreatKP
import Derived.Laws.Bits64b
namespace Go.Proofs.YtikgplhcadomcaaGreat
open Go.RowKit
set_option linter.unusedVariables false
set_option linter.unusedSimpArgs false
theorem and3072 (X : Nat) : X &&& 3072 = X / 1024 % 4 * 1024 := by
  have h : (3072 : Nat) = 3 <<< 10 := by decide
  have e : X / 1024 % 4 * 1024 = (X >>> 10 &&& 3) <<< 10 := by
    rw [Nat.shiftLeft_eq, Nat.shiftRight_eq_div_pow]
    have := Nat.and_two_pow_sub_one_eq_mod (X / 2 ^ 10) 2
    rw [show (2 : Nat) ^ 2 - 1 = 3 from rfl] at this
    rw [this]
  rw [e, h]
  apply Nat.eq_of_testBit_eq
  intro i
  rw [Nat.testBit_and, Nat.testBit_shiftLeft, Nat.testBit_shiftLeft, Nat.testBit_and, Nat.testBit_shiftRight]
  by_cases hi : 10 ≤ i
  · simp [hi, show 10 + (i - 10) = i by omega]
  · simp [hi]
set_option maxRecDepth 100000 in
theorem rMore_calls (w : World) (h : Nat) (hh : h < 18446744073709551616) (s : Str) (hs : s.size ≤ 9223372036854775807) :
    Calls Tryz.prog 156 #[.int .u64 (h : Int), .string s] w fun e w' => e = .returned (.int .u64 (fnvMore h s.data.toList : Int)) ∧ w = w' := by
  have HL : Hid (∀ k, fnvMore h (s.data.toList.take k) < 18446744073709551616) := fun k => fnvMore_lt h hh _
  go_enter Tryz.func156, Tryz.ntmps156
  go_wp2
  go_loopg [0, 5] s.size (fun n v i wr => ∃ k : Nat, v = .int .u64 (fnvMore h (s.data.toList.take k) : Int) ∧ i = .int .i64 k ∧ k + n = s.size ∧ w = wr)
  case atStart => exact ⟨0, rfl, rfl, by omega, rfl⟩
  case round =>
    obtain ⟨k, rfl, rfl, hk, rfl⟩ := hrel
    by_cases hlt : k < s.size
    · obtain ⟨n', hn'⟩ : ∃ n', gk = n' + 1 := ⟨gk - 1, by omega⟩
      subst hn'
      have hx : s.data.toList[k]? = some s.data[k] := by simp
      have hst := Lib.hid (fnvMore_take h _ k _ hx)
      have hL := Lib.hid (HL.out k)
      generalize fnvMore h (s.data.toList.take k) = v at *
      go_wp2
      go_roundg n'
      case measure => omega
      case rel => refine ⟨k + 1, ?_, by go_num, by omega, rfl⟩; rw [hst.out]; exact congrArg (Value.int .u64) (fnv_step v hL.out s.data[k])
    · have hk' : k = s.size := by omega
      subst hk'
      have he : s.data.toList.take s.size = s.data.toList := List.take_of_length_le (Nat.le_of_eq rfl)
      rw [he]
      go_wp2
      go_ret
      exact ⟨rfl, rfl⟩
set_option maxRecDepth 100000 in
theorem rSum_calls (w : World) (s : Str) (hs : s.size ≤ 9223372036854775807) :
    Calls Tryz.prog 157 #[.string s] w fun e w' => e = .returned (.int .u64 (fnvSum s : Int)) ∧ w = w' := by
  go_enter Tryz.func157, Tryz.ntmps157
  go_wp2_with fail
  refine (rMore_calls _ 14695981039346656037 (by omega) s hs).mono ?_
  rintro e w1 ⟨rfl, rfl⟩
  have hd : fnvMore 14695981039346656037 s.data.toList = fnvSum s := rfl
  rw [hd]
  go_wp2
  go_ret
  exact ⟨rfl, rfl⟩
set_option maxRecDepth 100000 in
set_option maxHeartbeats 1000000 in
theorem rEnds1_calls (w : World) (level : Int) (k : Str) (hs : k.size ≤ 9223372036854775807) : Calls Tryz.prog 108 #[.int .i64 level, .string k] w fun e w' => e = .returned (.bool (endsF level k)) ∧ Below w.heap.size w w' := by
  have hb : Below w.heap.size w (w.alloc (.cells #[.int .u8 (level % 256)] 5)) := bl_alloc (Below.refl _ w) _
  obtain ⟨W1, hW1⟩ : ∃ W, w.alloc (.cells #[.int .u8 (level % 256)] 5) = W := ⟨_, rfl⟩
  have cv : (convert 51 9 (.slice (some ⟨w.heap.size, 0, none⟩) 1 1)).run Tryz.prog W1 = .ok (.string (strOfNums [level % 256])) W1 := string_of_rd 1 rfl (by rw [← hW1]; exact Rd.lit (blk_new w _) rfl)
  rw [hW1] at hb
  have HB := Lib.hid hb
  have hlt := fnvMore_lt (fnvSum (strOfNums [level % 256])) (fnvSum_lt _) k.data.toList
  have hdef : Hid (endsF level k = decide (fnvMore (fnvSum (strOfNums [level % 256])) k.data.toList / 1024 % 4 = 0)) := rfl
  clear hb
  go_enter Tryz.func108, Tryz.ntmps108
  go_wp2_with fail
  refine (rSum_calls _ (strOfNums [level % 256]) (by show ([level % 256].map _).toArray.size ≤ _; simp)).mono ?_
  rintro e w2 ⟨rfl, rfl⟩
  go_wp2_with fail
  refine (rMore_calls _ _ (fnvSum_lt _) k hs).mono ?_
  rintro e w2 ⟨rfl, rfl⟩
  generalize fnvMore (fnvSum (strOfNums [level % 256])) k.data.toList = X at *
  have hand : bits .and .u64 (X : Int) 3072 = ((X / 1024 % 4 * 1024 : Nat) : Int) := by
    have e : (3072 : Int) = ((3072 : Nat) : Int) := rfl
    rw [e, bits_and_u64_nat _ _ hlt (by omega), and3072]
  clear cv
  go_wp2
  go_ret
  refine ⟨?_, HB.out⟩
  rw [hdef.out]
  have e : (((X : Int) / 1024 % 4 * 1024 == 0) : Bool) = decide (X / 1024 % 4 = 0) := by
    by_cases h : X / 1024 % 4 = 0
    · rw [decide_eq_true h, beq_iff_eq]; omega
    · rw [decide_eq_false h, beq_eq_false_iff_ne]; omega
  exact congrArg (fun b => Ending.returned (Value.bool b)) e
set_option maxRecDepth 100000 in
theorem rEnds_calls (w : World) (level : Int) (k : Str) (hs : k.size ≤ 9223372036854775807) : Calls Tryz.prog 65 #[.int .i64 level, .string k] w fun e w' => e = .returned (.bool (endsN level k)) ∧ Below w.heap.size w w' := by
  by_cases h : level < 20
  · have hv : Hid (endsN level k = endsF level k) := by show _ = _; unfold endsN; simp [h]
    go_enter Tryz.func65, Tryz.ntmps65
    go_wp2_with fail
    refine (rEnds1_calls _ level k hs).mono ?_
    rintro e w2 ⟨rfl, hb⟩
    go_wp2
    go_ret
    exact ⟨by rw [hv.out]; rfl, hb⟩
  · have hv : Hid (endsN level k = false) := by show _ = _; unfold endsN; simp [h]
    have hd : decide (level < 20) = false := by simpa using h
    clear h
    go_enter Tryz.func65, Tryz.ntmps65
    go_wp2
    go_ret
    exact ⟨by rw [hv.out]; rfl, Below.refl _ _⟩
end Go.Proofs.YtikgplhcadomcaaGreat
