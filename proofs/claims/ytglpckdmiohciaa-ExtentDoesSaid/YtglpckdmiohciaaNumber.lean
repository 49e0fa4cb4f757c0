/- super.number, the reference's number -/
import Derived.Test.YtglpckdmiohciaaPut
import Derived.Laws.Bits64b
namespace Go.Proofs.Ytglpckdmiohciaa
open Go.RowKit
set_option linter.unusedVariables false
set_option linter.unusedSimpArgs false

/-- The number of some bytes. -/
def num (xs : List Int) : Int := xs.foldl (fun n x => n * 256 + x) 0
def byteL (xs : List Int) : Prop := ∀ x ∈ xs, 0 ≤ x ∧ x ≤ 255
theorem num_snoc (xs : List Int) (x : Int) : num (xs ++ [x]) = num xs * 256 + x := by simp [num, List.foldl_append]
theorem num_rng : ∀ (k : Nat) (xs : List Int), byteL xs → k ≤ xs.length → 0 ≤ num (xs.take k) ∧ num (xs.take k) < 256 ^ k
  | 0, xs, h, hk => by simp [num]
  | k + 1, xs, h, hk => by
    obtain ⟨h0, h1⟩ := num_rng k xs h (by omega)
    rw [List.take_add_one, List.getElem?_eq_getElem (by omega)]
    simp only [Option.toList_some]
    rw [num_snoc]
    have := h xs[k] (List.getElem_mem _)
    rw [Int.pow_succ]
    omega

theorem or_low (n x : Int) (h0 : 0 ≤ n) (h1 : n < 72057594037927936) (h2 : 0 ≤ x) (h3 : x ≤ 255) : bits .or .u64 (n * 256) x = n * 256 + x := by
  obtain ⟨a, rfl⟩ : ∃ a : Nat, n = a := ⟨n.toNat, by omega⟩
  obtain ⟨b, rfl⟩ : ∃ b : Nat, x = b := ⟨x.toNat, by omega⟩
  have e : (a : Int) * 256 = ((a * 256 : Nat) : Int) := by simp
  rw [e, bits_or_u64_nat _ _ (by omega) (by omega)]
  have := Nat.shiftLeft_add_eq_or_of_lt (i := 8) (b := b) (by omega) a
  rw [Nat.shiftLeft_eq] at this
  rw [← this]
  simp
set_option maxRecDepth 100000 in
theorem number_calls (w : World) (A : Option Addr) (c : Nat) (xs : List Int) (hl : xs.length ≤ 8) (hx : byteL xs) (h : Rd by1 1 w A xs) :
    Calls Try.prog 79 #[.slice A xs.length c] w fun e w' => e = .returned (.int .u64 (num xs)) ∧ w = w' := by
  have HR := Lib.hid h
  clear h
  have HX := Lib.hid hx
  clear hx
  go_enter Try.func79, Try.ntmps79
  go_wp2
  go_loopg [3, 8] xs.length (fun n v i wr => ∃ k : Nat, v = .int .u64 (num (xs.take k)) ∧ i = .int .i64 k ∧ k + n = xs.length ∧ wr = w)
  case atStart => exact ⟨0, rfl, rfl, by omega, rfl⟩
  case round =>
    obtain ⟨k, rfl, rfl, hk, rfl⟩ := hrel
    rcases Nat.lt_or_ge k xs.length with hlt | hge
    · have hlt2 : (k : Int) < (xs.length : Int) := by omega
      have hnx : Hid (num (xs.take (k + 1)) = num (xs.take k) * 256 + xs[k]) := by
        show _ = _
        rw [List.take_add_one, List.getElem?_eq_getElem hlt]
        exact num_snoc _ _
      obtain ⟨hn0, hn1⟩ := num_rng k xs HX.out (by omega)
      obtain ⟨x0, x1⟩ := HX.out xs[k] (List.getElem_mem _)
      have hn2 : num (xs.take k) < 72057594037927936 := by
        refine Int.lt_of_lt_of_le hn1 ?_
        have : (256 : Nat) ^ k ≤ 256 ^ 7 := Nat.pow_le_pow_right (by omega) (by omega)
        have h2 : (((256 : Nat) ^ k : Nat) : Int) ≤ ((256 ^ 7 : Nat) : Int) := by exact_mod_cast this
        simpa using h2
      rcases HR.out with h0 | ⟨b, off, rfl, hbl, hcell⟩
      · simp [h0] at hlt
      have c1 : wr.cell? ⟨b, off + k, none⟩ = some (.int .u8 xs[k]) := by have := hcell k xs[k] (by simp [hlt]) 0 _ rfl; simpa using this
      generalize xs[k] = x at *
      clear hcell hn1
      generalize num (xs.take k) = n at *
      have hor := or_low n x hn0 hn2 x0 x1
      go_wp2
      go_roundg (gk - 1)
      case measure => omega
      case rel => exact ⟨k + 1, by rw [hnx.out], by go_num, by omega, rfl⟩
    · obtain rfl : k = xs.length := by omega
      have hfin : Hid (num (xs.take xs.length) = num xs) := by show _ = _; simp
      go_wp2
      go_ret
      exact ⟨by rw [← hfin.out]; rfl, rfl⟩
set_option maxRecDepth 100000 in
theorem refNumber_calls (w : World) (A : Option Addr) (c : Nat) (xs : List Int) (hl : xs.length ≤ 8) (hx : byteL xs) (h : Rd by1 1 w A xs) :
    Calls Try.prog 80 #[.slice A xs.length c] w fun e w' => e = .returned (.int .u64 (num xs)) ∧ w = w' := by
  have HR := Lib.hid h
  clear h
  have HX := Lib.hid hx
  clear hx
  go_enter Try.func80, Try.ntmps80
  go_wp2
  go_loopg [3, 8] xs.length (fun n v i wr => ∃ k : Nat, v = .int .u64 (num (xs.take k)) ∧ i = .int .i64 k ∧ k + n = xs.length ∧ wr = w)
  case atStart => exact ⟨0, rfl, rfl, by omega, rfl⟩
  case round =>
    obtain ⟨k, rfl, rfl, hk, rfl⟩ := hrel
    rcases Nat.lt_or_ge k xs.length with hlt | hge
    · have hlt2 : (k : Int) < (xs.length : Int) := by omega
      have hnx : Hid (num (xs.take (k + 1)) = num (xs.take k) * 256 + xs[k]) := by
        show _ = _
        rw [List.take_add_one, List.getElem?_eq_getElem hlt]
        exact num_snoc _ _
      obtain ⟨hn0, hn1⟩ := num_rng k xs HX.out (by omega)
      obtain ⟨x0, x1⟩ := HX.out xs[k] (List.getElem_mem _)
      have hn2 : num (xs.take k) < 72057594037927936 := by
        refine Int.lt_of_lt_of_le hn1 ?_
        have : (256 : Nat) ^ k ≤ 256 ^ 7 := Nat.pow_le_pow_right (by omega) (by omega)
        have h2 : (((256 : Nat) ^ k : Nat) : Int) ≤ ((256 ^ 7 : Nat) : Int) := by exact_mod_cast this
        simpa using h2
      rcases HR.out with h0 | ⟨b, off, rfl, hbl, hcell⟩
      · simp [h0] at hlt
      have c1 : wr.cell? ⟨b, off + k, none⟩ = some (.int .u8 xs[k]) := by have := hcell k xs[k] (by simp [hlt]) 0 _ rfl; simpa using this
      generalize xs[k] = x at *
      clear hcell hn1
      generalize num (xs.take k) = n at *
      go_wp2
      go_roundg (gk - 1)
      case measure => omega
      case rel => exact ⟨k + 1, by rw [hnx.out], by go_num, by omega, rfl⟩
    · obtain rfl : k = xs.length := by omega
      have hfin : Hid (num (xs.take xs.length) = num xs) := by show _ = _; simp
      go_wp2
      go_ret
      exact ⟨by rw [← hfin.out]; rfl, rfl⟩
end Go.Proofs.Ytglpckdmiohciaa
