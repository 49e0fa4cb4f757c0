/- leb.Of -/
import Derived.Test.YtofdmkglhjpbcaaLebPut
import Derived.Laws.Bits64b
import Derived.OwnWalk
namespace Go.Proofs.Ytofdmkglhjpbcaa
open Go.RowKit
set_option linter.unusedVariables false
set_option linter.unusedSimpArgs false

/-- The number with which bytes begin, and its size. -/
def lebGo (i acc : Nat) : List Int → Option (Nat × Nat)
  | [] => none
  | x :: bs => if 10 ≤ i ∨ (i = 9 ∧ 1 < x) then none else if x < 128 then (if x = 0 ∧ 0 < i then none else some (acc + (x % 128).toNat * 128 ^ i, i + 1)) else lebGo (i + 1) (acc + (x % 128).toNat * 128 ^ i) bs
def lebP (bs : List Int) : Option (Nat × Nat) := lebGo 0 0 bs
def lebV (o : Option (Nat × Nat)) : Value := match o with
  | some (n, k) => .tuple #[.int .u64 (n : Int), .int .i64 (k : Int), .int .i64 0]
  | none => .tuple #[.int .u64 0, .int .i64 0, .int .i64 20]
theorem lebGo_bad {i acc : Nat} {x : Int} {bs : List Int} (h : 10 ≤ i ∨ (i = 9 ∧ 1 < x)) : lebGo i acc (x :: bs) = none := by rw [lebGo, if_pos h]
theorem lebGo_zero {i acc : Nat} {x : Int} {bs : List Int} (h : ¬ (10 ≤ i ∨ (i = 9 ∧ 1 < x))) (hx : x < 128) (hz : x = 0 ∧ 0 < i) : lebGo i acc (x :: bs) = none := by rw [lebGo, if_neg h, if_pos hx, if_pos hz]
theorem lebGo_end {i acc : Nat} {x : Int} {bs : List Int} (h : ¬ (10 ≤ i ∨ (i = 9 ∧ 1 < x))) (hx : x < 128) (hz : ¬ (x = 0 ∧ 0 < i)) : lebGo i acc (x :: bs) = some (acc + (x % 128).toNat * 128 ^ i, i + 1) := by rw [lebGo, if_neg h, if_pos hx, if_neg hz]
theorem lebGo_on {i acc : Nat} {x : Int} {bs : List Int} (h : ¬ (10 ≤ i ∨ (i = 9 ∧ 1 < x))) (hx : ¬ x < 128) : lebGo i acc (x :: bs) = lebGo (i + 1) (acc + (x % 128).toNat * 128 ^ i) bs := by rw [lebGo, if_neg h, if_neg hx]
theorem acc_next {acc k : Nat} {x : Int} (h : acc < 128 ^ k) : acc + (x % 128).toNat * 128 ^ k < 128 ^ (k + 1) := by
  have h1 : (x % 128).toNat ≤ 127 := by omega
  have h2 : (x % 128).toNat * 128 ^ k ≤ 127 * 128 ^ k := Nat.mul_le_mul_right _ h1
  rw [Nat.pow_succ]
  omega
theorem acc_u64 {acc k : Nat} {x : Int} (hx : 0 ≤ x) (h : acc < 128 ^ k) (hk : ¬ (10 ≤ k ∨ (k = 9 ∧ 1 < x))) : acc + (x % 128).toNat * 128 ^ k < 18446744073709551616 := by
  have h1 : k ≤ 9 := by omega
  by_cases h9 : k = 9
  · subst h9
    have : (x % 128).toNat ≤ 1 := by omega
    have : (x % 128).toNat * 128 ^ 9 ≤ 1 * 128 ^ 9 := Nat.mul_le_mul_right _ this
    omega
  · have h2 := acc_next (x := x) h
    have h3 : 128 ^ (k + 1) ≤ 128 ^ 9 := Nat.pow_le_pow_right (by omega) (by omega)
    omega

set_option maxRecDepth 100000 in
set_option maxHeartbeats 1000000 in
theorem lebOf_calls (w : World) (A : Option Addr) (c : Nat) (bs : List Int) (hl : bs.length ≤ 1000000) (hb : bytesL bs) (h : Rd u8e 1 w A bs) :
    Calls Try.prog 90 #[.slice A bs.length c] w fun e w' => e = .returned (lebV (lebP bs)) ∧ w = w' := by
  have HA := Lib.hid h
  have HB := Lib.hid hb
  clear h hb
  go_enter Try.func90, Try.ntmps90
  go_wp2
  go_loopg [2, 10] bs.length (fun n v i wr => ∃ k acc : Nat, v = .int .u64 acc ∧ i = .int .i64 k ∧ k + n = bs.length ∧ Hid (lebP bs = lebGo k acc (bs.drop k)) ∧ Hid (acc < 128 ^ k) ∧ w = wr)
  case atStart => exact ⟨0, 0, rfl, rfl, by omega, rfl, by show _ < _; simp, rfl⟩
  case round =>
    obtain ⟨k, acc, rfl, rfl, hk, hg, ha, rfl⟩ := hrel
    by_cases hlt : k < bs.length
    · obtain ⟨n', hn'⟩ : ∃ n', gk = n' + 1 := ⟨gk - 1, by omega⟩
      subst hn'
      rcases HA.out with h0 | ⟨b, off, rfl, hbl, hc⟩
      · simp [h0] at hlt
      have hx := List.getElem?_eq_getElem hlt
      have c0 : w.cell? ⟨b, off + k, none⟩ = some (.int .u8 bs[k]) := by have := hc k bs[k] hx 0 _ rfl; simpa using this
      have hd : bs.drop k = bs[k] :: bs.drop (k + 1) := by simp
      have hg2 : Hid (lebP bs = lebGo k acc (bs[k] :: bs.drop (k + 1))) := by show _ = _; rw [hg.out, hd]
      obtain ⟨r0, r1⟩ := HB.out bs[k] (List.getElem_mem hlt)
      generalize bs[k] = x at *
      clear hc hx hd hg
      have hi0 : (0 : Int) ≤ (k : Int) := by omega
      by_cases hbad : 10 ≤ k ∨ (k = 9 ∧ 1 < x)
      · have hv : Hid (lebP bs = none) := by show _ = _; rw [hg2.out]; exact lebGo_bad hbad
        rcases hbad with h | ⟨h, h2⟩
        · have h1 : (10 : Int) ≤ (k : Int) := by omega
          have hk9 : ((k : Int) == 9) = false := by rw [beq_eq_false_iff_ne]; omega
          clear h
          go_wp2
          refine bodyPost_ret (results_tmp3 rfl _ _ _) rfl ?_
          exact ⟨by rw [hv.out]; rfl, rfl⟩
        · have h1 : (k : Int) < 10 := by omega
          have hk9 : ((k : Int) == 9) = true := by rw [beq_iff_eq]; omega
          clear h
          go_wp2
          refine bodyPost_ret (results_tmp3 rfl _ _ _) rfl ?_
          exact ⟨by rw [hv.out]; rfl, rfl⟩
      · have h9 : k ≤ 9 := by omega
        have hu := Lib.hid (acc_u64 (x := x) r0 ha.out hbad)
        have hnx := Lib.hid (acc_next (x := x) ha.out)
        have h1 : (k : Int) < 10 := by omega
        have hw7 : (0 : Int) ≤ 7 * (k : Int) := by omega
        by_cases hk9 : k = 9
        · have hx1 : x = 0 ∨ x = 1 := by omega
          subst hk9
          rcases hx1 with rfl | rfl
          · have hv : Hid (lebP bs = none) := by show _ = _; rw [hg2.out]; exact lebGo_zero hbad (by omega) ⟨rfl, by omega⟩
            clear hbad
            go_wp2
            refine bodyPost_ret (results_tmp3 rfl _ _ _) rfl ?_
            exact ⟨by rw [hv.out]; rfl, rfl⟩
          · have hv : Hid (lebP bs = some (acc + 9223372036854775808, 10)) := by show _ = _; rw [hg2.out, lebGo_end hbad (by omega) (by omega)]; rfl
            have ha9 : acc < 9223372036854775808 := by have := ha.out; omega
            have hor : bits .or .u64 (acc : Int) 9223372036854775808 = ((acc + 9223372036854775808 : Nat) : Int) := by
              have e : (9223372036854775808 : Int) = ((9223372036854775808 : Nat) : Int) := rfl
              rw [e, bits_or_u64_nat _ _ (by omega) (by omega), Nat.or_comm]
              have := Nat.shiftLeft_add_eq_or_of_lt (i := 63) (b := acc) (by omega) 1
              rw [Nat.shiftLeft_eq] at this
              have e2 : (9223372036854775808 : Nat) = 1 * 2 ^ 63 := by omega
              rw [e2, ← this, Nat.add_comm]
            clear hbad
            go_wp2
            refine bodyPost_ret (results_tmp3 rfl _ _ _) rfl ?_
            exact ⟨by rw [hv.out]; rfl, rfl⟩
        · have hk9' : ((k : Int) == 9) = false := by rw [beq_eq_false_iff_ne]; omega
          have hor : bits .or .u64 (acc : Int) (IntKind.u64.wrap (x % 128 * 2 ^ (7 * k))) = ((acc + (x % 128).toNat * 128 ^ k : Nat) : Int) := by
            obtain ⟨y, hy⟩ : ∃ y : Nat, x % 128 = (y : Int) := ⟨(x % 128).toNat, by omega⟩
            have hyt : (x % 128).toNat = y := by omega
            have hu' := hu.out
            rw [hyt] at hu' ⊢
            have e1 : (x % 128 * 2 ^ (7 * k) : Int) = ((y * 2 ^ (7 * k) : Nat) : Int) := by rw [hy]; simp
            have e2 : 128 ^ k = 2 ^ (7 * k) := by rw [Nat.pow_mul]
            have ha' := ha.out
            rw [e2] at hu' ha' ⊢
            rw [e1, IntKind.wrap_u64]
            have e3 : (((y * 2 ^ (7 * k) : Nat) : Int) % 18446744073709551616) = ((y * 2 ^ (7 * k) : Nat) : Int) := by omega
            rw [e3, bits_or_u64_nat _ _ (by omega) (by omega), Nat.or_comm]
            have := Nat.shiftLeft_add_eq_or_of_lt (i := 7 * k) (b := acc) ha' y
            rw [Nat.shiftLeft_eq] at this
            rw [← this, Nat.add_comm]
          by_cases hx : x < 128
          · by_cases hz : x = 0 ∧ 0 < k
            · have hv : Hid (lebP bs = none) := by show _ = _; rw [hg2.out]; exact lebGo_zero hbad hx hz
              obtain ⟨hz1, hz2⟩ := hz
              have hz3 : (x == 0) = true := by simpa using hz1
              have hz4 : (0 : Int) < (k : Int) := by omega
              clear hbad hz1 hk9
              go_wp2
              refine bodyPost_ret (results_tmp3 rfl _ _ _) rfl ?_
              exact ⟨by rw [hv.out]; rfl, rfl⟩
            · have hv : Hid (lebP bs = some (acc + (x % 128).toNat * 128 ^ k, k + 1)) := by show _ = _; rw [hg2.out]; exact lebGo_end hbad hx hz
              obtain ⟨nn, hnn⟩ : ∃ nn, nn = acc + (x % 128).toNat * 128 ^ k := ⟨_, rfl⟩
              rw [← hnn] at hv hor
              clear hnn hu hnx
              by_cases hx0 : x = 0
              · have hz3 : (x == 0) = true := by simpa using hx0
                have hz4 : (k : Int) ≤ 0 := by omega
                clear hbad hx0 hk9 hz
                go_wp2
                refine bodyPost_ret (results_tmp3 rfl _ _ _) rfl ?_
                exact ⟨by rw [hv.out]; rfl, rfl⟩
              · have hz3 : (x == 0) = false := by simpa using hx0
                clear hbad hx0 hk9 hz
                go_wp2
                refine bodyPost_ret (results_tmp3 rfl _ _ _) rfl ?_
                exact ⟨by rw [hv.out]; rfl, rfl⟩
          · have hv : Hid (lebP bs = lebGo (k + 1) (acc + (x % 128).toNat * 128 ^ k) (bs.drop (k + 1))) := by show _ = _; rw [hg2.out]; exact lebGo_on hbad hx
            obtain ⟨nn, hnn⟩ : ∃ nn, nn = acc + (x % 128).toNat * 128 ^ k := ⟨_, rfl⟩
            rw [← hnn] at hv hor hnx
            have hx' : (128 : Int) ≤ x := by omega
            clear hbad hk9 hnn hu hx
            go_wp2
            go_roundg n'
            case measure => omega
            case rel => exact ⟨k + 1, nn, rfl, by go_num, by omega, hv, hnx, rfl⟩
    · have hv : Hid (lebP bs = none) := by show _ = _; rw [hg.out, List.drop_of_length_le (by omega)]; rfl
      go_wp2
      refine bodyPost_ret (results_tmp3 rfl _ _ _) rfl ?_
      exact ⟨by rw [hv.out]; rfl, rfl⟩
end Go.Proofs.Ytofdmkglhjpbcaa
