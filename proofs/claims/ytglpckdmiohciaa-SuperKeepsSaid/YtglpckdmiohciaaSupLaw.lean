/- Plain laws of supers and their bytes. No program is named here. -/
import Derived.Test.YtglpckdmiohciaaOf
namespace Go.Proofs.Ytglpckdmiohciaa
set_option linter.unusedVariables false
set_option linter.unusedSimpArgs false

theorem num_from : ∀ (l : List Int) (a : Int), l.foldl (fun n x => n * 256 + x) a = a * 256 ^ l.length + num l
  | [], a => by simp [num]
  | x :: l, a => by
    have h1 := num_from l (a * 256 + x)
    have h2 := num_from l (0 * 256 + x)
    simp only [num, List.foldl_cons, List.length_cons] at *
    rw [h1, h2, Int.pow_succ, Int.add_mul, Int.mul_assoc, Int.mul_comm 256, Int.zero_mul, Int.zero_add, Int.add_assoc]
theorem num_cons (x : Int) (l : List Int) : num (x :: l) = x * 256 ^ l.length + num l := by
  have := num_from l x
  simp only [num, List.foldl_cons] at *
  simpa using this
theorem num_be (n : Int) (h0 : 0 ≤ n) : ∀ k, num (be n k) = n % 256 ^ k
  | 0 => by simp [be, num, Int.emod_one]
  | k + 1 => by
    rw [be, num_cons, be_len, num_be n h0 k]
    have e : (2 : Int) ^ (8 * k) = 256 ^ k := by rw [Int.pow_mul]; rfl
    rw [e]
    obtain ⟨m, rfl⟩ : ∃ m : Nat, n = m := ⟨n.toNat, by omega⟩
    have hp : (256 : Int) ^ k = ((256 ^ k : Nat) : Int) := by simp
    rw [Int.pow_succ, hp]
    generalize 256 ^ k = p
    have h1 := Nat.mod_mul (x := m) (a := p) (b := 256)
    have h2 : ((m % (p * 256) : Nat) : Int) = ((m % p + p * (m / p % 256) : Nat) : Int) := by rw [h1]
    simp only [Int.natCast_add, Int.natCast_mul, Int.natCast_emod, Int.natCast_ediv, Int.cast_ofNat_Int] at h2
    rw [h2, Int.mul_comm, Int.add_comm]
theorem be8 (n : Int) (h0 : 0 ≤ n) (h1 : n < 18446744073709551616) : num (be n 8) = n := by rw [num_be n h0]; omega
theorem be4 (n : Int) (h0 : 0 ≤ n) (h1 : n < 4294967296) : num (be n 4) = n := by rw [num_be n h0]; omega
theorem be8_inj {n m : Int} (h0 : 0 ≤ n) (h1 : n < 18446744073709551616) (k0 : 0 ≤ m) (k1 : m < 18446744073709551616) (h : be n 8 = be m 8) : n = m := by rw [← be8 n h0 h1, ← be8 m k0 k1, h]
theorem cut5 (a b c d e f : List Int) (ha : a.length = 8) (hb : b.length = 4) (hc : c.length = 4) (hd : d.length = 4) (he : e.length = 4) :
    (a ++ b ++ c ++ d ++ e ++ f).take 8 = a ∧ ((a ++ b ++ c ++ d ++ e ++ f).drop 8).take 4 = b ∧ ((a ++ b ++ c ++ d ++ e ++ f).drop 12).take 4 = c ∧ ((a ++ b ++ c ++ d ++ e ++ f).drop 16).take 4 = d ∧ (a ++ b ++ c ++ d ++ e ++ f).drop 24 = f := by
  refine ⟨?_, ?_, ?_, ?_, ?_⟩
  · simp only [List.append_assoc]; exact List.take_left' ha
  · simp only [List.append_assoc]; rw [List.drop_left' ha]; exact List.take_left' hb
  · rw [show a ++ b ++ c ++ d ++ e ++ f = (a ++ b) ++ (c ++ (d ++ e ++ f)) from by simp, List.drop_left' (by simp [ha, hb])]; exact List.take_left' hc
  · rw [show a ++ b ++ c ++ d ++ e ++ f = (a ++ b ++ c) ++ (d ++ (e ++ f)) from by simp, List.drop_left' (by simp [ha, hb, hc])]; exact List.take_left' hd
  · rw [List.drop_left' (by simp [ha, hb, hc, hd, he])]
theorem put_cut (s : Sup) : (put s).take 8 = be s.epoch 8 ∧ ((put s).drop 8).take 4 = be s.start 4 ∧ ((put s).drop 12).take 4 = be s.pages 4 ∧ ((put s).drop 16).take 4 = be s.size 4 ∧ (put s).drop 24 = be s.epoch 8 :=
  cut5 _ _ _ _ _ _ (be_len _ _) (be_len _ _) (be_len _ _) (be_len _ _) rfl
theorem supOf_put (s : Sup) (h : s.ok) : supOf (put s) = s := by
  obtain ⟨⟨a0, a1⟩, ⟨b0, b1⟩, ⟨c0, c1⟩, ⟨d0, d1⟩⟩ := h
  obtain ⟨e1, e2, e3, e4, _⟩ := put_cut s
  simp [supOf, e1, e2, e3, e4, be8 _ a0 a1, be4 _ b0 b1, be4 _ c0 c1, be4 _ d0 d1]
theorem isSup_put (s : Sup) (h : s.ok) : isSup (put s) ↔ s.epoch ≠ 0 := by
  unfold isSup
  rw [supOf_put s h]
  exact ⟨fun e => e.2.1, fun e => ⟨put_len s, e, rfl⟩⟩
theorem ofB_put (s : Sup) (h : s.ok) (he : s.epoch ≠ 0) : ofB (put s) = s := by unfold ofB; rw [if_pos ((isSup_put s h).2 he), supOf_put s h]

/-- The first k bytes of b's, the others of a's. -/
def torn (a b : Sup) (k : Nat) : List Int := (put b).take k ++ (put a).drop k
theorem torn_law (a b : Sup) (ha : a.ok) (hb : b.ok) (hne : a.epoch ≠ b.epoch) (k : Nat) (hk : k ≤ 32) (h : isSup (torn a b k)) : ofB (torn a b k) = a ∨ ofB (torn a b k) = b := by
  have la := put_len a
  have lb := put_len b
  have hby : byteL (torn a b k) := by
    intro x hx
    rcases List.mem_append.1 hx with hx | hx
    · exact put_byte b x (List.mem_of_mem_take hx)
    · exact put_byte a x (List.mem_of_mem_drop hx)
  have hof : ofB (torn a b k) = supOf (torn a b k) := if_pos h
  have hok := supOf_ok hby h.1
  rw [hof]
  obtain ⟨hl, _, hp⟩ := h
  generalize hs : supOf (torn a b k) = s at *
  obtain ⟨s1, _, _, _, s5⟩ := put_cut s
  obtain ⟨a1, _, _, _, a5⟩ := put_cut a
  obtain ⟨b1, _, _, _, b5⟩ := put_cut b
  have hpa : k ≤ 24 → s.epoch = a.epoch := by
    intro hk
    refine be8_inj hok.1.1 hok.1.2 ha.1.1 ha.1.2 ?_
    rw [← s5, hp, torn, List.drop_append, List.drop_of_length_le (by simp; omega), List.nil_append, List.drop_drop, show k + (24 - (List.take k (put b)).length) = 24 from by simp [lb]; omega, a5]
  have hpb : 8 ≤ k → s.epoch = b.epoch := by
    intro hk
    refine be8_inj hok.1.1 hok.1.2 hb.1.1 hb.1.2 ?_
    rw [← s1, hp, torn, List.take_append_of_le_length (by simp [lb]; omega), List.take_take, show min 8 k = 8 from by omega, b1]
  rcases Nat.lt_or_ge k 8 with h8 | h8
  · left
    have he := hpa (by omega)
    have e1 : put s = put a := by
      rw [← List.take_append_drop 8 (put s), ← List.take_append_drop 8 (put a), s1, a1, he]
      congr 1
      rw [hp, torn, List.drop_append, List.drop_of_length_le (by simp; omega), List.nil_append, List.drop_drop, show k + (8 - (List.take k (put b)).length) = 8 from by simp [lb]; omega]
    rw [← supOf_put s hok, e1, supOf_put a ha]
  · rcases Nat.lt_or_ge 24 k with h24 | h24
    · right
      have he := hpb h8
      have e1 : put s = put b := by
        rw [← List.take_append_drop 24 (put s), ← List.take_append_drop 24 (put b), s5, b5, he]
        congr 1
        rw [hp, torn, List.take_append_of_le_length (by simp [lb]; omega), List.take_take, show min 24 k = 24 from by omega]
      rw [← supOf_put s hok, e1, supOf_put b hb]
    · exact absurd ((hpa h24).symm.trans (hpb h8)) hne
end Go.Proofs.Ytglpckdmiohciaa
