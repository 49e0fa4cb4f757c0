/- What is read of bytes that were written: plain, no program. -/
import Derived.Test.YtikgplhcadomcaaGreatKO
import Derived.Test.YtikgplhcadomcaaGreatQNode7
namespace Go.Proofs.YtikgplhcadomcaaGreat
open Go.RowKit
set_option linter.unusedVariables false
set_option linter.unusedSimpArgs false
theorem strBs_back (s : Str) : strOfNums (strBs s) = s := by
  obtain ⟨⟨l⟩⟩ := s
  unfold strOfNums strBs
  simp only [List.map_map]
  rw [show ((fun n : Int => UInt8.ofNat n.toNat) ∘ fun b : UInt8 => (b.toNat : Int)) = id from funext fun b => by simp]
  simp
theorem lebGo_back (m : Nat) : ∀ (i acc : Nat) (rest : List Int), (0 < m ∨ i = 0) → m * 128 ^ i < 18446744073709551616 → lebGo i acc (lebI m ++ rest) = some (acc + m * 128 ^ i, i + (lebI m).length) := by
  induction m using Nat.strongRecOn with
  | _ m ih =>
    intro i acc rest h0 h1
    have hi : i ≤ 9 := by
      rcases h0 with h0 | h0
      · rcases Nat.lt_or_ge 9 i with h | h
        · have h2 : 128 ^ 10 ≤ 128 ^ i := Nat.pow_le_pow_right (by omega) h
          have h3 : 1 * 128 ^ i ≤ m * 128 ^ i := Nat.mul_le_mul_right _ h0
          omega
        · omega
      · omega
    by_cases hm : m < 128
    · rw [lebI_lt hm]
      have hx : ((m : Int) % 128).toNat = m := by omega
      have hbad : ¬ (10 ≤ i ∨ (i = 9 ∧ (1 : Int) < (m : Int))) := by
        rintro (q | ⟨q, r⟩)
        · omega
        · subst q
          have : 2 * 128 ^ 9 ≤ m * 128 ^ 9 := Nat.mul_le_mul_right _ (by omega)
          omega
      simp only [List.cons_append, List.nil_append]
      rw [lebGo_end hbad (by omega) (by omega), hx]
      rfl
    · have h9 : i ≤ 8 := by
        rcases Nat.lt_or_ge 8 i with h | h
        · have : i = 9 := by omega
          subst this
          have : 128 * 128 ^ 9 ≤ m * 128 ^ 9 := Nat.mul_le_mul_right _ (by omega)
          omega
        · omega
      rw [lebI_ge hm, List.cons_append]
      have hx : ((((m % 128 + 128 : Nat) : Int)) % 128).toNat = m % 128 := by omega
      rw [lebGo_on (by omega) (by omega), hx]
      have hd := Nat.div_add_mod m 128
      have hmul : m / 128 * 128 ^ (i + 1) + m % 128 * 128 ^ i = m * 128 ^ i := by
        rw [Nat.pow_succ, show m / 128 * (128 ^ i * 128) = (128 * (m / 128)) * 128 ^ i by rw [Nat.mul_comm (128 ^ i) 128, ← Nat.mul_assoc, Nat.mul_comm (m / 128) 128], ← Nat.add_mul, hd]
      rw [ih (m / 128) (Nat.div_lt_self (by omega) (by omega)) (i + 1) _ rest (.inl (by omega)) (by omega)]
      simp only [List.length_cons, Option.some.injEq, Prod.mk.injEq]
      omega
theorem lebP_back (n : Nat) (rest : List Int) (h : n < 18446744073709551616) : lebP (lebI n ++ rest) = some (n, (lebI n).length) := by
  have := lebGo_back n 0 0 rest (.inr rfl) (by simpa using h)
  simpa [lebP] using this
theorem rdNum_back {lim n : Nat} (rest : List Int) (h : n ≤ lim) (h2 : n < 18446744073709551616) : rdNum lim (lebI n ++ rest) false = (n, rest, false) := by
  rw [rdNum_some (lebP_back n rest h2) h, List.drop_left]
theorem rdText_back {lim : Nat} {s : Str} (rest : List Int) (h : s.size ≤ lim) (h2 : s.size < 18446744073709551616) : rdText lim (textI s ++ rest) false = (s, rest, false) := by
  have e : rdNum lim (textI s ++ rest) false = (s.size, strBs s ++ rest, false) := by
    unfold textI
    rw [List.append_assoc]
    exact rdNum_back _ h h2
  rw [rdText_ok e (by rw [List.length_append, strBs_len]; omega) rfl]
  rw [← strBs_len s, List.take_left, List.drop_left, strBs_back]
theorem lebI_pos (n : Nat) : 1 ≤ (lebI n).length := by
  by_cases h : n < 128
  · rw [lebI_lt h]; simp
  · rw [lebI_ge h]; simp
theorem textI_bytes (s : Str) : bytesL (textI s) := by
  unfold textI
  intro x hx
  rcases List.mem_append.1 hx with h | h
  · exact lebI_bytes _ x h
  · exact strBs_bytes _ x h
theorem bytesL_app {a b : List Int} (h : bytesL a) (k : bytesL b) : bytesL (a ++ b) := fun x hx => (List.mem_append.1 hx).elim (h x) (k x)
theorem bytesL_flat {α : Type} {f : α → List Int} {l : List α} (h : ∀ x, bytesL (f x)) : bytesL (l.flatMap f) := fun y hy => by
  obtain ⟨x, _, hx⟩ := List.mem_flatMap.1 hy
  exact h x y hx
theorem nodeI_bytes (lv : Int) (E : List Entry) (K : List Kid) : bytesL (nodeI lv E K) :=
  bytesL_app (bytesL_app (bytesL_app (lebI_bytes _) (lebI_bytes _)) (bytesL_flat fun x => bytesL_app (textI_bytes _) (textI_bytes _))) (bytesL_flat fun x => bytesL_app (textI_bytes _) (lebI_bytes _))
theorem textI_pos (s : Str) : 1 ≤ (textI s).length := by unfold textI; have := lebI_pos s.size; simp; omega
theorem flat_len1 {α : Type} {f : α → List Int} (h : ∀ x, 1 ≤ (f x).length) : ∀ l : List α, l.length ≤ (l.flatMap f).length
  | [] => by simp
  | x :: l => by have := flat_len1 h l; have := h x; rw [List.flatMap_cons, List.length_append, List.length_cons]; omega
theorem nodeI_len (lv : Int) (E : List Entry) (K : List Kid) : E.length + K.length ≤ (nodeI lv E K).length := by
  have h1 := flat_len1 (f := entI) (fun x => by unfold entI; have := textI_pos x.key; simp; omega) E
  have h2 := flat_len1 (f := kidI) (fun x => by unfold kidI; have := textI_pos x.last; simp; omega) K
  unfold nodeI
  simp only [List.length_append]
  omega
end Go.Proofs.YtikgplhcadomcaaGreat
