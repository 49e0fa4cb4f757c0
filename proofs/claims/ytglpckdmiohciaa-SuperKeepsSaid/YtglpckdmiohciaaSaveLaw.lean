/- What a save, whatever crash strikes within it, leaves: plain laws, no program. -/
import Derived.Test.YtglpckdmiohciaaLoad
import Derived.Test.YtglpckdmiohciaaKeepsPure
namespace Go.Proofs.Ytglpckdmiohciaa
open Go.RowKit
set_option linter.unusedVariables false
set_option linter.unusedSimpArgs false

/-- A super's sector. -/
def supSec (s : Sup) : Sec := ⟨put s, put_len s, put_byte s⟩
def step (out : Sup) (b : List Int) : Sup := if isSup b ∧ out.epoch < (ofB b).epoch then ofB b else out
def ld (c0 c1 : List Int) : Sup := step (step zeroSup c0) c1
theorem not_sup {b : List Int} (h : ¬ isSup b) (out : Sup) : step out b = out := by
  unfold step
  rw [if_neg (fun q => h q.1)]
theorem ld_win0 {c0 c1 : List Int} {x : Sup} (h : isSup c0) (hx : ofB c0 = x) (h0 : 0 < x.epoch) (h1 : isSup c1 → (ofB c1).epoch < x.epoch) : ld c0 c1 = x := by
  unfold ld
  have e : step zeroSup c0 = x := by
    unfold step
    rw [if_pos ⟨h, by rw [hx]; exact h0⟩, hx]
  rw [e]
  unfold step
  rw [if_neg (fun q => by have := h1 q.1; omega)]
theorem ld_win1 {c0 c1 : List Int} {x : Sup} (h : isSup c1) (hx : ofB c1 = x) (h0 : 0 < x.epoch) (h1 : isSup c0 → (ofB c0).epoch < x.epoch) : ld c0 c1 = x := by
  unfold ld
  have e : (step zeroSup c0).epoch < x.epoch := by
    unfold step
    split
    · rename_i q
      exact h1 q.1
    · exact h0
  rw [step, if_pos ⟨h, by rw [hx]; exact e⟩, hx]
theorem ld_none {c0 c1 : List Int} (h0 : ¬ isSup c0) (h1 : ¬ isSup c1) : ld c0 c1 = zeroSup := by
  unfold ld
  rw [not_sup h0, not_sup h1]
/-- Of a sector x that is a super, and another one, at either side. -/
theorem ld_win {a : Int} (ha : a = 0 ∨ a = 1) {c : Int → List Int} {x : Sup} (h : isSup (c a)) (hx : ofB (c a) = x) (h0 : 0 < x.epoch) (h1 : isSup (c (1 - a)) → (ofB (c (1 - a))).epoch < x.epoch) : ld (c 0) (c 1) = x := by
  rcases ha with rfl | rfl
  · exact ld_win0 h hx h0 h1
  · exact ld_win1 h hx h0 h1
theorem zero_not : ¬ isSup sec0.1 := by
  intro h
  exact h.2.1 (by decide)
theorem torn_zero {b : Sup} (hb : b.ok) (he : 1 ≤ b.epoch) (he2 : b.epoch < 256) (k : Nat) (hk : k ≤ 32) (h : isSup ((put b).take k ++ sec0.1.drop k)) : ofB ((put b).take k ++ sec0.1.drop k) = b := by
  by_cases h32 : k = 32
  · subst h32
    rw [List.take_of_length_le (by rw [put_len]; omega), show sec0.1.drop 32 = [] from rfl, List.append_nil]
    exact ofB_put b hb (by omega)
  · exfalso
    obtain ⟨hl, hne, hp⟩ := h
    obtain ⟨p1, _, _, _, p5⟩ := put_cut (supOf ((put b).take k ++ sec0.1.drop k))
    rw [hp] at p1 p5
    generalize hE : (supOf ((put b).take k ++ sec0.1.drop k)).epoch = E at *
    have hlen : ((put b).take k).length = k := by rw [List.length_take, put_len]; omega
    have z : ∀ j, j < 32 → sec0.1[j]? = some 0 := fun j hj => by
      show (List.replicate 32 (0 : Int))[j]? = _
      rw [List.getElem?_replicate]
      simp [hj]
    -- the last byte is 0
    have hlast : ((put b).take k ++ sec0.1.drop k)[31]? = some 0 := by
      rw [List.getElem?_append_right (by omega), hlen, List.getElem?_drop]
      rw [show k + (31 - k) = 31 from by omega]
      exact z 31 (by omega)
    have h7 : (be E 8)[7]? = some 0 := by
      rw [← p5, List.getElem?_drop]
      exact hlast
    have hE0 : E % 256 = 0 := by
      have := be_get E 8 7 (by omega)
      rw [h7] at this
      simpa using this.symm
    by_cases h8 : 8 ≤ k
    · have hf : ((put b).take k ++ sec0.1.drop k).take 8 = be b.epoch 8 := by
        rw [List.take_append_of_le_length (by omega), List.take_take, Nat.min_eq_left h8]
        exact (put_cut b).1
      rw [hf] at p1
      have : E = b.epoch := by
        have q := congrArg num p1
        rw [be8 b.epoch hb.1.1 hb.1.2] at q
        have hEr : 0 ≤ E ∧ E < 18446744073709551616 := by
          rw [← hE]
          have hbl : byteL ((put b).take k ++ sec0.1.drop k) := fun x hx => by
            rcases List.mem_append.1 hx with hx | hx
            · exact put_byte b x (List.mem_of_mem_take hx)
            · exact sec0.2.2 x (List.mem_of_mem_drop hx)
          exact (supOf_ok hbl hl).1
        rw [be8 E hEr.1 hEr.2] at q
        omega
      omega
    · -- the first eight bytes are 0
      have hf : ((put b).take k ++ sec0.1.drop k).take 8 = List.replicate 8 0 := by
        apply List.ext_getElem?
        intro j
        by_cases hj : j < 8
        · rw [List.getElem?_take_of_lt hj, List.getElem?_replicate]
          simp only [hj, if_true]
          by_cases hjk : j < k
          · rw [List.getElem?_append_left (by omega), List.getElem?_take_of_lt hjk]
            have q : (put b)[j]? = (be b.epoch 8)[j]? := by
              rw [← (put_cut b).1, List.getElem?_take_of_lt hj]
            rw [q, be_get _ 8 j hj]
            have : b.epoch / 2 ^ (8 * (8 - (j + 1))) = 0 := by
              refine Int.ediv_eq_zero_of_lt (by omega) (Int.lt_of_lt_of_le he2 ?_)
              have : (256 : Int) = 2 ^ 8 := by decide
              rw [this]
              exact_mod_cast Nat.pow_le_pow_right (by omega) (by omega : 8 ≤ 8 * (8 - (j + 1)))
            rw [this]
            rfl
          · rw [List.getElem?_append_right (by omega), hlen, List.getElem?_drop, show k + (j - k) = j from by omega]
            exact z j (by omega)
        · rw [List.getElem?_eq_none (by simp; omega), List.getElem?_eq_none (by simp; omega)]
      rw [hf] at p1
      apply hne
      rw [← hE]
      show num (((put b).take k ++ sec0.1.drop k).take 8) = 0
      rw [hf]
      rfl
end Go.Proofs.Ytglpckdmiohciaa
