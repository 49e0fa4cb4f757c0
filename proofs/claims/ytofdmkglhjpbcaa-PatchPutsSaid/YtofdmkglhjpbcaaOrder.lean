/- The order of texts, and what the merge of two rising maps comes to; no program, no memory. -/
import Derived.Test.YtofdmkglhjpbcaaPure
namespace Go.Proofs.Ytofdmkglhjpbcaa
open Go.RowKit
set_option linter.unusedVariables false
set_option linter.unusedSimpArgs false

theorem bl_irrefl : ∀ x : List UInt8, Op.bytesLess x x = false
  | [] => rfl
  | a :: x => by
    have : ¬ a < a := fun h => by have := UInt8.lt_iff_toNat_lt.1 h; omega
    simp [Op.bytesLess, bl_irrefl x, this]
theorem bl_trans : ∀ x y z : List UInt8, Op.bytesLess x y = true → Op.bytesLess y z = true → Op.bytesLess x z = true
  | _, [], _, h, _ => by cases ‹List UInt8› <;> simp [Op.bytesLess] at h
  | _, b :: y, [], _, h => by simp [Op.bytesLess] at h
  | [], b :: y, c :: z, _, _ => rfl
  | a :: x, b :: y, c :: z, h1, h2 => by
    simp only [Op.bytesLess, Bool.or_eq_true, Bool.and_eq_true, decide_eq_true_eq, beq_iff_eq] at h1 h2 ⊢
    rcases h1 with h1 | ⟨rfl, h1⟩
    · rcases h2 with h2 | ⟨rfl, h2⟩
      · left
        have h1' := UInt8.lt_iff_toNat_lt.1 h1
        have h2' := UInt8.lt_iff_toNat_lt.1 h2
        exact UInt8.lt_iff_toNat_lt.2 (by omega)
      · exact .inl h1
    · rcases h2 with h2 | ⟨rfl, h2⟩
      · exact .inl h2
      · exact .inr ⟨rfl, bl_trans x y z h1 h2⟩
theorem bl_total : ∀ x y : List UInt8, Op.bytesLess x y = true ∨ x = y ∨ Op.bytesLess y x = true
  | [], [] => .inr (.inl rfl)
  | [], b :: y => .inl rfl
  | a :: x, [] => .inr (.inr rfl)
  | a :: x, b :: y => by
    simp only [Op.bytesLess, Bool.or_eq_true, Bool.and_eq_true, decide_eq_true_eq, beq_iff_eq]
    rcases Nat.lt_trichotomy a.toNat b.toNat with h | h | h
    · exact .inl (.inl (UInt8.lt_iff_toNat_lt.2 h))
    · have hab : a = b := UInt8.toNat_inj.1 h
      subst hab
      rcases bl_total x y with h1 | h1 | h1
      · exact .inl (.inr ⟨rfl, h1⟩)
      · exact .inr (.inl (by rw [h1]))
      · exact .inr (.inr (.inr ⟨rfl, h1⟩))
    · exact .inr (.inr (.inl (UInt8.lt_iff_toNat_lt.2 h)))

theorem slt_irrefl (a : Str) : slt a a = false := bl_irrefl _
theorem slt_trans {a b c : Str} (h : slt a b = true) (k : slt b c = true) : slt a c = true := bl_trans _ _ _ h k
theorem slt_total (a b : Str) : slt a b = true ∨ a = b ∨ slt b a = true := by
  rcases bl_total a.toList b.toList with h | h | h
  · exact .inl h
  · exact .inr (.inl (toList_inj h))
  · exact .inr (.inr h)
theorem slt_ne {a b : Str} (h : slt a b = true) : ¬ a = b := fun e => by subst e; rw [slt_irrefl] at h; cases h
theorem slt_asymm {a b : Str} (h : slt a b = true) : slt b a = false := by
  cases k : slt b a with
  | false => rfl
  | true => exact absurd (slt_trans h k) (by rw [slt_irrefl]; simp)

/-- Each less than all behind it. -/
def Srt (l : List Str) : Prop := l.Pairwise (fun a b => slt a b = true)
theorem srt_cons {a : Str} {l : List Str} : Srt (a :: l) ↔ (∀ b ∈ l, slt a b = true) ∧ Srt l := List.pairwise_cons
/-- Two that are sorted and have the same members are the same. -/
theorem srt_ext : ∀ {l m : List Str}, Srt l → Srt m → (∀ a, a ∈ l ↔ a ∈ m) → l = m
  | [], [], _, _, _ => rfl
  | [], b :: m, _, _, h => by have := (h b).2 (by simp); simp at this
  | a :: l, [], _, _, h => by have := (h a).1 (by simp); simp at this
  | a :: l, b :: m, hl, hm, h => by
    obtain ⟨hl1, hl2⟩ := srt_cons.1 hl
    obtain ⟨hm1, hm2⟩ := srt_cons.1 hm
    have hab : a = b := by
      rcases List.mem_cons.1 ((h a).1 (by simp)) with e | e
      · exact e
      · rcases List.mem_cons.1 ((h b).2 (by simp)) with e' | e'
        · exact e'.symm
        · have := slt_trans (hm1 a e) (hl1 b e')
          rw [slt_irrefl] at this
          cases this
    subst hab
    rw [srt_ext hl2 hm2 fun c => ?_]
    constructor
    · intro hc
      rcases List.mem_cons.1 ((h c).1 (by simp [hc])) with e | e
      · subst e; have := hl1 c hc; rw [slt_irrefl] at this; cases this
      · exact e
    · intro hc
      rcases List.mem_cons.1 ((h c).2 (by simp [hc])) with e | e
      · subst e; have := hm1 c hc; rw [slt_irrefl] at this; cases this
      · exact e

theorem mem_insKey : ∀ (l : List Str) (k a : Str), a ∈ insKey l k ↔ a = k ∨ a ∈ l
  | [], k, a => by simp [insKey]
  | y :: l, k, a => by
    unfold insKey
    split
    · simp only [List.mem_cons, mem_insKey l k a]
      constructor <;> rintro (h | h | h) <;> simp [h]
    · split
      · rename_i h; subst h; simp
      · simp
theorem srt_insKey : ∀ (l : List Str) (k : Str), Srt l → Srt (insKey l k)
  | [], k, _ => by simp [insKey, Srt]
  | y :: l, k, h => by
    obtain ⟨h1, h2⟩ := srt_cons.1 h
    unfold insKey
    split
    · rename_i hy
      refine srt_cons.2 ⟨fun b hb => ?_, srt_insKey l k h2⟩
      rcases (mem_insKey l k b).1 hb with e | e
      · subst e; exact hy
      · exact h1 b e
    · rename_i hy
      split
      · exact h
      · rename_i hne
        have hky : slt k y = true := by
          rcases slt_total y k with e | e | e
          · exact absurd e hy
          · exact absurd e hne
          · exact e
        refine srt_cons.2 ⟨fun b hb => ?_, h⟩
        rcases List.mem_cons.1 hb with e | e
        · subst e; exact hky
        · exact slt_trans hky (h1 b e)

def keyList (l : List Entry) : List Str := l.map (·.key)
theorem mem_keysIn : ∀ (l : List Entry) (acc : List Str) (a : Str), a ∈ keysIn acc l ↔ a ∈ acc ∨ a ∈ keyList l
  | [], acc, a => by simp [keysIn, keyList]
  | x :: l, acc, a => by
    have e : keysIn acc (x :: l) = keysIn (insKey acc x.key) l := rfl
    rw [e, mem_keysIn l, mem_insKey]
    simp only [keyList, List.map_cons, List.mem_cons]
    constructor
    · rintro ((h | h) | h) <;> simp [h]
    · rintro (h | h | h) <;> simp [h]
theorem srt_keysIn : ∀ (l : List Entry) (acc : List Str), Srt acc → Srt (keysIn acc l)
  | [], acc, h => h
  | x :: l, acc, h => srt_keysIn l (insKey acc x.key) (srt_insKey acc x.key h)
theorem mem_keysOf_go : ∀ (ls : List (List Entry)) (acc : List Str) (a : Str), a ∈ ls.foldl keysIn acc ↔ a ∈ acc ∨ ∃ l ∈ ls, a ∈ keyList l
  | [], acc, a => by simp
  | l :: ls, acc, a => by
    rw [List.foldl_cons, mem_keysOf_go ls, mem_keysIn]
    simp only [List.mem_cons, exists_eq_or_imp, or_assoc]
theorem mem_keysOf (ls : List (List Entry)) (a : Str) : a ∈ keysOf ls ↔ ∃ l ∈ ls, a ∈ keyList l := by
  have := mem_keysOf_go ls [] a
  simpa [keysOf] using this
theorem srt_keysOf_go : ∀ (ls : List (List Entry)) (acc : List Str), Srt acc → Srt (ls.foldl keysIn acc)
  | [], acc, h => h
  | l :: ls, acc, h => srt_keysOf_go ls (keysIn acc l) (srt_keysIn l acc h)
theorem srt_keysOf (ls : List (List Entry)) : Srt (keysOf ls) := srt_keysOf_go ls [] (by simp [Srt])

/-- Rising entries: their keys are sorted. -/
theorem rises_srt : ∀ {l : List Entry}, rises l = true → Srt (keyList l)
  | [], _ => by simp [keyList, Srt]
  | [x], _ => by simp [keyList, Srt]
  | x :: y :: l, h => by
    unfold rises at h
    simp only [Bool.and_eq_true] at h
    have ih := rises_srt h.2
    refine srt_cons.2 ⟨fun b hb => ?_, ih⟩
    have hy := (srt_cons.1 ih).1
    rcases List.mem_cons.1 hb with e | e
    · subst e; exact h.1
    · exact slt_trans h.1 (hy b e)
theorem srt_rises : ∀ {l : List Entry}, Srt (keyList l) → rises l = true
  | [], _ => rfl
  | [x], _ => rfl
  | x :: y :: l, h => by
    obtain ⟨h1, h2⟩ := srt_cons.1 h
    unfold rises
    simp only [Bool.and_eq_true]
    exact ⟨h1 _ (by simp), srt_rises h2⟩
theorem isMap_rises {l : List Entry} (h : isMap l = true) : rises l = true := by
  simp only [isMap, Bool.and_eq_true, decide_eq_true_eq] at h
  have := h.2
  unfold right at this
  split at this
  · omega
  · split at this
    · assumption
    · omega

theorem get_none : ∀ {l : List Entry} {k : Str}, ¬ k ∈ keyList l → get l k = ⟨false, ⟨#[]⟩⟩
  | [], k, _ => rfl
  | x :: l, k, h => by
    simp only [keyList, List.map_cons, List.mem_cons, not_or] at h
    unfold get
    rw [if_neg (fun e => h.1 e.symm)]
    exact get_none h.2
end Go.Proofs.Ytofdmkglhjpbcaa
