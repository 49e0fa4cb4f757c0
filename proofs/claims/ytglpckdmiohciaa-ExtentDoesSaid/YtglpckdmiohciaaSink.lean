/- super's sink: put, long, short, text -/
import Derived.Test.YtglpckdmiohciaaProg
import Derived.Test.YtglpckdmiohciaaAppend
import Derived.RegionTactic
import Derived.BigRegion
import Derived.Laws.IdiomCopy
namespace Go.Proofs.Ytglpckdmiohciaa
open Go.RowKit
set_option linter.unusedVariables false
set_option linter.unusedSimpArgs false

/-- Bytes as numbers, one cell each. -/
def by1 (n : Int) : List Value := [.int .u8 n]
theorem by1ok : Enc by1 1 := ⟨fun _ => rfl, fun x u hu => by simp [by1] at hu; subst hu; rfl, by omega⟩

/-- A sink at block g: 32 bytes, of which 'at_' are written. -/
def Snk (w : World) (g : Nat) (bs : List Int) (at_ : Nat) : Prop :=
  bs.length = 32 ∧ ∃ cs, w.heap[g]? = some (.cells cs 127 (0, 0)) ∧ cs.toList = bs.map (Value.int .u8) ++ [.int .i64 at_]

/-- A number in so many bytes, the highest first. -/
def be (n : Int) : Nat → List Int
  | 0 => []
  | k + 1 => (n / 2 ^ (8 * k) % 256) :: be n k
theorem be_len (n : Int) : ∀ k, (be n k).length = k
  | 0 => rfl
  | k + 1 => by simp [be, be_len n k]
theorem be_get (n : Int) : ∀ (k t : Nat), t < k → (be n k)[t]? = some (n / 2 ^ (8 * (k - (t + 1))) % 256)
  | 0, t, h => by omega
  | k + 1, 0, h => by simp [be]
  | k + 1, t + 1, h => by
    simp only [be, List.getElem?_cons_succ]
    rw [be_get n k t (by omega)]
    congr 4
    omega
theorem be_rng (n : Int) : ∀ (k : Nat), ∀ x ∈ be n k, 0 ≤ x ∧ x ≤ 255
  | 0, x, h => by simp [be] at h
  | k + 1, x, h => by
    simp only [be, List.mem_cons] at h
    rcases h with h | h
    · subst h; generalize n / 2 ^ (8 * k) = y; omega
    · exact be_rng n k x h
/-- bs, from 'at_' on written over. -/
def over (bs : List Int) (at_ : Nat) (l : List Int) : List Int := bs.take at_ ++ l ++ bs.drop (at_ + l.length)
theorem over_nil (bs : List Int) (a : Nat) : over bs a [] = bs := by simp [over]
theorem over_len (bs : List Int) (a : Nat) (l : List Int) (h : a + l.length ≤ bs.length) : (over bs a l).length = bs.length := by simp [over]; omega
theorem over_get (bs l : List Int) (a i : Nat) (h : a ≤ bs.length) : (over bs a l)[i]? = if i < a then bs[i]? else if i - a < l.length then l[i - a]? else bs[i]? := by
  have l3 : (bs.take a).length = a := by simp; omega
  unfold over
  by_cases h1 : i < a
  · rw [if_pos h1, List.append_assoc, List.getElem?_append_left (by omega), List.getElem?_take_of_lt h1]
  · rw [if_neg h1, List.append_assoc, List.getElem?_append_right (by omega), l3]
    by_cases h2 : i - a < l.length
    · rw [if_pos h2, List.getElem?_append_left h2]
    · rw [if_neg h2, List.getElem?_append_right (by omega), List.getElem?_drop]
      congr 1
      omega
theorem over_step (bs l : List Int) (a t : Nat) (x : Int) (hx : l[t]? = some x) (h : a + l.length ≤ bs.length) : (over bs a (l.take t)).set (a + t) x = over bs a (l.take (t + 1)) := by
  have ht : t < l.length := (List.getElem?_eq_some_iff.1 hx).1
  have l1 : (l.take t).length = t := by simp; omega
  have l2 : (l.take (t + 1)).length = t + 1 := by simp; omega
  apply List.ext_getElem?
  intro i
  by_cases hi : i = a + t
  · subst hi
    rw [List.getElem?_set_self (by rw [over_len _ _ _ (by rw [l1]; omega)]; omega), over_get _ _ _ _ (by omega), if_neg (by omega), if_pos (by rw [l2]; omega), List.getElem?_take_of_lt (by omega), show a + t - a = t from by omega, hx]
  · rw [List.getElem?_set_ne (fun e => hi e.symm), over_get _ _ _ _ (by omega), over_get _ _ _ _ (by omega), l1, l2]
    by_cases h1 : i < a
    · rw [if_pos h1, if_pos h1]
    · rw [if_neg h1, if_neg h1]
      by_cases h2 : i - a < t
      · rw [if_pos h2, if_pos (by omega), List.getElem?_take_of_lt h2, List.getElem?_take_of_lt (by omega)]
      · rw [if_neg h2, if_neg (by omega)]

theorem snk_cells {w : World} {g : Nat} {bs : List Int} {p : Nat} (h : Snk w g bs p) : w.cell? ⟨g, 32, none⟩ = some (.int .i64 p) ∧ (p < 32 → w.cell? ⟨g, p, none⟩ = some (.int .u8 (bs.getD p 0))) ∧ (∀ i, w.frozen? ⟨g, i, none⟩ = false) ∧ g < w.heap.size := by
  obtain ⟨hl, cs, hb, hcs⟩ := h
  have e : ∀ i, cs[i]? = (bs.map (Value.int .u8) ++ [.int .i64 p])[i]? := fun i => by rw [← hcs, Array.getElem?_toList]
  refine ⟨?_, fun hp => ?_, fun i => blk_free hb i, blk_lt hb⟩
  · rw [blk_cell hb, e, List.getElem?_append_right (by simp [hl])]; simp [hl]
  · rw [blk_cell hb, e, List.getElem?_append_left (by simp [hl]; exact hp), List.getElem?_map, List.getElem?_eq_getElem (by omega)]
    simp [List.getElem?_eq_getElem (show p < bs.length from by omega)]
theorem snk_step {w : World} {g : Nat} {bs : List Int} {p : Nat} (h : Snk w g bs p) (hp : p < 32) (x : Int) (n : Nat) : Snk ((w.setCell ⟨g, p, none⟩ (.int .u8 x)).setCell ⟨g, 32, none⟩ (.int .i64 n)) g (bs.set p x) n := by
  obtain ⟨hl, cs, hb, hcs⟩ := h
  refine ⟨by simp [hl], _, blk_set (blk_set hb p _) 32 _, ?_⟩
  simp only [Array.toList_setIfInBounds, hcs]
  rw [List.set_append_left _ _ (by simp [hl]; exact hp), List.set_append_right _ _ (by simp [hl])]
  simp [hl, List.map_set]

theorem grown_drew {w w' : World} {row : Option Nat} (h : w.grownBy w' row) : w.grownBy w'.drew row := ⟨h.os, h.tape, h.output, h.size, h.block⟩
theorem snk_drew {w : World} {g : Nat} {bs : List Int} {p : Nat} (h : Snk w g bs p) : Snk w.drew g bs p := h

set_option maxRecDepth 100000 in
theorem sinkPut_calls (w : World) (g : Nat) (bs : List Int) (at_ : Nat) (n : Int) (size : Nat) (hn0 : 0 ≤ n) (hn1 : n < 18446744073709551616) (hs : size ≤ 8) (ha : at_ + size ≤ 32) (h : Snk w g bs at_) :
    Calls Try.prog 112 #[.pointer (some ⟨g, 0, none⟩), .int .u64 n, .int .i64 size] w fun e w' => e = .returned (.tuple #[]) ∧ Snk w' g (over bs at_ (be n size)) (at_ + size) ∧ w.grownBy w' (some g) := by
  have hbl := h.1
  have H0 := Lib.hid h
  clear h
  go_enter Try.func112, Try.ntmps112
  go_wp2
  go_loopg [6] size (fun k i wr => ∃ j : Nat, i = .int .i64 ((j : Int) - 1) ∧ j = k ∧ j ≤ size ∧ Hid (Snk wr g (over bs at_ ((be n size).take (size - j))) (at_ + (size - j))) ∧ Hid (w.grownBy wr (some g)))
  case atStart => exact ⟨size, rfl, rfl, Nat.le_refl _, by show Snk _ _ _ _; simpa [over_nil] using H0.out, grown_refl _ _⟩
  case round =>
    obtain ⟨j, rfl, rfl, hj, hsn, hg⟩ := hrel
    cases j with
    | zero =>
      have hfin : Hid (Snk wr g (over bs at_ (be n size)) (at_ + size)) := by
        show Snk _ _ _ _
        have := hsn.out
        rw [List.take_of_length_le (by rw [be_len]; omega)] at this
        simpa using this
      go_wp2
      go_end0
      exact ⟨rfl, hfin.out, hg.out⟩
    | succ j =>
      obtain ⟨c32, cat, hfr, hlt⟩ := snk_cells hsn.out
      have hnext : Hid (Snk ((wr.setCell ⟨g, at_ + (size - (j + 1)), none⟩ (.int .u8 (n / 2 ^ (8 * j) % 256))).setCell ⟨g, 32, none⟩ (.int .i64 ((at_ + (size - (j + 1)) + 1 : Nat) : Int))) g (over bs at_ ((be n size).take (size - j))) (at_ + (size - j))) := by
        show Snk _ _ _ _
        have := snk_step hsn.out (by omega) (n / 2 ^ (8 * j) % 256) (at_ + (size - (j + 1)) + 1)
        rw [over_step bs (be n size) at_ (size - (j + 1)) _ (by rw [be_get n size _ (by omega), show size - (size - (j + 1) + 1) = j from by omega]) (by rw [be_len]; omega)] at this
        rw [show at_ + (size - (j + 1)) + 1 = at_ + (size - j) from by omega, show size - (j + 1) + 1 = size - j from by omega] at this
        rw [show at_ + (size - (j + 1)) + 1 = at_ + (size - j) from by omega]
        exact this
      have cat' := cat (by omega)
      have fat := hfr (at_ + (size - (j + 1)))
      have f32 := hfr 32
      generalize hp : at_ + (size - (j + 1)) = p at *
      have hp32 : (p : Int) < 32 := by omega
      have hpn : ¬ p = 32 := by omega
      generalize (over bs at_ ((be n size).take (size - (j + 1)))).getD p 0 = old at *
      clear hp hsn hfr cat
      go_wp2
      go_region
      go_wp2
      go_roundg j
      case measure => omega
      case rel =>
        refine ⟨j, by go_num, rfl, by omega, ?_, ?_⟩
        · exact snk_drew (by have := hnext.out; rwa [Int.natCast_add] at this)
        · exact grown_drew (grown_trans hg.out (grown_trans (grown_set _ _ _ _) (grown_set _ _ _ _)))

theorem sinkLong_calls (w : World) (g : Nat) (bs : List Int) (at_ : Nat) (n : Int) (hn0 : 0 ≤ n) (hn1 : n < 18446744073709551616) (ha : at_ + 8 ≤ 32) (h : Snk w g bs at_) :
    Calls Try.prog 81 #[.pointer (some ⟨g, 0, none⟩), .int .u64 n] w fun e w' => e = .returned (.tuple #[]) ∧ Snk w' g (over bs at_ (be n 8)) (at_ + 8) ∧ w.grownBy w' (some g) := by
  have H0 := Lib.hid h
  clear h
  go_enter Try.func81, Try.ntmps81
  go_wp2_with fail
  refine (sinkPut_calls _ g bs at_ n 8 hn0 hn1 (by omega) ha H0.out).mono ?_
  rintro e w1 ⟨rfl, hs, hg⟩
  go_wp2_with fail
  go_end0
  exact ⟨rfl, hs, hg⟩
theorem sinkShort_calls (w : World) (g : Nat) (bs : List Int) (at_ : Nat) (n : Int) (hn0 : 0 ≤ n) (hn1 : n < 18446744073709551616) (ha : at_ + 4 ≤ 32) (h : Snk w g bs at_) :
    Calls Try.prog 82 #[.pointer (some ⟨g, 0, none⟩), .int .u64 n] w fun e w' => e = .returned (.tuple #[]) ∧ Snk w' g (over bs at_ (be n 4)) (at_ + 4) ∧ w.grownBy w' (some g) := by
  have H0 := Lib.hid h
  clear h
  go_enter Try.func82, Try.ntmps82
  go_wp2_with fail
  refine (sinkPut_calls _ g bs at_ n 4 hn0 hn1 (by omega) ha H0.out).mono ?_
  rintro e w1 ⟨rfl, hs, hg⟩
  go_wp2_with fail
  go_end0
  exact ⟨rfl, hs, hg⟩
def magic : List Int := [97, 112, 111, 103]
theorem over_magic (bs : List Int) (h : bs.length = 32) : (((bs.set 20 97).set 21 112).set 22 111).set 23 103 = over bs 20 magic := by
  have h0 := over_nil bs 20
  have h1 := over_step bs magic 20 0 97 rfl (by simp [magic, h])
  have h2 := over_step bs magic 20 1 112 rfl (by simp [magic, h])
  have h3 := over_step bs magic 20 2 111 rfl (by simp [magic, h])
  have h4 := over_step bs magic 20 3 103 rfl (by simp [magic, h])
  simp only [List.take_zero, Nat.add_zero, Nat.zero_add, Nat.reduceAdd] at h1 h2 h3 h4
  rw [h0] at h1
  rw [h1, h2, h3, h4]
  rfl
theorem snk_magic {w : World} {g : Nat} {bs : List Int} {p : Nat} (h : Snk w g bs p) :
    Snk (((((w.setCell ⟨g, 20, none⟩ (.int .u8 97)).setCell ⟨g, 21, none⟩ (.int .u8 112)).setCell ⟨g, 22, none⟩ (.int .u8 111)).setCell ⟨g, 23, none⟩ (.int .u8 103)).setCell ⟨g, 32, none⟩ (.int .i64 24)).drew g (over bs 20 magic) 24 := by
  have l := h.1
  obtain ⟨hl, cs, hb, hcs⟩ := h
  refine snk_drew ⟨by rw [over_len]; exact l; simp [magic, l], _, blk_set (blk_set (blk_set (blk_set (blk_set hb 20 _) 21 _) 22 _) 23 _) 32 _, ?_⟩
  rw [← over_magic bs l]
  simp only [Array.toList_setIfInBounds, hcs]
  simp [List.set_append, hl, List.map_set]
theorem run_copy_magic {P : Program} (w : World) (g : Nat) (dT sT ty e : TypeId) (hu : P.underlying dT = some (.slice e)) (hs : (P.info? e).map (·.size) = some 1)
    (hc : ∀ j, j < 4 → (w.cell? ⟨g, 20 + j, none⟩).isSome = true) (hf : ∀ j, w.frozen? ⟨g, j, none⟩ = false) :
    (Builtin.copy_ #[dT, sT] ty #[.slice (some ⟨g, 20, none⟩) 12 12, .string ⟨#[97, 112, 111, 103]⟩]).run P w = .ok (.int .i64 4)
      ((((w.setCell ⟨g, 20, none⟩ (.int .u8 97)).setCell ⟨g, 21, none⟩ (.int .u8 112)).setCell ⟨g, 22, none⟩ (.int .u8 111)).setCell ⟨g, 23, none⟩ (.int .u8 103)) := by
  have hst := run_storeCells_cells (P := P) g 20 [.int .u8 97, .int .u8 112, .int .u8 111, .int .u8 103] 0 w (fun j hj => hc j hj) (fun j hj => hf _) (by simp [Value.oneCell'])
  cases hq : P.info? e with
  | none => simp [hq] at hs
  | some i =>
    have hi : i.size = 1 := by simpa [hq] using hs
    have hm : Nat.min (ByteArray.mk #[97, 112, 111, 103]).size 12 = 4 := by rfl
    simp only [Builtin.copy_]
    simp [run_underlying hu, Builtin.lenOf, Builtin.firstCells, sizeOf, typeInfo, hq, hi, hm]
    simp [hst, World.setCells, goInt]
set_option maxRecDepth 100000 in
theorem sinkText_calls (w : World) (g : Nat) (bs : List Int) (n : Int) (h : Snk w g bs 20) :
    Calls Try.prog 83 #[.pointer (some ⟨g, 0, none⟩), .int .u64 n] w fun e w' => e = .returned (.tuple #[]) ∧ Snk w' g (over bs 20 magic) 24 ∧ w.grownBy w' (some g) := by
  obtain ⟨c32, cat, hfr, hlt⟩ := snk_cells h
  have H0 := Lib.hid h
  have f32 := hfr 32
  have hcp : ∀ ty, (Builtin.copy_ #[38, 9] ty #[.slice (some ⟨g, 20, none⟩) 12 12, .string ⟨#[97, 112, 111, 103]⟩]).run Try.prog w.drew = .ok (.int .i64 4)
      ((((w.drew.setCell ⟨g, 20, none⟩ (.int .u8 97)).setCell ⟨g, 21, none⟩ (.int .u8 112)).setCell ⟨g, 22, none⟩ (.int .u8 111)).setCell ⟨g, 23, none⟩ (.int .u8 103)) := fun ty =>
    run_copy_magic w.drew g _ _ ty 5 (by rfl) (by rfl) (fun j hj => by
      obtain ⟨hl, cs, hb, hcs⟩ := h
      rw [blk_cell (blk_drew hb), ← Array.getElem?_toList, hcs]
      simp; omega) (fun j => hfr j)
  clear h hfr cat
  go_enter Try.func83, Try.ntmps83
  go_wp2
  go_region
  go_end0
  exact ⟨rfl, snk_magic H0.out, grown_drew (grown_trans (grown_trans (grown_trans (grown_trans (grown_set _ _ _ _) (grown_set _ _ _ _)) (grown_set _ _ _ _)) (grown_set _ _ _ _)) (grown_set _ _ _ _))⟩
end Go.Proofs.Ytglpckdmiohciaa
