/- super.Of -/
import Derived.Test.YtglpckdmiohciaaNumber
import Derived.Deep.RegionWith
import Derived.StillTailTactics
import Derived.Deep.RegionHeld3
import Derived.Laws.BytesArg
import Derived.Deep.DeepCutAuto
import Derived.Laws.ResultCell
import Derived.Laws.Rows
namespace Go.Proofs.Ytglpckdmiohciaa
open Go.RowKit
set_option linter.unusedVariables false
set_option linter.unusedSimpArgs false

def supOf (b : List Int) : Sup := ⟨num (b.take 8), num ((b.drop 8).take 4), num ((b.drop 12).take 4), num ((b.drop 16).take 4)⟩
def zeroSup : Sup := ⟨0, 0, 0, 0⟩
def isSup (b : List Int) : Prop := b.length = 32 ∧ (supOf b).epoch ≠ 0 ∧ put (supOf b) = b
instance (b : List Int) : Decidable (isSup b) := by unfold isSup; infer_instance
def ofB (b : List Int) : Sup := if isSup b then supOf b else zeroSup

theorem number_still (w : World) (A : Option Addr) (c n : Nat) (xs : List Int) (hn : xs.length = n) (hl : xs.length ≤ 8) (hx : byteL xs) (h : Rd by1 1 w A xs) :
    Calls Try.prog 79 #[.slice A n c] w fun e w' => e = .returned (.int .u64 (num xs)) ∧ w' = w := by
  subst hn
  exact (number_calls w A c xs hl hx h).mono fun _ _ ⟨h1, h2⟩ => ⟨h1, h2.symm⟩
theorem byteL.take {xs : List Int} (h : byteL xs) (n : Nat) : byteL (xs.take n) := fun x hx => h x (List.mem_of_mem_take hx)
theorem byteL.drop {xs : List Int} (h : byteL xs) (n : Nat) : byteL (xs.drop n) := fun x hx => h x (List.mem_of_mem_drop hx)
theorem num4 {xs : List Int} (h : byteL xs) (hl : xs.length = 4) : 0 ≤ num xs ∧ num xs < 4294967296 := by
  have := num_rng 4 xs h (by omega)
  rw [List.take_of_length_le (by omega)] at this
  exact ⟨this.1, by simpa using this.2⟩
theorem num8 {xs : List Int} (h : byteL xs) (hl : xs.length = 8) : 0 ≤ num xs ∧ num xs < 18446744073709551616 := by
  have := num_rng 8 xs h (by omega)
  rw [List.take_of_length_le (by omega)] at this
  exact ⟨this.1, by simpa using this.2⟩
theorem supOf_ok {b : List Int} (h : byteL b) (hl : b.length = 32) : (supOf b).ok :=
  ⟨num8 (h.take _) (by simp [hl]), num4 ((h.drop _).take _) (by simp [hl]), num4 ((h.drop _).take _) (by simp [hl]), num4 ((h.drop _).take _) (by simp [hl])⟩

theorem number_at (W : World) (g off c : Nat) (b : List Int) (j n : Nat) (m : Int) (hX : byteL b) (hl : b.length = 32) (hj : j + n ≤ 32) (hn : n ≤ 8) (hm : num ((b.drop j).take n) = m) (h : Hid (Rd by1 1 W (some ⟨g, off, none⟩) b)) :
    Calls Try.prog 79 #[.slice (some ⟨g, off + j, none⟩) n c] W fun e w' => e = .returned (.int .u64 m) ∧ W = w' := by
  subst hm
  have h1 : Rd by1 1 W (some ⟨g, off + j * 1, none⟩) (b.drop j) := Rd.drop j h.out
  rw [Nat.mul_one] at h1
  exact (number_still W _ c n _ (by simp [hl]; omega) (by simp [hl]; omega) ((hX.drop j).take n) (h1.take n)).mono fun _ _ ⟨a, b⟩ => ⟨a, b.symm⟩
theorem number_at0 (W : World) (g off c : Nat) (b : List Int) (n : Nat) (m : Int) (hX : byteL b) (hl : b.length = 32) (hn : n ≤ 8) (hm : num (b.take n) = m) (h : Hid (Rd by1 1 W (some ⟨g, off, none⟩) b)) :
    Calls Try.prog 79 #[.slice (some ⟨g, off, none⟩) n c] W fun e w' => e = .returned (.int .u64 m) ∧ W = w' := number_at W g off c b 0 n m hX hl (by omega) hn hm h
theorem wrap32 (n : Int) (h0 : 0 ≤ n) (h1 : n < 4294967296) : IntKind.u32.wrap n = n := by rw [IntKind.wrap_u32]; omega
/-- A function's end with two results: one in a block, one in a slot. -/
theorem ret_row_tmp {P : Program} {fn : Func} {R : Ending → World → Prop} {a : Act} {w : World} {p u : Tmp} {ty : TypeId} {g : Nat} (cs : Array Value) {d : TypeDesc} (h : fn.results = #[.cell p ty, .tmp u])
    (hp : a.tmps.getD p undef = .pointer (some ⟨g, 0, none⟩)) (hu : P.underlying ty = some d) (hd : (match d with | .struct _ | .array _ _ => true | _ => false) = true) (hdf : a.defers = [])
    (hi : (P.info? ty).map (·.size) = some cs.size) (hg : rowOf w g = some cs) (hR : R (.returned (.tuple #[.agg cs, a.tmps.getD u undef])) w) : bodyPost P fn R .ret a w := by
  unfold rowOf at hg
  split at hg
  · rename_i c t fr hh
    injection hg with hg
    subst hg
    refine bodyPost_ret ?_ hdf hR
    rw [results_cell_tmp h, hp]
    simp [asAddr, run_loadVar_row w g t ty c fr d hh hu hd hi]
  · cases hg
theorem sup_cells {w : World} {g : Nat} {a b c d : Value} {t : TypeId} {fr : Nat × Nat} (h : w.heap[g]? = some (.cells #[a, b, c, d] t fr)) :
    w.cell? ⟨g, 0, none⟩ = some a ∧ w.cell? ⟨g, 1, none⟩ = some b ∧ w.cell? ⟨g, 2, none⟩ = some c ∧ w.cell? ⟨g, 3, none⟩ = some d :=
  ⟨by rw [blk_cell h]; rfl, by rw [blk_cell h]; rfl, by rw [blk_cell h]; rfl, by rw [blk_cell h]; rfl⟩
theorem bl_thenH {w2 W w3 : World} (h : Hid (Below w2.heap.size w2 W)) (k : Below W.heap.size W w3) : Hid (Below w2.heap.size w2 w3) := bl_then h.out h.out.size k
theorem str_inj {xs ys : List Int} (hx : byteL xs) (hy : byteL ys) (h : strOfNums xs = strOfNums ys) : xs = ys := by
  have e : xs.map (fun n => UInt8.ofNat n.toNat) = ys.map (fun n => UInt8.ofNat n.toNat) := by
    have := congrArg (fun s : ByteArray => s.data.toList) h
    simpa [strOfNums] using this
  have hl : xs.length = ys.length := by have := congrArg List.length e; simpa using this
  apply List.ext_getElem hl
  intro i h1 h2
  have e1 : UInt8.ofNat (xs[i]).toNat = UInt8.ofNat (ys[i]).toNat := by
    have := congrArg (fun l => l[i]?) e
    simpa [List.getElem?_map, List.getElem?_eq_getElem h1, List.getElem?_eq_getElem h2] using this
  have e2 := congrArg UInt8.toNat e1
  have a := hx xs[i] (List.getElem_mem _)
  have b := hy ys[i] (List.getElem_mem _)
  simp only [UInt8.toNat_ofNat'] at e2
  omega
theorem string_of_rd {W : World} {g off : Nat} {xs : List Int} {n : Nat} (c : Nat) (hn : xs.length = n) (h : Rd by1 1 W (some ⟨g, off, none⟩) xs) :
    (convert 38 9 (.slice (some ⟨g, off, none⟩) n c)).run Try.prog W = .ok (.string (strOfNums xs)) W := by
  refine run_convert_bytes_arg W 38 5 Try.underlying38 Try.underlying5 g off n c xs hn (fun i hi => ?_) 9 Try.underlying9
  rcases h with h | ⟨b', off', he, hlt, hc⟩
  · subst h; simp at hn; omega
  · cases he
    have := hc i (xs.getD i 0) (by simp [hn, hi]) 0 _ rfl
    simpa using this
theorem put_byte (s : Sup) : byteL (put s) := by
  intro x hx
  simp only [put, List.mem_append] at hx
  rcases hx with ((((hx | hx) | hx) | hx) | hx) | hx
  · exact be_rng _ _ x hx
  · exact be_rng _ _ x hx
  · exact be_rng _ _ x hx
  · exact be_rng _ _ x hx
  · simp [magic] at hx; rcases hx with rfl | rfl | rfl | rfl <;> omega
  · exact be_rng _ _ x hx
theorem sup_same {p b : List Int} (hb : byteL b) (hp : byteL p) : (!((strOfNums p).toList == (strOfNums b).toList)) = false ↔ p = b := by
  by_cases h : p = b
  · subst h; simp
  · have h2 : ¬ strOfNums p = strOfNums b := fun e => h (str_inj hp hb e)
    simp [str_ne h2, h]
theorem rd_alloc {W : World} {g off : Nat} {b : List Int} (h : Hid (Rd by1 1 W (some ⟨g, off, none⟩) b)) (o : Obj) : Hid (Rd by1 1 (W.alloc o) (some ⟨g, off, none⟩) b) :=
  h.out.below ((Below.refl _ _).alloc (Nat.le_refl _) _) (Nat.le_refl _)
theorem rd_drew {W : World} {g off : Nat} {b : List Int} (h : Hid (Rd by1 1 W (some ⟨g, off, none⟩) b)) : Hid (Rd by1 1 W.drew (some ⟨g, off, none⟩) b) := h
set_option maxHeartbeats 4000000 in
set_option maxRecDepth 100000 in
theorem of_calls (w : World) (A : Option Addr) (c : Nat) (b : List Int) (hc : b.length ≤ c) (hx : byteL b) (h : Rd by1 1 w A b) :
    Calls Try.prog 24 #[.slice A b.length c] w fun e w' => e = .returned (.tuple #[supV (ofB b), .bool (decide (isSup b))]) ∧ Below w.heap.size w w' := by
  have HR := Lib.hid h
  have HX := Lib.hid hx
  clear h hx
  go_enter Try.func24, Try.ntmps24
  rcases Decidable.em (b.length = 32) with hl | hl
  · have hl2 : ((b.length : Int) != 32) = false := by simpa using (show (b.length : Int) = 32 by omega)
    have i1 : (8 : Int) ≤ c := by omega
    have i2 : (12 : Int) ≤ c := by omega
    have i3 : (16 : Int) ≤ c := by omega
    have i4 : (20 : Int) ≤ c := by omega
    rcases HR.out with h0 | ⟨g, off, rfl, hbl, hcell⟩
    · simp [h0] at hl
    clear hcell
    have hR1 : Hid (Rd by1 1 (w.alloc (.cells #[.int .u64 0, .int .u32 0, .int .u32 0, .int .u32 0] 37)) (some ⟨g, off, none⟩) b) := rd_alloc HR _
    obtain ⟨n1, hn1⟩ : ∃ n, num (b.take 8) = n := ⟨_, rfl⟩
    obtain ⟨n2, hn2⟩ : ∃ n, num ((b.drop 8).take 4) = n := ⟨_, rfl⟩
    obtain ⟨n3, hn3⟩ : ∃ n, num ((b.drop 12).take 4) = n := ⟨_, rfl⟩
    obtain ⟨n4, hn4⟩ : ∃ n, num ((b.drop 16).take 4) = n := ⟨_, rfl⟩
    have hs : Hid (supOf b = ⟨n1, n2, n3, n4⟩) := by show _ = _; simp [supOf, hn1, hn2, hn3, hn4]
    have hok : Sup.ok ⟨n1, n2, n3, n4⟩ := hs.out ▸ supOf_ok HX.out hl
    have HOK := Lib.hid hok
    obtain ⟨⟨a0, a1⟩, ⟨b0, b1⟩, ⟨c0, c1⟩, ⟨d0, d1⟩⟩ := hok
    simp only at a0 a1 b0 b1 c0 c1 d0 d1
    have q1 := Lib.hid (fun W => number_at0 W g off c b 8 n1 HX.out hl (by omega) hn1)
    have q2 := Lib.hid (fun W => number_at W g off (c - 8) b 8 4 n2 HX.out hl (by omega) (by omega) hn2)
    have q3 := Lib.hid (fun W => number_at W g off (c - 12) b 12 4 n3 HX.out hl (by omega) (by omega) hn3)
    have q4 := Lib.hid (fun W => number_at W g off (c - 16) b 16 4 n4 HX.out hl (by omega) (by omega) hn4)
    clear hn1 hn2 hn3 hn4
    have k1 : ¬ c = 8 := by omega
    have k2 : ¬ c = 12 := by omega
    have k3 : ¬ c = 16 := by omega
    have v2 := wrap32 n2 b0 b1
    have v3 := wrap32 n3 c0 c1
    have v4 := wrap32 n4 d0 d1
    rw [hl]
    go_upto_region 3 with fail
    generalize hw1 : w.alloc (.cells #[.int .u64 0, .int .u32 0, .int .u32 0, .int .u32 0] 37) = w1 at *
    go_cut [4] (fun s4 wx => s4 = .pointer (some ⟨w1.heap.size, 0, none⟩) ∧ wx = (w1.alloc (.cells #[.int .u64 n1, .int .u32 n2, .int .u32 n3, .int .u32 n4] 37)).drew)
    case first =>
      go_region_held3 (fun w' => Hid (Rd by1 1 w' (some ⟨g, off, none⟩) b))
        (first | exact hR1 | assumption | exact rd_alloc (by assumption) _)
        (first 
          | (with_reducible refine (q1.out _ (by assumption)).mono ?_; rintro e w' ⟨rfl, rfl⟩)
          | (with_reducible refine (q2.out _ (by assumption)).mono ?_; rintro e w' ⟨rfl, rfl⟩)
          | (with_reducible refine (q3.out _ (by assumption)).mono ?_; rintro e w' ⟨rfl, rfl⟩)
          | (with_reducible refine (q4.out _ (by assumption)).mono ?_; rintro e w' ⟨rfl, rfl⟩))
      all_goals (go_wp2_with fail; go_meet; exact ⟨rfl, rfl⟩)
    case rest =>
      obtain ⟨rfl, rfl⟩ := hcut
      clear q1 q2 q3 q4 k1 k2 k3 v2 v3 v4 i1 i2 i3 i4
      have hR2 := rd_drew (rd_alloc hR1 (.cells #[.int .u64 n1, .int .u32 n2, .int .u32 n3, .int .u32 n4] 37))
      have hB2 : Hid (Below w.heap.size w (w1.alloc (.cells #[.int .u64 n1, .int .u32 n2, .int .u32 n3, .int .u32 n4] 37)).drew) := by
        show Below _ _ _
        subst hw1
        exact (bl_alloc (bl_alloc (Below.refl _ _) _) _).drew
      have hX2 : Hid ((w1.alloc (.cells #[.int .u64 n1, .int .u32 n2, .int .u32 n3, .int .u32 n4] 37)).drew.heap[w.heap.size]? = some (.cells #[.int .u64 0, .int .u32 0, .int .u32 0, .int .u32 0] 37 (0, 0))) := by
        show _ = _
        subst hw1
        exact blk_drew (blk_alloc (blk_new _ _) _)
      have hY2 : Hid ((w1.alloc (.cells #[.int .u64 n1, .int .u32 n2, .int .u32 n3, .int .u32 n4] 37)).drew.heap[w1.heap.size]? = some (.cells #[.int .u64 n1, .int .u32 n2, .int .u32 n3, .int .u32 n4] 37 (0, 0))) := blk_drew (blk_new _ _)
      have hgt : w.heap.size < w1.heap.size := by rw [← hw1]; exact (show w.heap.size < (w.heap.push _).size by rw [Array.size_push]; omega)
      generalize (w1.alloc (.cells #[.int .u64 n1, .int .u32 n2, .int .u32 n3, .int .u32 n4] 37)).drew = w2 at *
      obtain ⟨y0, y1, y2, y3⟩ := sup_cells hY2.out
      obtain ⟨x0, x1, x2, x3⟩ := sup_cells hX2.out
      have xf := fun i => blk_free hX2.out i
      have hlt2 := blk_lt hY2.out
      have hlt3 := blk_lt hX2.out
      generalize w1.heap.size = g4 at *
      clear hw1
      rcases Decidable.em (n1 = 0) with he | he
      · have he1 : (n1 == 0) = true := by simpa using he
        have hns : Hid (¬ isSup b) := fun e => e.2.1 (by rw [hs.out]; exact he)
        go_wp2_with fail
        go_quiet (fail)
        go_wp2
        have hz : ofB b = zeroSup := if_neg hns.out
        have hd : decide (isSup b) = false := by simpa using hns.out
        refine ret_row_tmp #[.int .u64 0, .int .u32 0, .int .u32 0, .int .u32 0] (g := w.heap.size) (by rfl) (by rfl) Try.underlying37 (by rfl) rfl (by kernel_rfl) (rowOf_blk (blk_set (blk_set (blk_set (blk_set (blk_drewN hX2.out _) 0 _) 1 _) 2 _) 3 _)) ?_
        rw [hz, hd]
        exact ⟨rfl, bl_set (bl_set (bl_set (bl_set (bl_drewN hB2.out _) (Nat.le_refl _) _) (Nat.le_refl _) _) (Nat.le_refl _) _) (Nat.le_refl _) _⟩
      · have he1 : (n1 == 0) = false := by simpa using he
        have hS : Hid (∀ W, Hid (Below w2.heap.size w2 W) → W.cell? ⟨g4, 0, none⟩ = some (.int .u64 n1) ∧ W.cell? ⟨g4, 1, none⟩ = some (.int .u32 n2) ∧ W.cell? ⟨g4, 2, none⟩ = some (.int .u32 n3) ∧ W.cell? ⟨g4, 3, none⟩ = some (.int .u32 n4) ∧
            (convert 38 9 (.slice (some ⟨g, off, none⟩) 32 c)).run Try.prog W = .ok (.string (strOfNums b)) W ∧ Hid (Below w2.heap.size w2 W)) := by
          intro W hW
          obtain ⟨a, b, c, d⟩ := sup_cells (blk_below hW.out hY2.out hlt2)
          exact ⟨a, b, c, d, string_of_rd _ hl (hR2.out.below hW.out (Nat.le_refl _)), hW⟩
        have hb0 : Hid (Below w2.heap.size w2 w2) := Below.refl _ _
        have hb1 : Hid (Below w2.heap.size w2 w2.drew) := (Below.refl _ _).drew
        have hput : Hid (∀ W : World, Calls Try.prog 26 #[.agg #[.int .u64 n1, .int .u32 n2, .int .u32 n3, .int .u32 n4]] W fun e w' => ∃ g, e = .returned (.slice (some ⟨g, 0, none⟩) 32 32) ∧
            (convert 38 9 (.slice (some ⟨g, 0, none⟩) 32 32)).run Try.prog w' = .ok (.string (strOfNums (put ⟨n1, n2, n3, n4⟩))) w' ∧ Below W.heap.size W w') := fun W =>
          (put_calls W ⟨n1, n2, n3, n4⟩ HOK.out).mono fun _ _ ⟨g, a, b, c, d⟩ => ⟨g, a, string_of_rd 32 (put_len _) b, d⟩
        obtain ⟨r, hr, hr2⟩ : ∃ r, (!((strOfNums (put ⟨n1, n2, n3, n4⟩)).toList == (strOfNums b).toList)) = r ∧ Hid (isSup b ↔ r = false) := by
          refine ⟨_, rfl, ?_⟩
          show isSup b ↔ _
          rw [sup_same HX.out (put_byte ⟨n1, n2, n3, n4⟩), ← hs.out]
          exact ⟨fun e => e.2.2, fun e => ⟨hl, by rw [hs.out]; exact he, e⟩⟩
        go_upto_region 4 with fail
        go_cut [35] (fun s35 wx => s35 = .bool r ∧ Hid (Below w2.heap.size w2 wx))
        case first =>
          have cvb0 := (hS.out _ hb1).2.2.2.2.1
          go_region_with (go_at_call 26; with_reducible refine (hput.out _).mono ?_; rintro e w3 ⟨g5, rfl, cv3, hb3⟩; have hb4 := bl_thenH hb1 hb3; have cvb := (hS.out _ hb4).2.2.2.2.1)
          all_goals (go_wp2_with fail; go_meet; exact ⟨rfl, by assumption⟩)
        case rest =>
          obtain ⟨rfl, hb3⟩ := hcut
          have hX3 := Lib.hid (blk_below hb3.out hX2.out hlt3)
          have hY3 := Lib.hid (blk_below hb3.out hY2.out hlt2)
          have hB3 := Lib.hid (bl_then hB2.out hB2.out.size hb3.out)
          clear hb0 hb1 hS hput x0 x1 x2 x3 xf y0 y1 y2 y3 hr
          obtain ⟨y0, y1, y2, y3⟩ := sup_cells hY3.out
          obtain ⟨x0, x1, x2, x3⟩ := sup_cells hX3.out
          have xf := fun i => blk_free hX3.out i
          cases r with
          | true =>
            have hns : Hid (¬ isSup b) := fun e => by have := hr2.out.1 e; cases this
            go_wp2
            have hz : ofB b = zeroSup := if_neg hns.out
            have hd : decide (isSup b) = false := by simpa using hns.out
            refine ret_row_tmp #[.int .u64 0, .int .u32 0, .int .u32 0, .int .u32 0] (g := w.heap.size) (by rfl) (by rfl) Try.underlying37 (by rfl) rfl (by kernel_rfl) (rowOf_blk (blk_set (blk_set (blk_set (blk_set hX3.out 0 _) 1 _) 2 _) 3 _)) ?_
            rw [hz, hd]
            exact ⟨rfl, bl_set (bl_set (bl_set (bl_set hB3.out (Nat.le_refl _) _) (Nat.le_refl _) _) (Nat.le_refl _) _) (Nat.le_refl _) _⟩
          | false =>
            have hys : Hid (isSup b) := hr2.out.2 rfl
            go_wp2
            have hz : ofB b = ⟨n1, n2, n3, n4⟩ := (if_pos hys.out).trans hs.out
            have hd : decide (isSup b) = true := by simpa using hys.out
            refine ret_row_tmp #[.int .u64 n1, .int .u32 n2, .int .u32 n3, .int .u32 n4] (g := w.heap.size) (by rfl) (by rfl) Try.underlying37 (by rfl) rfl (by kernel_rfl) (rowOf_blk (blk_set (blk_set (blk_set (blk_set hX3.out 0 _) 1 _) 2 _) 3 _)) ?_
            rw [hz, hd]
            exact ⟨rfl, bl_set (bl_set (bl_set (bl_set hB3.out (Nat.le_refl _) _) (Nat.le_refl _) _) (Nat.le_refl _) _) (Nat.le_refl _) _⟩
  · have hl2 : ((b.length : Int) != 32) = true := by simpa using (show ¬ (b.length : Int) = 32 by omega)
    go_wp2
    have hns : ¬ isSup b := fun e => hl e.1
    have hz : ofB b = zeroSup := if_neg hns
    have hd : decide (isSup b) = false := by simpa using hns
    refine ret_row_tmp #[.int .u64 0, .int .u32 0, .int .u32 0, .int .u32 0] (g := w.heap.size) (by rfl) (by rfl) Try.underlying37 (by rfl) rfl (by kernel_rfl) (rowOf_new _ _ _ _) ?_
    rw [hz, hd]
    exact ⟨rfl, bl_alloc (Below.refl _ _) _⟩
end Go.Proofs.Ytglpckdmiohciaa
