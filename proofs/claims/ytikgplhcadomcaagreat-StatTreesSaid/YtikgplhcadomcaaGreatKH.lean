/- super.Of. the reference's big, Super. Plain laws of supers and their bytes. No program is named here. supers held against each other; law05.awake. super.Save, super.Load. super.Load. fnv.More, Sum, Fold. Pages in plain words; pager.Need. The pager in plain words: sums, pages, texts on a device, what is opened, put and committed. What a crash keeps: plain laws, no program. What a save, whatever crash strikes within it, leaves: plain laws, no program. What a save, whatever crash strikes within it, leaves, told of devices: plain laws, no program. -/
import Derived.Test.YtikgplhcadomcaaGreatKA
import Derived.Deep.RegionWith
import Derived.StillTailTactics
import Derived.Deep.RegionHeld3
import Derived.Laws.BytesArg
import Derived.Deep.DeepCutAuto
import Derived.Laws.ResultCell
import Derived.Laws.Rows
import Derived.Test.YtikgplhcadomcaaGreatKG
import Derived.Test.YtikgplhcadomcaaGreatProg
import Derived.Laws.Bits64
import Derived.Test.YtikgplhcadomcaaGreatKF
namespace Go.Proofs.YtikgplhcadomcaaGreat
open Go.RowKit
set_option linter.unusedVariables false
set_option linter.unusedSimpArgs false

def supOf (b : List Int) : Sup := ⟨num (b.take 8), num ((b.drop 8).take 4), num ((b.drop 12).take 4), num ((b.drop 16).take 4)⟩
def zeroSup : Sup := ⟨0, 0, 0, 0⟩
def isSup (b : List Int) : Prop := b.length = 32 ∧ (supOf b).epoch ≠ 0 ∧ put (supOf b) = b
instance (b : List Int) : Decidable (isSup b) := by unfold isSup; infer_instance
def ofB (b : List Int) : Sup := if isSup b then supOf b else zeroSup

theorem number_still (w : World) (A : Option Addr) (c n : Nat) (xs : List Int) (hn : xs.length = n) (hl : xs.length ≤ 8) (hx : byteL xs) (h : Rd by1 1 w A xs) :
    Calls Tryz.prog 214 #[.slice A n c] w fun e w' => e = .returned (.int .u64 (num xs)) ∧ w' = w := by
  subst hn
  exact (number_calls w A c xs hl hx h).mono fun _ _ ⟨h1, h2⟩ => ⟨h1, h2.symm⟩
theorem byteL.take {xs : List Int} (h : byteL xs) (n : Nat) : byteL (xs.take n) := fun x hx => h x (List.mem_of_mem_take hx)
theorem byteL.drop {xs : List Int} (h : byteL xs) (n : Nat) : byteL (xs.drop n) := fun x hx => h x (List.mem_of_mem_drop hx)
theorem num4 {xs : List Int} (h : byteL xs) (hl : xs.length = 4) : 0 ≤ num xs ∧ num xs < 4294967296 := by
  have := num_rng 4 xs h (by omega)
  rw [List.take_of_length_le (by omega)] at this
  exact ⟨this.1, by simpa using this.2⟩
theorem num8 {xs : List Int} (h : byteL xs) (hl : xs.length = 8) : 0 ≤ num xs ∧ num xs < 18446744073709551616 := by
  have := num_rng 8 xs h (by omega)
  rw [List.take_of_length_le (by omega)] at this
  exact ⟨this.1, by simpa using this.2⟩
theorem supOf_ok {b : List Int} (h : byteL b) (hl : b.length = 32) : (supOf b).ok :=
  ⟨num8 (h.take _) (by simp [hl]), num4 ((h.drop _).take _) (by simp [hl]), num4 ((h.drop _).take _) (by simp [hl]), num4 ((h.drop _).take _) (by simp [hl])⟩

theorem number_at (W : World) (g off c : Nat) (b : List Int) (j n : Nat) (m : Int) (hX : byteL b) (hl : b.length = 32) (hj : j + n ≤ 32) (hn : n ≤ 8) (hm : num ((b.drop j).take n) = m) (h : Hid (Rd by1 1 W (some ⟨g, off, none⟩) b)) :
    Calls Tryz.prog 214 #[.slice (some ⟨g, off + j, none⟩) n c] W fun e w' => e = .returned (.int .u64 m) ∧ W = w' := by
  subst hm
  have h1 : Rd by1 1 W (some ⟨g, off + j * 1, none⟩) (b.drop j) := Rd.drop j h.out
  rw [Nat.mul_one] at h1
  exact (number_still W _ c n _ (by simp [hl]; omega) (by simp [hl]; omega) ((hX.drop j).take n) (h1.take n)).mono fun _ _ ⟨a, b⟩ => ⟨a, b.symm⟩
theorem number_at0 (W : World) (g off c : Nat) (b : List Int) (n : Nat) (m : Int) (hX : byteL b) (hl : b.length = 32) (hn : n ≤ 8) (hm : num (b.take n) = m) (h : Hid (Rd by1 1 W (some ⟨g, off, none⟩) b)) :
    Calls Tryz.prog 214 #[.slice (some ⟨g, off, none⟩) n c] W fun e w' => e = .returned (.int .u64 m) ∧ W = w' := number_at W g off c b 0 n m hX hl (by omega) hn hm h
theorem wrap32 (n : Int) (h0 : 0 ≤ n) (h1 : n < 4294967296) : IntKind.u32.wrap n = n := by rw [IntKind.wrap_u32]; omega
/-- A function's end with two results: one in a block, one in a slot. -/
theorem ret_row_tmp {P : Program} {fn : Func} {R : Ending → World → Prop} {a : Act} {w : World} {p u : Tmp} {ty : TypeId} {g : Nat} (cs : Array Value) {d : TypeDesc} (h : fn.results = #[.cell p ty, .tmp u])
    (hp : a.tmps.getD p undef = .pointer (some ⟨g, 0, none⟩)) (hu : P.underlying ty = some d) (hd : (match d with | .struct _ | .array _ _ => true | _ => false) = true) (hdf : a.defers = [])
    (hi : (P.info? ty).map (·.size) = some cs.size) (hg : rowOf w g = some cs) (hR : R (.returned (.tuple #[.agg cs, a.tmps.getD u undef])) w) : bodyPost P fn R .ret a w := by
  unfold rowOf at hg
  split at hg
  · rename_i c t fr hh
    injection hg with hg
    subst hg
    refine bodyPost_ret ?_ hdf hR
    rw [results_cell_tmp h, hp]
    simp [asAddr, run_loadVar_row w g t ty c fr d hh hu hd hi]
  · cases hg
theorem sup_cells {w : World} {g : Nat} {a b c d : Value} {t : TypeId} {fr : Nat × Nat} (h : w.heap[g]? = some (.cells #[a, b, c, d] t fr)) :
    w.cell? ⟨g, 0, none⟩ = some a ∧ w.cell? ⟨g, 1, none⟩ = some b ∧ w.cell? ⟨g, 2, none⟩ = some c ∧ w.cell? ⟨g, 3, none⟩ = some d :=
  ⟨by rw [blk_cell h]; rfl, by rw [blk_cell h]; rfl, by rw [blk_cell h]; rfl, by rw [blk_cell h]; rfl⟩
theorem bl_thenH {w2 W w3 : World} (h : Hid (Below w2.heap.size w2 W)) (k : Below W.heap.size W w3) : Hid (Below w2.heap.size w2 w3) := bl_then h.out h.out.size k
theorem str_inj {xs ys : List Int} (hx : byteL xs) (hy : byteL ys) (h : strOfNums xs = strOfNums ys) : xs = ys := by
  have e : xs.map (fun n => UInt8.ofNat n.toNat) = ys.map (fun n => UInt8.ofNat n.toNat) := by
    have := congrArg (fun s : ByteArray => s.data.toList) h
    simpa [strOfNums] using this
  have hl : xs.length = ys.length := by have := congrArg List.length e; simpa using this
  apply List.ext_getElem hl
  intro i h1 h2
  have e1 : UInt8.ofNat (xs[i]).toNat = UInt8.ofNat (ys[i]).toNat := by
    have := congrArg (fun l => l[i]?) e
    simpa [List.getElem?_map, List.getElem?_eq_getElem h1, List.getElem?_eq_getElem h2] using this
  have e2 := congrArg UInt8.toNat e1
  have a := hx xs[i] (List.getElem_mem _)
  have b := hy ys[i] (List.getElem_mem _)
  simp only [UInt8.toNat_ofNat'] at e2
  omega
theorem string_of_rd {W : World} {g off : Nat} {xs : List Int} {n : Nat} (c : Nat) (hn : xs.length = n) (h : Rd by1 1 W (some ⟨g, off, none⟩) xs) :
    (convert 51 9 (.slice (some ⟨g, off, none⟩) n c)).run Tryz.prog W = .ok (.string (strOfNums xs)) W := by
  refine run_convert_bytes_arg W 51 5 Tryz.underlying51 Tryz.underlying5 g off n c xs hn (fun i hi => ?_) 9 Tryz.underlying9
  rcases h with h | ⟨b', off', he, hlt, hc⟩
  · subst h; simp at hn; omega
  · cases he
    have := hc i (xs.getD i 0) (by simp [hn, hi]) 0 _ rfl
    simpa using this
theorem put_byte (s : Sup) : byteL (put s) := by
  intro x hx
  simp only [put, List.mem_append] at hx
  rcases hx with ((((hx | hx) | hx) | hx) | hx) | hx
  · exact be_rng _ _ x hx
  · exact be_rng _ _ x hx
  · exact be_rng _ _ x hx
  · exact be_rng _ _ x hx
  · simp [magic] at hx; rcases hx with rfl | rfl | rfl | rfl <;> omega
  · exact be_rng _ _ x hx
theorem sup_same {p b : List Int} (hb : byteL b) (hp : byteL p) : (!((strOfNums p).toList == (strOfNums b).toList)) = false ↔ p = b := by
  by_cases h : p = b
  · subst h; simp
  · have h2 : ¬ strOfNums p = strOfNums b := fun e => h (str_inj hp hb e)
    simp [str_ne h2, h]
theorem rd_alloc {W : World} {g off : Nat} {b : List Int} (h : Hid (Rd by1 1 W (some ⟨g, off, none⟩) b)) (o : Obj) : Hid (Rd by1 1 (W.alloc o) (some ⟨g, off, none⟩) b) :=
  h.out.below ((Below.refl _ _).alloc (Nat.le_refl _) _) (Nat.le_refl _)
theorem rd_drew {W : World} {g off : Nat} {b : List Int} (h : Hid (Rd by1 1 W (some ⟨g, off, none⟩) b)) : Hid (Rd by1 1 W.drew (some ⟨g, off, none⟩) b) := h
set_option maxHeartbeats 4000000 in
set_option maxRecDepth 100000 in
theorem of_calls (w : World) (A : Option Addr) (c : Nat) (b : List Int) (hc : b.length ≤ c) (hx : byteL b) (h : Rd by1 1 w A b) :
    Calls Tryz.prog 190 #[.slice A b.length c] w fun e w' => e = .returned (.tuple #[supV (ofB b), .bool (decide (isSup b))]) ∧ Below w.heap.size w w' := by
  have HR := Lib.hid h
  have HX := Lib.hid hx
  clear h hx
  go_enter Tryz.func190, Tryz.ntmps190
  rcases Decidable.em (b.length = 32) with hl | hl
  · have hl2 : ((b.length : Int) != 32) = false := by simpa using (show (b.length : Int) = 32 by omega)
    have i1 : (8 : Int) ≤ c := by omega
    have i2 : (12 : Int) ≤ c := by omega
    have i3 : (16 : Int) ≤ c := by omega
    have i4 : (20 : Int) ≤ c := by omega
    rcases HR.out with h0 | ⟨g, off, rfl, hbl, hcell⟩
    · simp [h0] at hl
    clear hcell
    have hR1 : Hid (Rd by1 1 (w.alloc (.cells #[.int .u64 0, .int .u32 0, .int .u32 0, .int .u32 0] 209)) (some ⟨g, off, none⟩) b) := rd_alloc HR _
    obtain ⟨n1, hn1⟩ : ∃ n, num (b.take 8) = n := ⟨_, rfl⟩
    obtain ⟨n2, hn2⟩ : ∃ n, num ((b.drop 8).take 4) = n := ⟨_, rfl⟩
    obtain ⟨n3, hn3⟩ : ∃ n, num ((b.drop 12).take 4) = n := ⟨_, rfl⟩
    obtain ⟨n4, hn4⟩ : ∃ n, num ((b.drop 16).take 4) = n := ⟨_, rfl⟩
    have hs : Hid (supOf b = ⟨n1, n2, n3, n4⟩) := by show _ = _; simp [supOf, hn1, hn2, hn3, hn4]
    have hok : Sup.ok ⟨n1, n2, n3, n4⟩ := hs.out ▸ supOf_ok HX.out hl
    have HOK := Lib.hid hok
    obtain ⟨⟨a0, a1⟩, ⟨b0, b1⟩, ⟨c0, c1⟩, ⟨d0, d1⟩⟩ := hok
    simp only at a0 a1 b0 b1 c0 c1 d0 d1
    have q1 := Lib.hid (fun W => number_at0 W g off c b 8 n1 HX.out hl (by omega) hn1)
    have q2 := Lib.hid (fun W => number_at W g off (c - 8) b 8 4 n2 HX.out hl (by omega) (by omega) hn2)
    have q3 := Lib.hid (fun W => number_at W g off (c - 12) b 12 4 n3 HX.out hl (by omega) (by omega) hn3)
    have q4 := Lib.hid (fun W => number_at W g off (c - 16) b 16 4 n4 HX.out hl (by omega) (by omega) hn4)
    clear hn1 hn2 hn3 hn4
    have k1 : ¬ c = 8 := by omega
    have k2 : ¬ c = 12 := by omega
    have k3 : ¬ c = 16 := by omega
    have v2 := wrap32 n2 b0 b1
    have v3 := wrap32 n3 c0 c1
    have v4 := wrap32 n4 d0 d1
    rw [hl]
    go_upto_region 3 with fail
    generalize hw1 : w.alloc (.cells #[.int .u64 0, .int .u32 0, .int .u32 0, .int .u32 0] 209) = w1 at *
    go_cut [4] (fun s4 wx => s4 = .pointer (some ⟨w1.heap.size, 0, none⟩) ∧ wx = (w1.alloc (.cells #[.int .u64 n1, .int .u32 n2, .int .u32 n3, .int .u32 n4] 209)).drew)
    case first =>
      go_region_held3 (fun w' => Hid (Rd by1 1 w' (some ⟨g, off, none⟩) b))
        (first | exact hR1 | assumption | exact rd_alloc (by assumption) _)
        (first 
          | (with_reducible refine (q1.out _ (by assumption)).mono ?_; rintro e w' ⟨rfl, rfl⟩)
          | (with_reducible refine (q2.out _ (by assumption)).mono ?_; rintro e w' ⟨rfl, rfl⟩)
          | (with_reducible refine (q3.out _ (by assumption)).mono ?_; rintro e w' ⟨rfl, rfl⟩)
          | (with_reducible refine (q4.out _ (by assumption)).mono ?_; rintro e w' ⟨rfl, rfl⟩))
      all_goals (go_wp2_with fail; go_meet; exact ⟨rfl, rfl⟩)
    case rest =>
      obtain ⟨rfl, rfl⟩ := hcut
      clear q1 q2 q3 q4 k1 k2 k3 v2 v3 v4 i1 i2 i3 i4
      have hR2 := rd_drew (rd_alloc hR1 (.cells #[.int .u64 n1, .int .u32 n2, .int .u32 n3, .int .u32 n4] 209))
      have hB2 : Hid (Below w.heap.size w (w1.alloc (.cells #[.int .u64 n1, .int .u32 n2, .int .u32 n3, .int .u32 n4] 209)).drew) := by
        show Below _ _ _
        subst hw1
        exact (bl_alloc (bl_alloc (Below.refl _ _) _) _).drew
      have hX2 : Hid ((w1.alloc (.cells #[.int .u64 n1, .int .u32 n2, .int .u32 n3, .int .u32 n4] 209)).drew.heap[w.heap.size]? = some (.cells #[.int .u64 0, .int .u32 0, .int .u32 0, .int .u32 0] 209 (0, 0))) := by
        show _ = _
        subst hw1
        exact blk_drew (blk_alloc (blk_new _ _) _)
      have hY2 : Hid ((w1.alloc (.cells #[.int .u64 n1, .int .u32 n2, .int .u32 n3, .int .u32 n4] 209)).drew.heap[w1.heap.size]? = some (.cells #[.int .u64 n1, .int .u32 n2, .int .u32 n3, .int .u32 n4] 209 (0, 0))) := blk_drew (blk_new _ _)
      have hgt : w.heap.size < w1.heap.size := by rw [← hw1]; exact (show w.heap.size < (w.heap.push _).size by rw [Array.size_push]; omega)
      generalize (w1.alloc (.cells #[.int .u64 n1, .int .u32 n2, .int .u32 n3, .int .u32 n4] 209)).drew = w2 at *
      obtain ⟨y0, y1, y2, y3⟩ := sup_cells hY2.out
      obtain ⟨x0, x1, x2, x3⟩ := sup_cells hX2.out
      have xf := fun i => blk_free hX2.out i
      have hlt2 := blk_lt hY2.out
      have hlt3 := blk_lt hX2.out
      generalize w1.heap.size = g4 at *
      clear hw1
      rcases Decidable.em (n1 = 0) with he | he
      · have he1 : (n1 == 0) = true := by simpa using he
        have hns : Hid (¬ isSup b) := fun e => e.2.1 (by rw [hs.out]; exact he)
        go_wp2_with fail
        go_quiet (fail)
        go_wp2
        have hz : ofB b = zeroSup := if_neg hns.out
        have hd : decide (isSup b) = false := by simpa using hns.out
        refine ret_row_tmp #[.int .u64 0, .int .u32 0, .int .u32 0, .int .u32 0] (g := w.heap.size) (by rfl) (by rfl) Tryz.underlying209 (by rfl) rfl (by kernel_rfl) (rowOf_blk (blk_set (blk_set (blk_set (blk_set (blk_drewN hX2.out _) 0 _) 1 _) 2 _) 3 _)) ?_
        rw [hz, hd]
        exact ⟨rfl, bl_set (bl_set (bl_set (bl_set (bl_drewN hB2.out _) (Nat.le_refl _) _) (Nat.le_refl _) _) (Nat.le_refl _) _) (Nat.le_refl _) _⟩
      · have he1 : (n1 == 0) = false := by simpa using he
        have hS : Hid (∀ W, Hid (Below w2.heap.size w2 W) → W.cell? ⟨g4, 0, none⟩ = some (.int .u64 n1) ∧ W.cell? ⟨g4, 1, none⟩ = some (.int .u32 n2) ∧ W.cell? ⟨g4, 2, none⟩ = some (.int .u32 n3) ∧ W.cell? ⟨g4, 3, none⟩ = some (.int .u32 n4) ∧
            (convert 51 9 (.slice (some ⟨g, off, none⟩) 32 c)).run Tryz.prog W = .ok (.string (strOfNums b)) W ∧ Hid (Below w2.heap.size w2 W)) := by
          intro W hW
          obtain ⟨a, b, c, d⟩ := sup_cells (blk_below hW.out hY2.out hlt2)
          exact ⟨a, b, c, d, string_of_rd _ hl (hR2.out.below hW.out (Nat.le_refl _)), hW⟩
        have hb0 : Hid (Below w2.heap.size w2 w2) := Below.refl _ _
        have hb1 : Hid (Below w2.heap.size w2 w2.drew) := (Below.refl _ _).drew
        have hput : Hid (∀ W : World, Calls Tryz.prog 171 #[.agg #[.int .u64 n1, .int .u32 n2, .int .u32 n3, .int .u32 n4]] W fun e w' => ∃ g, e = .returned (.slice (some ⟨g, 0, none⟩) 32 32) ∧
            (convert 51 9 (.slice (some ⟨g, 0, none⟩) 32 32)).run Tryz.prog w' = .ok (.string (strOfNums (put ⟨n1, n2, n3, n4⟩))) w' ∧ Below W.heap.size W w') := fun W =>
          (put_calls W ⟨n1, n2, n3, n4⟩ HOK.out).mono fun _ _ ⟨g, a, b, c, d⟩ => ⟨g, a, string_of_rd 32 (put_len _) b, d⟩
        obtain ⟨r, hr, hr2⟩ : ∃ r, (!((strOfNums (put ⟨n1, n2, n3, n4⟩)).toList == (strOfNums b).toList)) = r ∧ Hid (isSup b ↔ r = false) := by
          refine ⟨_, rfl, ?_⟩
          show isSup b ↔ _
          rw [sup_same HX.out (put_byte ⟨n1, n2, n3, n4⟩), ← hs.out]
          exact ⟨fun e => e.2.2, fun e => ⟨hl, by rw [hs.out]; exact he, e⟩⟩
        go_upto_region 4 with fail
        go_cut [35] (fun s35 wx => s35 = .bool r ∧ Hid (Below w2.heap.size w2 wx))
        case first =>
          have cvb0 := (hS.out _ hb1).2.2.2.2.1
          go_region_with (go_at_call 171; with_reducible refine (hput.out _).mono ?_; rintro e w3 ⟨g5, rfl, cv3, hb3⟩; have hb4 := bl_thenH hb1 hb3; have cvb := (hS.out _ hb4).2.2.2.2.1)
          all_goals (go_wp2_with fail; go_meet; exact ⟨rfl, by assumption⟩)
        case rest =>
          obtain ⟨rfl, hb3⟩ := hcut
          have hX3 := Lib.hid (blk_below hb3.out hX2.out hlt3)
          have hY3 := Lib.hid (blk_below hb3.out hY2.out hlt2)
          have hB3 := Lib.hid (bl_then hB2.out hB2.out.size hb3.out)
          clear hb0 hb1 hS hput x0 x1 x2 x3 xf y0 y1 y2 y3 hr
          obtain ⟨y0, y1, y2, y3⟩ := sup_cells hY3.out
          obtain ⟨x0, x1, x2, x3⟩ := sup_cells hX3.out
          have xf := fun i => blk_free hX3.out i
          cases r with
          | true =>
            have hns : Hid (¬ isSup b) := fun e => by have := hr2.out.1 e; cases this
            go_wp2
            have hz : ofB b = zeroSup := if_neg hns.out
            have hd : decide (isSup b) = false := by simpa using hns.out
            refine ret_row_tmp #[.int .u64 0, .int .u32 0, .int .u32 0, .int .u32 0] (g := w.heap.size) (by rfl) (by rfl) Tryz.underlying209 (by rfl) rfl (by kernel_rfl) (rowOf_blk (blk_set (blk_set (blk_set (blk_set hX3.out 0 _) 1 _) 2 _) 3 _)) ?_
            rw [hz, hd]
            exact ⟨rfl, bl_set (bl_set (bl_set (bl_set hB3.out (Nat.le_refl _) _) (Nat.le_refl _) _) (Nat.le_refl _) _) (Nat.le_refl _) _⟩
          | false =>
            have hys : Hid (isSup b) := hr2.out.2 rfl
            go_wp2
            have hz : ofB b = ⟨n1, n2, n3, n4⟩ := (if_pos hys.out).trans hs.out
            have hd : decide (isSup b) = true := by simpa using hys.out
            refine ret_row_tmp #[.int .u64 n1, .int .u32 n2, .int .u32 n3, .int .u32 n4] (g := w.heap.size) (by rfl) (by rfl) Tryz.underlying209 (by rfl) rfl (by kernel_rfl) (rowOf_blk (blk_set (blk_set (blk_set (blk_set hX3.out 0 _) 1 _) 2 _) 3 _)) ?_
            rw [hz, hd]
            exact ⟨rfl, bl_set (bl_set (bl_set (bl_set hB3.out (Nat.le_refl _) _) (Nat.le_refl _) _) (Nat.le_refl _) _) (Nat.le_refl _) _⟩
  · have hl2 : ((b.length : Int) != 32) = true := by simpa using (show ¬ (b.length : Int) = 32 by omega)
    go_wp2
    have hns : ¬ isSup b := fun e => hl e.1
    have hz : ofB b = zeroSup := if_neg hns
    have hd : decide (isSup b) = false := by simpa using hns
    refine ret_row_tmp #[.int .u64 0, .int .u32 0, .int .u32 0, .int .u32 0] (g := w.heap.size) (by rfl) (by rfl) Tryz.underlying209 (by rfl) rfl (by kernel_rfl) (rowOf_new _ _ _ _) ?_
    rw [hz, hd]
    exact ⟨rfl, bl_alloc (Below.refl _ _) _⟩
end Go.Proofs.YtikgplhcadomcaaGreat

namespace Go.Proofs.YtikgplhcadomcaaGreat
open Go.RowKit
set_option linter.unusedVariables false
set_option linter.unusedSimpArgs false

theorem infoU8 : (Tryz.prog.info? 5).map (fun i => (i.zero, i.size, i.bytes)) = some (some (.int .u8 0), 1, 1) := by kernel_rfl

theorem bl_thenB {B C : Nat} {w W W' : World} (h : Below B w W) (k : Below C W W') (hc : B ≤ C) : Below B w W' :=
  ⟨k.os.trans h.os, k.tape.trans h.tape, k.output.trans h.output, Nat.le_trans h.size k.size, fun i hi => (k.block i (by omega)).trans (h.block i hi)⟩
theorem bl_then' {B C : Nat} {w W W' : World} (h : Below B w W) (k : Below C W W') (hc : B ≤ C) : Below B w W' := bl_thenB h k hc
end Go.Proofs.YtikgplhcadomcaaGreat

namespace Go.Proofs.YtikgplhcadomcaaGreat
set_option linter.unusedVariables false
set_option linter.unusedSimpArgs false

theorem num_from : ∀ (l : List Int) (a : Int), l.foldl (fun n x => n * 256 + x) a = a * 256 ^ l.length + num l
  | [], a => by simp [num]
  | x :: l, a => by
    have h1 := num_from l (a * 256 + x)
    have h2 := num_from l (0 * 256 + x)
    simp only [num, List.foldl_cons, List.length_cons] at *
    rw [h1, h2, Int.pow_succ, Int.add_mul, Int.mul_assoc, Int.mul_comm 256, Int.zero_mul, Int.zero_add, Int.add_assoc]
theorem num_cons (x : Int) (l : List Int) : num (x :: l) = x * 256 ^ l.length + num l := by
  have := num_from l x
  simp only [num, List.foldl_cons] at *
  simpa using this
theorem num_be (n : Int) (h0 : 0 ≤ n) : ∀ k, num (be n k) = n % 256 ^ k
  | 0 => by simp [be, num, Int.emod_one]
  | k + 1 => by
    rw [be, num_cons, be_len, num_be n h0 k]
    have e : (2 : Int) ^ (8 * k) = 256 ^ k := by rw [Int.pow_mul]; rfl
    rw [e]
    obtain ⟨m, rfl⟩ : ∃ m : Nat, n = m := ⟨n.toNat, by omega⟩
    have hp : (256 : Int) ^ k = ((256 ^ k : Nat) : Int) := by simp
    rw [Int.pow_succ, hp]
    generalize 256 ^ k = p
    have h1 := Nat.mod_mul (x := m) (a := p) (b := 256)
    have h2 : ((m % (p * 256) : Nat) : Int) = ((m % p + p * (m / p % 256) : Nat) : Int) := by rw [h1]
    simp only [Int.natCast_add, Int.natCast_mul, Int.natCast_emod, Int.natCast_ediv, Int.cast_ofNat_Int] at h2
    rw [h2, Int.mul_comm, Int.add_comm]
theorem be8 (n : Int) (h0 : 0 ≤ n) (h1 : n < 18446744073709551616) : num (be n 8) = n := by rw [num_be n h0]; omega
theorem be4 (n : Int) (h0 : 0 ≤ n) (h1 : n < 4294967296) : num (be n 4) = n := by rw [num_be n h0]; omega
theorem cut5 (a b c d e f : List Int) (ha : a.length = 8) (hb : b.length = 4) (hc : c.length = 4) (hd : d.length = 4) (he : e.length = 4) :
    (a ++ b ++ c ++ d ++ e ++ f).take 8 = a ∧ ((a ++ b ++ c ++ d ++ e ++ f).drop 8).take 4 = b ∧ ((a ++ b ++ c ++ d ++ e ++ f).drop 12).take 4 = c ∧ ((a ++ b ++ c ++ d ++ e ++ f).drop 16).take 4 = d ∧ (a ++ b ++ c ++ d ++ e ++ f).drop 24 = f := by
  refine ⟨?_, ?_, ?_, ?_, ?_⟩
  · simp only [List.append_assoc]; exact List.take_left' ha
  · simp only [List.append_assoc]; rw [List.drop_left' ha]; exact List.take_left' hb
  · rw [show a ++ b ++ c ++ d ++ e ++ f = (a ++ b) ++ (c ++ (d ++ e ++ f)) from by simp, List.drop_left' (by simp [ha, hb])]; exact List.take_left' hc
  · rw [show a ++ b ++ c ++ d ++ e ++ f = (a ++ b ++ c) ++ (d ++ (e ++ f)) from by simp, List.drop_left' (by simp [ha, hb, hc])]; exact List.take_left' hd
  · rw [List.drop_left' (by simp [ha, hb, hc, hd, he])]
theorem put_cut (s : Sup) : (put s).take 8 = be s.epoch 8 ∧ ((put s).drop 8).take 4 = be s.start 4 ∧ ((put s).drop 12).take 4 = be s.pages 4 ∧ ((put s).drop 16).take 4 = be s.size 4 ∧ (put s).drop 24 = be s.epoch 8 :=
  cut5 _ _ _ _ _ _ (be_len _ _) (be_len _ _) (be_len _ _) (be_len _ _) rfl
theorem supOf_put (s : Sup) (h : s.ok) : supOf (put s) = s := by
  obtain ⟨⟨a0, a1⟩, ⟨b0, b1⟩, ⟨c0, c1⟩, ⟨d0, d1⟩⟩ := h
  obtain ⟨e1, e2, e3, e4, _⟩ := put_cut s
  simp [supOf, e1, e2, e3, e4, be8 _ a0 a1, be4 _ b0 b1, be4 _ c0 c1, be4 _ d0 d1]
theorem isSup_put (s : Sup) (h : s.ok) : isSup (put s) ↔ s.epoch ≠ 0 := by
  unfold isSup
  rw [supOf_put s h]
  exact ⟨fun e => e.2.1, fun e => ⟨put_len s, e, rfl⟩⟩
theorem ofB_put (s : Sup) (h : s.ok) (he : s.epoch ≠ 0) : ofB (put s) = s := by unfold ofB; rw [if_pos ((isSup_put s h).2 he), supOf_put s h]

/-- The first k bytes of b's, the others of a's. -/
def torn (a b : Sup) (k : Nat) : List Int := (put b).take k ++ (put a).drop k
end Go.Proofs.YtikgplhcadomcaaGreat

namespace Go.Proofs.YtikgplhcadomcaaGreat
open Go.RowKit
set_option linter.unusedVariables false
set_option linter.unusedSimpArgs false

/-- super.Of, its argument's length a letter, its result written out. -/
theorem of_calls' (w : World) (A : Option Addr) (n c : Nat) (b : List Int) (hn : b.length = n) (hc : n ≤ c) (hx : byteL b) (h : Rd by1 1 w A b) (s : Sup) (r : Bool) (hs : ofB b = s) (hr : decide (isSup b) = r) :
    Calls Tryz.prog 190 #[.slice A n c] w fun e w' => e = .returned (.tuple #[.agg #[.int .u64 s.epoch, .int .u32 s.start, .int .u32 s.pages, .int .u32 s.size], .bool r]) ∧ Below w.heap.size w w' := by
  subst hn hs hr
  exact of_calls w A c b hc hx h
theorem put_calls' (w : World) (a b c d : Int) (hs : Sup.ok ⟨a, b, c, d⟩) :
    Calls Tryz.prog 171 #[.agg #[.int .u64 a, .int .u32 b, .int .u32 c, .int .u32 d]] w fun e w' => ∃ g, e = .returned (.slice (some ⟨g, 0, none⟩) 32 32) ∧ Rd by1 1 w' (some ⟨g, 0, none⟩) (put ⟨a, b, c, d⟩) ∧ w.heap.size ≤ g ∧ Below w.heap.size w w' :=
  put_calls w ⟨a, b, c, d⟩ hs
/-- The cells of a super. -/
def supC (x : Sup) : Array Value := #[.int .u64 x.epoch, .int .u32 x.start, .int .u32 x.pages, .int .u32 x.size]
/-- A super in a block. -/
def SupAt (w : World) (p : Nat) (x : Sup) : Prop := w.heap[p]? = some (.cells (supC x) 209 (0, 0)) ∧ p < w.heap.size
theorem supAt_new (w : World) (x : Sup) (p : Nat) (hp : w.heap.size = p) : SupAt (w.alloc (.cells (supC x) 209)) p x := by subst hp; exact ⟨blk_new _ _, by simp⟩
theorem SupAt.alloc {w : World} {p : Nat} {x : Sup} (h : SupAt w p x) (o : Obj) : SupAt (w.alloc o) p x := ⟨blk_alloc h.1 o, Nat.lt_trans h.2 (by simp)⟩
theorem SupAt.below {w w' : World} {p : Nat} {x : Sup} (h : SupAt w p x) (hb : Below w.heap.size w w') : SupAt w' p x := ⟨blk_below hb h.1 h.2, Nat.lt_of_lt_of_le h.2 hb.size⟩
theorem SupAt.cells {w : World} {p : Nat} {x : Sup} (h : SupAt w p x) : w.cell? ⟨p, 0, none⟩ = some (.int .u64 x.epoch) ∧ w.cell? ⟨p, 1, none⟩ = some (.int .u32 x.start) ∧ w.cell? ⟨p, 2, none⟩ = some (.int .u32 x.pages) ∧ w.cell? ⟨p, 3, none⟩ = some (.int .u32 x.size) := sup_cells h.1
end Go.Proofs.YtikgplhcadomcaaGreat

namespace Go.Proofs.YtikgplhcadomcaaGreat
open Go.RowKit
set_option linter.unusedVariables false
set_option linter.unusedSimpArgs false

def saveR (D : Dv) (s : Sup) : Int × Dv :=
  if D.flush.1 ≠ 0 then D.flush else if (D.flush.2.write (s.epoch % 2) (put s)).1 ≠ 0 then D.flush.2.write (s.epoch % 2) (put s) else (D.flush.2.write (s.epoch % 2) (put s)).2.flush
theorem flush_cache {D : Dv} (h : D.flush.1 = 0) : D.flush.2.cache = [] := by
  unfold Dv.flush at h ⊢
  split
  · rfl
  · rename_i hh
    rw [if_neg hh] at h
    cases h
section
variable {w : World} {g : Nat} {F : Nat → Prop} {D : Dv}
set_option maxRecDepth 100000 in
set_option maxHeartbeats 4000000 in
theorem save_calls (h : DevAt w g F D) (a b c d : Int) (hs : Sup.ok ⟨a, b, c, d⟩) :
    Calls Tryz.prog 133 #[.pointer (some ⟨g, 0, none⟩), .agg #[.int .u64 a, .int .u32 b, .int .u32 c, .int .u32 d]] w fun e w' => e = .returned (.int .i64 (saveR D ⟨a, b, c, d⟩).1) ∧ Did F w w' g (saveR D ⟨a, b, c, d⟩).2 := by
  obtain ⟨W1, hW1⟩ : ∃ W, W = w.alloc (.cells #[.int .u64 a, .int .u32 b, .int .u32 c, .int .u32 d] 209) := ⟨_, rfl⟩
  have hx1 : W1.heap[w.heap.size]? = some (.cells #[.int .u64 a, .int .u32 b, .int .u32 c, .int .u32 d] 209 (0, 0)) := hW1 ▸ blk_new w _
  have hb1 : Below w.heap.size w W1 := hW1 ▸ bl_alloc (Below.refl _ w) _
  have hs1 : W1.heap.size = w.heap.size + 1 := by rw [hW1]; simp
  have h1 := h.below hb1
  have hflush := Lib.hid (flush_calls h1)
  have HF : Hid (∀ i, F i → i < w.heap.size) := h.lt
  have HX := Lib.hid hx1
  have HC : Hid (Chg F w W1) := Below.chg hb1 F
  clear h h1 hx1 hb1
  go_enter Tryz.func133, Tryz.ntmps133
  go_upto_region 1 with fail
  rw [← hW1]
  clear hW1
  go_wp2_with fail
  refine hflush.out.mono ?_
  rintro e w2 ⟨rfl, hd2⟩
  have HD2 := Lib.hid (hd2.after HC.out (fun i hi => .inl hi))
  clear hflush
  rcases (Decidable.em (D.flush.1 = 0)) with hf | hf
  case' inr =>
    have hfb : (D.flush.1 == 0) = false := by simpa using hf
    go_wp2
    go_ret
    exact ⟨ret_int (by unfold saveR; rw [if_pos hf]), by unfold saveR; rw [if_pos hf]; exact HD2.out⟩
  have hc0 := flush_cache hf
  have hW : Hid (saveR D ⟨a, b, c, d⟩ = if (D.flush.2.write (a % 2) (put ⟨a, b, c, d⟩)).1 ≠ 0 then D.flush.2.write (a % 2) (put ⟨a, b, c, d⟩) else (D.flush.2.write (a % 2) (put ⟨a, b, c, d⟩)).2.flush) := by
    show _ = _
    unfold saveR
    rw [if_neg (fun hne => hne hf)]
  generalize hE : D.flush.2 = E at *
  obtain ⟨F2, h2, ch2, s2⟩ := hd2
  have hx2 : w2.heap[w.heap.size]? = some (.cells #[.int .u64 a, .int .u32 b, .int .u32 c, .int .u32 d] 209 (0, 0)) := ch2.blk HX.out (fun hf => Nat.lt_irrefl _ (HF.out _ hf))
  have hnF : ¬ F2 w.heap.size := fun hf => (s2 _ hf).elim (fun q => Nat.lt_irrefl _ (HF.out _ q)) (fun q => by omega)
  have hlt2 := blk_lt hx2
  have cells : ∀ W : World, W.heap[w.heap.size]? = some (.cells #[.int .u64 a, .int .u32 b, .int .u32 c, .int .u32 d] 209 (0, 0)) → W.cell? ⟨w.heap.size, 0, none⟩ = some (.int .u64 a) ∧ W.cell? ⟨w.heap.size, 1, none⟩ = some (.int .u32 b) ∧ W.cell? ⟨w.heap.size, 2, none⟩ = some (.int .u32 c) ∧ W.cell? ⟨w.heap.size, 3, none⟩ = some (.int .u32 d) := fun W h => sup_cells h
  have HS1 : Hid (∀ W : World, Below w2.heap.size w2 W → W.cell? ⟨w.heap.size, 0, none⟩ = some (.int .u64 a) ∧ W.cell? ⟨w.heap.size, 1, none⟩ = some (.int .u32 b) ∧ W.cell? ⟨w.heap.size, 2, none⟩ = some (.int .u32 c) ∧ W.cell? ⟨w.heap.size, 3, none⟩ = some (.int .u32 d)) := fun W hW => cells W (blk_below hW hx2 hlt2)
  have HS2 : Hid (∀ (W w4 : World) (D' : Dv), Below w2.heap.size w2 W → Did F2 W w4 g D' → w4.cell? ⟨w.heap.size, 0, none⟩ = some (.int .u64 a) ∧ w4.cell? ⟨w.heap.size, 1, none⟩ = some (.int .u32 b) ∧ w4.cell? ⟨w.heap.size, 2, none⟩ = some (.int .u32 c) ∧ w4.cell? ⟨w.heap.size, 3, none⟩ = some (.int .u32 d)) := fun W w4 D' hW hd => by
    obtain ⟨F3, _, ch, _⟩ := hd
    exact cells w4 (ch.blk (blk_below hW hx2 hlt2) hnF)
  have HFin : Hid (∀ (W w4 : World) (D' : Dv), Below w2.heap.size w2 W → Did F2 W w4 g D' → Did F w w4 g D') := fun W w4 D' hW hd =>
    hd.after ((HC.out.trans (ch2.trans (Below.chg hW F) (fun i _ hi => hi)) (fun i _ hi => hi))) (fun i hi => (s2 i hi).imp_right (fun q => by omega))
  have HWr : Hid (∀ (W : World) (g3 : Nat), Below w2.heap.size w2 W → w2.heap.size ≤ g3 → Rd by1 1 W (some ⟨g3, 0, none⟩) (put ⟨a, b, c, d⟩) → Calls Tryz.prog 43 #[.pointer (some ⟨g, 0, none⟩), .int .i64 (a % 2), .slice (some ⟨g3, 0, none⟩) 32 32] W fun e w' => e = .returned (.int .i64 (E.write (a % 2) (put ⟨a, b, c, d⟩)).1) ∧ Did F2 W w' g (E.write (a % 2) (put ⟨a, b, c, d⟩)).2) := fun W g3 hW hg hr =>
    write_calls' (h2.below hW) (a % 2) _ 32 32 _ (put_len _) hr (put_byte _) (Nat.le_refl _) (fun _ x hx hf => by cases hx; have : g3 < w2.heap.size := h2.lt g3 hf; omega) (by rw [hc0]; simp)
  have hb0 : Hid (Below w2.heap.size w2 w2.drew) := (Below.refl _ w2).drew
  have ha0 : 0 ≤ a := hs.1.1
  have ha1 : 0 ≤ a % 2 := by omega
  have ha2 : IntKind.i64.wrap (a.tmod 2) = a % 2 := by rw [Int.tmod_eq_emod_of_nonneg ha0, IntKind.wrap_i64]; omega
  generalize hwr : E.write (a % 2) (put ⟨a, b, c, d⟩) = r at *
  obtain ⟨er, D3⟩ := r
  clear h2 ch2 s2 hx2 hnF cells HC hc0
  go_wp2_with fail
  go_cut [6] (fun s6 wx => s6 = .int .i64 er ∧ Did F w wx g D3)
  case first =>
    go_region_held3 (fun W => W.cell? ⟨w.heap.size, 0, none⟩ = some (.int .u64 a) ∧ W.cell? ⟨w.heap.size, 1, none⟩ = some (.int .u32 b) ∧ W.cell? ⟨w.heap.size, 2, none⟩ = some (.int .u32 c) ∧ W.cell? ⟨w.heap.size, 3, none⟩ = some (.int .u32 d))
      (first | exact HS1.out _ hb0.out | exact HS1.out _ B3.out | exact HS2.out _ _ _ B3.out D4.out)
      (first
        | (go_simp; go_at_call 171; with_reducible refine (put_calls' _ a b c d hs).mono ?_; rintro e w3 ⟨g3, rfl, hr3, hg3, hb3⟩; have R3 := Lib.hid hr3; have G3 := Lib.hid hg3; have B3 := Lib.hid (bl_then hb0.out hb0.out.size hb3); clear hr3 hg3 hb3)
        | (go_simp; go_at_call 43; with_reducible refine (HWr.out _ _ B3.out G3.out R3.out).mono ?_; rintro e w4 ⟨rfl, hd4⟩; have D4 := Lib.hid hd4; clear hd4))
    all_goals (go_wp2_with fail; go_meet; exact ⟨rfl, HFin.out _ _ _ B3.out D4.out⟩)
  case rest =>
    obtain ⟨rfl, hd3⟩ := hcut
    have HD3 := Lib.hid hd3
    clear hd3 HS1 HS2 HFin HWr
    rcases (Decidable.em (er = 0)) with he | he
    · subst he
      obtain ⟨F3, h3, ch3, s3⟩ := HD3.out
      have hflush := Lib.hid (flush_calls h3)
      have HC3 := Lib.hid ch3
      have S3 := Lib.hid s3
      clear h3 ch3 s3
      go_wp2_with fail
      refine hflush.out.mono ?_
      rintro e w5 ⟨rfl, hd5⟩
      have HD5 := Lib.hid (hd5.after HC3.out S3.out)
      clear hd5
      go_wp2
      go_ret
      exact ⟨ret_int (by rw [hW.out]; rfl), by rw [hW.out]; exact HD5.out⟩
    · have heb : (er == 0) = false := by simpa using he
      go_wp2
      go_ret
      exact ⟨ret_int (by rw [hW.out]; simp [he]), by rw [hW.out]; simpa [he] using HD3.out⟩
end
end Go.Proofs.YtikgplhcadomcaaGreat

namespace Go.Proofs.YtikgplhcadomcaaGreat
open Go.RowKit
set_option linter.unusedVariables false
set_option linter.unusedSimpArgs false

def loadStep (D : Dv) (out : Sup) (i : Int) : Sup := if isSup (D.readB i) ∧ out.epoch < (ofB (D.readB i)).epoch then ofB (D.readB i) else out
def outAt (D : Dv) : Nat → Sup
  | 0 => zeroSup
  | k + 1 => loadStep D (outAt D k) k
def loadR (D : Dv) : Sup × Int := if D.readE 0 ≠ 0 then (zeroSup, D.readE 0) else if D.readE 1 ≠ 0 then (zeroSup, D.readE 1) else if (outAt D 2).epoch = 0 then (zeroSup, 50) else (outAt D 2, 0)
theorem readB_byte (D : Dv) (p : Int) : byteL (D.readB p) := by
  unfold Dv.readB
  split
  · exact (D.now p).2.2
  · intro x hx; cases hx
theorem SupAt.froz {w : World} {p : Nat} {x : Sup} (h : SupAt w p x) (i : Nat) : w.frozen? ⟨p, i, none⟩ = false := blk_free h.1 i
theorem SupAt.put4 {w : World} {p : Nat} {x : Sup} (h : SupAt w p x) (y : Sup) : SupAt ((((w.setCell ⟨p, 0, none⟩ (.int .u64 y.epoch)).setCell ⟨p, 1, none⟩ (.int .u32 y.start)).setCell ⟨p, 2, none⟩ (.int .u32 y.pages)).setCell ⟨p, 3, none⟩ (.int .u32 y.size)) p y :=
  ⟨blk_set' (blk_set' (blk_set' (blk_set' h.1 0 _ rfl) 1 _ rfl) 2 _ rfl) 3 _ rfl, by have := h.2; simpa [World.setCell] using this⟩
theorem SupAt.far {w : World} {p q : Nat} {x : Sup} (h : SupAt w p x) (hne : p ≠ q) (i : Nat) (v : Value) : SupAt (w.setCell ⟨q, i, none⟩ v) p x := ⟨blk_far h.1 hne v, by have := h.2; simpa [World.setCell] using this⟩
theorem bl_put4 {B p : Nat} {w W : World} (h : Below B w W) (hp : B ≤ p) (a b c d : Value) : Below B w ((((W.setCell ⟨p, 0, none⟩ a).setCell ⟨p, 1, none⟩ b).setCell ⟨p, 2, none⟩ c).setCell ⟨p, 3, none⟩ d) := bl_set (bl_set (bl_set (bl_set h hp _) hp _) hp _) hp _
theorem supAt_row {w : World} {p : Nat} {x : Sup} (h : SupAt w p x) : rowOf w p = some #[.int .u64 x.epoch, .int .u32 x.start, .int .u32 x.pages, .int .u32 x.size] := rowOf_blk h.1
section
variable {w : World} {g : Nat} {F : Nat → Prop} {D : Dv}
set_option maxRecDepth 100000 in
set_option maxHeartbeats 4000000 in
theorem load_calls (h : DevAt w g F D) : Calls Tryz.prog 159 #[.pointer (some ⟨g, 0, none⟩)] w fun e w' => e = .returned (.tuple #[supV (loadR D).1, .int .i64 (loadR D).2]) ∧ Below w.heap.size w w' := by
  have HD := Lib.hid h
  clear h
  go_enter Tryz.func159, Tryz.ntmps159
  go_upto_region 2 with fail
  obtain ⟨W1, hW1⟩ : ∃ W, W = (w.alloc (.cells #[.int .u64 0, .int .u32 0, .int .u32 0, .int .u32 0] 209)).alloc (.cells #[.int .u64 0, .int .u32 0, .int .u32 0, .int .u32 0] 209) := ⟨_, rfl⟩
  rw [← hW1]
  have hb1 : Below w.heap.size w W1 := hW1 ▸ bl_alloc (bl_alloc (Below.refl _ w) _) _
  have hx0 : SupAt W1 w.heap.size zeroSup := hW1 ▸ (supAt_new w zeroSup _ rfl).alloc _
  have hx1 : SupAt W1 (w.heap.size + 1) zeroSup := hW1 ▸ supAt_new (w.alloc (.cells #[.int .u64 0, .int .u32 0, .int .u32 0, .int .u32 0] 209)) zeroSup _ (by simp)
  clear hW1
  go_wp2
  go_loopg [10] 2 (fun m i wr => ∃ k : Nat, i = .int .i64 k ∧ k + m = 2 ∧ Hid (Below w.heap.size w wr) ∧ Hid (SupAt wr w.heap.size zeroSup) ∧ Hid (SupAt wr (w.heap.size + 1) (outAt D k)) ∧ Hid (∀ j : Nat, j < k → D.readE j = 0))
  case atStart => exact ⟨0, rfl, rfl, hb1, hx0, hx1, fun j hj => by omega⟩
  case round =>
    obtain ⟨k, rfl, hk, hb, hz, ho, hE⟩ := hrel
    rcases Nat.lt_or_ge k 2 with hlt | hge
    · have i1 : (k : Int) < 2 := by omega
      go_wp2_with fail
      refine (read_calls (HD.out.below hb.out) k).mono ?_
      rintro e w2 ⟨A, c, rfl, hc, hr, -, hb2⟩
      have hz2 := Lib.hid (hz.out.below hb2)
      have ho2 := Lib.hid (ho.out.below hb2)
      have hB2 : Hid (Below w.heap.size w w2) := bl_then hb.out hb.out.size hb2
      have hR := Lib.hid hr
      clear hr hb2 hb hz ho
      rcases (Decidable.em (D.readE k = 0)) with he | he
      case' inr =>
        have heb : (D.readE k == 0) = false := by simpa using he
        obtain ⟨z0, z1, z2, z3⟩ := hz2.out.cells
        have zf := hz2.out.froz
        have hL : Hid (loadR D = (zeroSup, D.readE k)) := by
          show _ = _
          unfold loadR
          by_cases hk0 : k = 0
          · subst hk0
            have he0 : D.readE 0 ≠ 0 := he
            rw [if_pos he0]
            rfl
          · have : k = 1 := by omega
            subst this
            have he1 : D.readE 1 ≠ 0 := he
            rw [if_neg (fun hne => hne (hE.out 0 (by omega))), if_pos he1]
            rfl
        have hfin := Lib.hid (hz2.out.put4 zeroSup)
        go_wp2
        refine ret_row_tmp #[.int .u64 0, .int .u32 0, .int .u32 0, .int .u32 0] (g := w.heap.size) (by rfl) (by rfl) Tryz.underlying209 (by rfl) rfl (by kernel_rfl) (supAt_row hfin.out) ?_
        exact ⟨by rw [hL.out]; rfl, bl_put4 hB2.out (Nat.le_refl _) _ _ _ _⟩
      have hE2 : Hid (∀ j : Nat, j < k + 1 → D.readE j = 0) := fun j hj => by
        by_cases e : j = k
        · subst e; exact he
        · exact hE.out j (by omega)
      rw [he]
      have hrb := Lib.hid (readB_byte D k)
      have hstep : Hid (outAt D (k + 1) = if isSup (D.readB k) ∧ (outAt D k).epoch < (ofB (D.readB k)).epoch then ofB (D.readB k) else outAt D k) := rfl
      generalize D.readB k = bs at *
      go_wp2_with fail
      refine (of_calls' _ A _ c bs rfl hc hrb.out hR.out _ _ rfl rfl).mono ?_
      rintro e w3 ⟨rfl, hb3⟩
      have hz3 := Lib.hid (hz2.out.below hb3)
      have ho3 := ho2.out.below hb3
      have hB3 : Hid (Below w.heap.size w w3) := bl_then hB2.out hB2.out.size hb3
      obtain ⟨x, hx⟩ : ∃ x, ofB bs = x := ⟨_, rfl⟩
      obtain ⟨y, hy⟩ : ∃ y, outAt D k = y := ⟨_, rfl⟩
      obtain ⟨q, hq⟩ : ∃ q, decide (isSup bs) = q := ⟨_, rfl⟩
      rw [hx, hq]
      rw [hy] at ho3
      have hst : Hid (outAt D (k + 1) = if q = true ∧ y.epoch < x.epoch then x else y) := by
        show _ = _
        rw [hstep.out, hx, hy, ← hq]
        simp
      have O3 := Lib.hid ho3
      have hlt3 := ho3.2
      obtain ⟨o0, o1, o2, o3⟩ := (ho3.alloc (.cells #[.int .u64 x.epoch, .int .u32 x.start, .int .u32 x.pages, .int .u32 x.size] 209)).cells
      have of := (ho3.alloc (.cells #[.int .u64 x.epoch, .int .u32 x.start, .int .u32 x.pages, .int .u32 x.size] 209)).froz
      obtain ⟨p0, p1, p2, p3⟩ := ho3.cells
      have pf := ho3.froz
      have hne : w3.heap.size ≠ w.heap.size + 1 := by omega
      have hz4 := Lib.hid (hz3.out.alloc (.cells #[.int .u64 x.epoch, .int .u32 x.start, .int .u32 x.pages, .int .u32 x.size] 209))
      have hO4 := Lib.hid (ho3.alloc (.cells #[.int .u64 x.epoch, .int .u32 x.start, .int .u32 x.pages, .int .u32 x.size] 209))
      have hB4 : Hid (Below w.heap.size w (w3.alloc (.cells #[.int .u64 x.epoch, .int .u32 x.start, .int .u32 x.pages, .int .u32 x.size] 209))) := hB3.out.alloc hB3.out.size _
      clear ho3 hb3 hz2 ho2 hB2 hstep hx hy hq hR hrb hc
      rcases q with _ | _
      · have ht : Hid (outAt D (k + 1) = y) := by show _ = _; rw [hst.out]; simp
        go_wp2
        go_roundg (gk - 1)
        case measure => omega
        case rel => exact ⟨k + 1, by go_num, by omega, hB4, hz4, by show SupAt _ _ _; rw [ht.out]; exact hO4.out, hE2⟩
      · rcases (Decidable.em (y.epoch < x.epoch)) with hl | hl
        · have ht : Hid (outAt D (k + 1) = x) := by show _ = _; rw [hst.out]; simp [hl]
          have hfin := Lib.hid ((O3.out.put4 x).alloc (.cells #[.int .u64 x.epoch, .int .u32 x.start, .int .u32 x.pages, .int .u32 x.size] 209))
          go_wp2
          go_roundg (gk - 1)
          case measure => omega
          case rel =>
            have hz5 : w.heap.size ≠ w.heap.size + 1 := by omega
            exact ⟨k + 1, by go_num, by omega, (bl_put4 hB3.out (by omega) _ _ _ _).alloc (by have := hB3.out.size; simpa [World.setCell] using this) _, ((((hz3.out.far hz5 _ _).far hz5 _ _).far hz5 _ _).far hz5 _ _).alloc _, by show SupAt _ _ _; rw [ht.out]; exact hfin.out, hE2⟩
        · have ht : Hid (outAt D (k + 1) = y) := by show _ = _; rw [hst.out]; simp [hl]
          go_wp2
          go_roundg (gk - 1)
          case measure => omega
          case rel => exact ⟨k + 1, by go_num, by omega, hB4, hz4, by show SupAt _ _ _; rw [ht.out]; exact hO4.out, hE2⟩
    · have hk2 : k = 2 := by omega
      subst hk2
      obtain ⟨z0, z1, z2, z3⟩ := hz.out.cells
      have zf := hz.out.froz
      obtain ⟨o0, o1, o2, o3⟩ := ho.out.cells
      have hL : Hid (loadR D = if (outAt D 2).epoch = 0 then (zeroSup, 50) else (outAt D 2, 0)) := by
        show _ = _
        unfold loadR
        rw [if_neg (fun hne => hne (hE.out 0 (by omega))), if_neg (fun hne => hne (hE.out 1 (by omega)))]
      generalize outAt D 2 = y at *
      rcases (Decidable.em (y.epoch = 0)) with hy | hy
      · have hyb : (y.epoch == 0) = true := by simpa using hy
        have hfin := Lib.hid (hz.out.put4 zeroSup)
        go_wp2
        refine ret_row_tmp #[.int .u64 0, .int .u32 0, .int .u32 0, .int .u32 0] (g := w.heap.size) (by rfl) (by rfl) Tryz.underlying209 (by rfl) rfl (by kernel_rfl) (supAt_row hfin.out) ?_
        exact ⟨by rw [hL.out, if_pos hy]; rfl, bl_put4 hb.out (Nat.le_refl _) _ _ _ _⟩
      · have hyb : (y.epoch == 0) = false := by simpa using hy
        have hfin := Lib.hid (hz.out.put4 y)
        go_wp2
        refine ret_row_tmp #[.int .u64 y.epoch, .int .u32 y.start, .int .u32 y.pages, .int .u32 y.size] (g := w.heap.size) (by rfl) (by rfl) Tryz.underlying209 (by rfl) rfl (by kernel_rfl) (supAt_row hfin.out) ?_
        exact ⟨by rw [hL.out, if_neg hy]; rfl, bl_put4 hb.out (Nat.le_refl _) _ _ _ _⟩
end
end Go.Proofs.YtikgplhcadomcaaGreat

namespace Go.Proofs.YtikgplhcadomcaaGreat
open Go.RowKit
set_option linter.unusedVariables false
set_option linter.unusedSimpArgs false

/-! ### Sums -/
def fnvStep (h : Nat) (x : UInt8) : Nat := (h ^^^ x.toNat) * 1099511628211 % 18446744073709551616
def fnvMore (h : Nat) (l : List UInt8) : Nat := l.foldl fnvStep h
def fnvSum (s : Str) : Nat := fnvMore 14695981039346656037 s.data.toList
def fnvFold (h : Nat) : Nat := (h / 4294967296) ^^^ (h % 4294967296)

theorem fnvStep_lt (h : Nat) (x : UInt8) : fnvStep h x < 18446744073709551616 := by
  unfold fnvStep
  generalize (h ^^^ x.toNat) * 1099511628211 = y
  omega
theorem fnv_step (v : Nat) (hv : v < 18446744073709551616) (x : UInt8) : IntKind.u64.wrap (bits BinOp.xor IntKind.u64 (v : Int) (IntKind.u64.wrap (x.toNat : Int)) * 1099511628211) = ((fnvStep v x : Nat) : Int) := by
  have hx := x.toNat_lt
  have e1 : IntKind.u64.wrap (x.toNat : Int) = ((x.toNat : Nat) : Int) := by rw [IntKind.wrap_u64]; omega
  rw [e1, bits_xor_u64_nat v x.toNat hv (by omega), IntKind.wrap_u64]
  unfold fnvStep
  generalize v ^^^ x.toNat = y
  omega
theorem fnvMore_lt (h : Nat) (hh : h < 18446744073709551616) (l : List UInt8) : fnvMore h l < 18446744073709551616 := by
  unfold fnvMore
  induction l generalizing h with
  | nil => exact hh
  | cons x l ih =>
    rw [List.foldl_cons]
    exact ih _ (fnvStep_lt h x)
theorem fnvMore_take (h : Nat) (l : List UInt8) (k : Nat) (x : UInt8) (hx : l[k]? = some x) : fnvMore h (l.take (k + 1)) = fnvStep (fnvMore h (l.take k)) x := by
  unfold fnvMore
  rw [List.take_add_one, hx, Option.toList_some, List.foldl_append, List.foldl_cons, List.foldl_nil]
set_option maxRecDepth 100000 in
set_option maxHeartbeats 1000000 in
theorem fnvMore_calls (w : World) (h : Nat) (hh : h < 18446744073709551616) (s : Str) (hs : s.size ≤ 9223372036854775807) :
    Calls Tryz.prog 105 #[.int .u64 (h : Int), .string s] w fun e w' => e = .returned (.int .u64 (fnvMore h s.data.toList : Int)) ∧ w = w' := by
  have HL : Hid (∀ k, fnvMore h (s.data.toList.take k) < 18446744073709551616) := fun k => fnvMore_lt h hh _
  go_enter Tryz.func105, Tryz.ntmps105
  go_wp2
  go_loopg [0, 8] s.size (fun n v i wr => ∃ k : Nat, v = .int .u64 (fnvMore h (s.data.toList.take k) : Int) ∧ i = .int .i64 k ∧ k + n = s.size ∧ w = wr)
  case atStart => exact ⟨0, rfl, rfl, by omega, rfl⟩
  case round =>
    obtain ⟨k, rfl, rfl, hk, rfl⟩ := hrel
    by_cases hlt : k < s.size
    · obtain ⟨n', hn'⟩ : ∃ n', gk = n' + 1 := ⟨gk - 1, by omega⟩
      subst hn'
      have hx : s.data.toList[k]? = some s.data[k] := by simp
      have hst := Lib.hid (fnvMore_take h _ k _ hx)
      have hL := Lib.hid (HL.out k)
      generalize fnvMore h (s.data.toList.take k) = v at *
      go_wp2
      go_roundg n'
      case measure => omega
      case rel => refine ⟨k + 1, ?_, by go_num, by omega, rfl⟩; rw [hst.out]; exact congrArg (Value.int .u64) (fnv_step v hL.out s.data[k])
    · have hk' : k = s.size := by omega
      subst hk'
      have he : s.data.toList.take s.size = s.data.toList := List.take_of_length_le (Nat.le_of_eq rfl)
      rw [he]
      go_wp2
      go_ret
      exact ⟨rfl, rfl⟩
theorem fnvSum_lt (s : Str) : fnvSum s < 18446744073709551616 := fnvMore_lt _ (by omega) _
set_option maxRecDepth 100000 in
theorem fnvSum_calls (w : World) (s : Str) (hs : s.size ≤ 9223372036854775807) :
    Calls Tryz.prog 90 #[.string s] w fun e w' => e = .returned (.int .u64 (fnvSum s : Int)) ∧ w = w' := by
  go_enter Tryz.func90, Tryz.ntmps90
  go_wp2_with fail
  refine (fnvMore_calls _ 14695981039346656037 (by omega) s hs).mono ?_
  rintro e w1 ⟨rfl, rfl⟩
  have hd : fnvMore 14695981039346656037 s.data.toList = fnvSum s := rfl
  rw [hd]
  go_wp2
  go_ret
  exact ⟨rfl, rfl⟩
theorem bits_xor_u32_nat (a b : Nat) (ha : a < 4294967296) (hb : b < 4294967296) : bits .xor .u32 (a : Int) (b : Int) = ((a ^^^ b : Nat) : Int) := by
  have hx : a ^^^ b < 2 ^ 32 := Nat.xor_lt_two_pow (by omega) (by omega)
  have h1 : (BitVec.ofInt 32 (a : Int)).toNat = a := by
    rw [BitVec.ofInt_natCast, BitVec.toNat_ofNat]; exact Nat.mod_eq_of_lt (by omega)
  have h2 : (BitVec.ofInt 32 (b : Int)).toNat = b := by
    rw [BitVec.ofInt_natCast, BitVec.toNat_ofNat]; exact Nat.mod_eq_of_lt (by omega)
  show IntKind.u32.wrap ((BitVec.ofInt 32 (a : Int) ^^^ BitVec.ofInt 32 (b : Int)).toNat : Int) = _
  rw [BitVec.toNat_xor, h1, h2]
  have e : ∀ n : Int, IntKind.u32.wrap n = n % 4294967296 := fun n => by simp [IntKind.wrap, IntKind.bits, IntKind.signed]
  rw [e]
  omega
theorem fnvFold_lt {h : Nat} (hh : h < 18446744073709551616) : fnvFold h < 4294967296 := by
  unfold fnvFold
  exact Nat.xor_lt_two_pow (n := 32) (by omega) (by omega)
set_option maxRecDepth 100000 in
theorem fnvFold_calls (w : World) (h : Nat) (hh : h < 18446744073709551616) :
    Calls Tryz.prog 216 #[.int .u64 (h : Int)] w fun e w' => e = .returned (.int .u32 (fnvFold h : Int)) ∧ w = w' := by
  have e0 : bits .xor .u32 ((h / 4294967296 : Nat) : Int) ((h % 4294967296 : Nat) : Int) = (fnvFold h : Int) := bits_xor_u32_nat _ _ (by omega) (by omega)
  go_enter Tryz.func216, Tryz.ntmps216
  go_wp2
  go_ret
  refine ⟨?_, rfl⟩
  have e1 : ((h / 4294967296 : Nat) : Int) = (h : Int) / 4294967296 := by omega
  have e2 : ((h % 4294967296 : Nat) : Int) = (h : Int) % 4294967296 := by omega
  rw [e1, e2] at e0
  exact congrArg (fun z => Ending.returned (Value.int .u32 z)) e0
end Go.Proofs.YtikgplhcadomcaaGreat

namespace Go.Proofs.YtikgplhcadomcaaGreat
open Go.RowKit
set_option linter.unusedVariables false
set_option linter.unusedSimpArgs false

/-! ### Pages -/
def needP (n : Int) : Int := if n < 0 ∨ 131072 < n then 0 else max 1 ((n + 123) / 124)
def padL (b : List Int) : List Int := b.take 124 ++ List.replicate (124 - b.length) 0
def sumL (xs : List Int) : List Int := (List.range 4).map fun i => ((fnvFold (fnvSum (strOfNums xs)) / 256 ^ (3 - i) % 256 : Nat) : Int)
def pageL (b : List Int) : List Int := sumL (padL b) ++ padL b
def cut32 (p : List Int) : List (List Int) := (List.range 4).map fun k => (p.drop (k * 32)).take 32
def pieceL (b : List Int) (i : Nat) : List Int := (b.drop (i * 124)).take 124
def textSecs (b : List Int) : List (List Int) := (List.range (needP b.length).toNat).flatMap fun i => cut32 (pageL (pieceL b i))


set_option maxRecDepth 100000 in
theorem need_calls (w : World) (n : Int) (h0 : -9223372036854775808 ≤ n) (h1 : n ≤ 9223372036854775807) :
    Calls Tryz.prog 125 #[.int .i64 n] w fun e w' => e = .returned (.int .i64 (needP n)) ∧ w = w' := by
  by_cases hn : n < 0
  · have hv : Hid (needP n = 0) := if_pos (.inl hn)
    go_enter Tryz.func125, Tryz.ntmps125
    go_wp2
    go_ret
    exact ⟨by rw [hv.out]; rfl, rfl⟩
  · have h2 : 0 ≤ n := by omega
    by_cases hb : 131072 < n
    · have hv : Hid (needP n = 0) := if_pos (.inr hb)
      clear hn
      go_enter Tryz.func125, Tryz.ntmps125
      go_wp2
      go_ret
      exact ⟨by rw [hv.out]; rfl, rfl⟩
    · have h3 : n ≤ 131072 := by omega
      have hv : Hid (needP n = max 1 ((n + 123) / 124)) := if_neg (by omega)
      clear hn hb
      go_enter Tryz.func125, Tryz.ntmps125
      go_wp2
      all_goals
        go_ret
        exact ⟨by rw [hv.out]; exact congrArg (fun z => Ending.returned (Value.int .i64 z)) (by omega), rfl⟩
end Go.Proofs.YtikgplhcadomcaaGreat

namespace Go.Proofs.YtikgplhcadomcaaGreat
open Go.RowKit
set_option linter.unusedVariables false
set_option linter.unusedSimpArgs false

/-! ### Texts on a device -/
def wrRun (D : Dv) (p : Int) : List (List Int) → Int × Dv
  | [] => (0, D)
  | s :: l => if (D.write p s).1 ≠ 0 then D.write p s else wrRun (D.write p s).2 (p + 1) l
def writeT (D : Dv) (start : Int) (b : List Int) : Int × Dv := if needP b.length = 0 then (2, D) else wrRun D (start * 4) (textSecs b)
def consR (a : List Int) (r : List Int × Int) : List Int × Int := if r.2 ≠ 0 then ([], r.2) else (a ++ r.1, 0)
def rdRun (D : Dv) (p : Int) : Nat → List Int × Int
  | 0 => ([], 0)
  | k + 1 => if D.readE p ≠ 0 then ([], D.readE p) else consR (D.readB p) (rdRun D (p + 1) k)
def readPg (D : Dv) (pg : Int) : List Int × Int :=
  if (rdRun D (pg * 4) 4).2 ≠ 0 then ([], (rdRun D (pg * 4) 4).2) else if pageL ((rdRun D (pg * 4) 4).1.drop 4) = (rdRun D (pg * 4) 4).1 then ((rdRun D (pg * 4) 4).1.drop 4, 0) else ([], 60)
def rdPages (D : Dv) (pg : Int) : Nat → List Int × Int
  | 0 => ([], 0)
  | k + 1 => if (readPg D pg).2 ≠ 0 then ([], (readPg D pg).2) else consR (readPg D pg).1 (rdPages D (pg + 1) k)
def readT (D : Dv) (start size : Int) : List Int × Int :=
  if needP size = 0 then ([], 1) else if (rdPages D start (needP size).toNat).2 ≠ 0 then ([], (rdPages D start (needP size).toNat).2) else ((rdPages D start (needP size).toNat).1.take size.toNat, 0)
theorem consR_app (a b : List Int) (r : List Int × Int) : consR a (consR b r) = consR (a ++ b) r := by
  unfold consR
  split
  · simp_all
  · simp_all
theorem consR_nil {r : List Int × Int} (h : r.2 ≠ 0 → r.1 = []) : consR [] r = r := by
  unfold consR
  obtain ⟨x, y⟩ := r
  by_cases hy : y = 0
  · simp [hy]
  · simp_all

/-! ### The pager -/
structure Pg where
  s : Sup
  fr : Fr
  put : List Span
  drop : List Span
  ended : Bool
def Sup.span (s : Sup) : Span := ⟨s.start, s.pages⟩
def formatR (D : Dv) : Int × Dv :=
  if D.n / 4 < 2 then (70, D) else if (D.write 0 sec0.1).1 ≠ 0 then D.write 0 sec0.1 else if ((D.write 0 sec0.1).2.write 1 sec0.1).1 ≠ 0 then (D.write 0 sec0.1).2.write 1 sec0.1
    else saveR ((D.write 0 sec0.1).2.write 1 sec0.1).2 ⟨1, 0, 0, 0⟩
/-- What is opened: the pager, its root's bytes; or an error. -/
def openR (D : Dv) : Option (Pg × List Int) × Int :=
  let s := (loadR D).1
  if (loadR D).2 ≠ 0 then (none, (loadR D).2)
  else if s.pages = 0 ∧ s.start = 0 ∧ s.size = 0 then (some (⟨s, Fr.new 1 (D.n / 4), [], [], false⟩, []), 0)
  else if 131072 < s.size ∨ s.pages ≠ needP s.size ∨ ((Fr.new 1 (D.n / 4)).claim s.span).1 = false then (none, 50)
  else if (readT D s.start s.size).2 ≠ 0 then (none, (readT D s.start s.size).2)
  else (some (⟨s, ((Fr.new 1 (D.n / 4)).claim s.span).2, [], [], false⟩, (readT D s.start s.size).1), 0)
def span0 : Span := ⟨0, 0⟩
def layR (D : Dv) (P : Pg) (b : List Int) : (Span × Int) × Dv × Pg :=
  let n := needP b.length
  if n = 0 then ((span0, 2), D, P)
  else if (P.fr.take n).1.2 = false then ((span0, 70), D, P)
  else if (writeT D (P.fr.take n).1.1 b).1 ≠ 0 then ((span0, 40), (writeT D (P.fr.take n).1.1 b).2, { P with fr := (P.fr.take n).2, ended := true })
  else ((⟨(P.fr.take n).1.1, n⟩, 0), (writeT D (P.fr.take n).1.1 b).2, { P with fr := (P.fr.take n).2 })
def putR (D : Dv) (P : Pg) (b : List Int) : (Span × Int) × Dv × Pg :=
  if P.ended then ((span0, 40), D, P)
  else if (layR D P b).1.2 = 0 then ((layR D P b).1, (layR D P b).2.1, { (layR D P b).2.2 with put := (layR D P b).2.2.put ++ [(layR D P b).1.1] })
  else layR D P b
end Go.Proofs.YtikgplhcadomcaaGreat

namespace Go.Proofs.YtikgplhcadomcaaGreat
open Go.RowKit
set_option linter.unusedVariables false
set_option linter.unusedSimpArgs false

def kv (K : List (Int × Sec)) (j : Int) : Sec := (look K j).getD sec0
def Nd (K : List (Int × Sec)) : Prop := (K.map (·.1)).Nodup
theorem keepL_nd {K : List (Int × Sec)} (h : Nd K) (x : Wr) (n : Nat) : Nd (keepL K x n) := by
  unfold keepL
  split
  · exact del_nodup h _
  · exact upd_nodup h _ _
theorem keepL_kv {K : List (Int × Sec)} (h : Nd K) (x : Wr) (n : Nat) (j : Int) : kv (keepL K x n) j = if j = x.pos then overS n x.b (kv K x.pos) else kv K j := by
  unfold keepL
  split
  · rename_i hz
    unfold kv
    rw [look_del h]
    by_cases hj : j = x.pos
    · rw [if_pos hj, if_pos hj, hz]
      rfl
    · rw [if_neg hj, if_neg hj]
  · unfold kv
    rw [look_upd h]
    by_cases hj : j = x.pos
    · rw [if_pos hj, if_pos hj]
      rfl
    · rw [if_neg hj, if_neg hj]
theorem overS_full (a b : Sec) : overS 32 a b = a := by
  apply Subtype.ext
  show a.1.take 32 ++ b.1.drop 32 = a.1
  rw [List.take_of_length_le (by rw [a.2.1]; omega), List.drop_of_length_le (by rw [b.2.1]; omega), List.append_nil]
/-- All that is in a cache came of deeds. -/
def From (l : List Deed) (C : List Wr) : Prop := ∀ x ∈ C, ∃ y ∈ l, y.pos = x.pos ∧ y.b = x.b.1
/-- Neither dead nor armed, and no sector is bad. -/
def Calm (D : Dv) : Prop := D.dead = false ∧ D.armed = false ∧ D.bad = []
theorem calm_act {D : Dv} (h : Calm D) : D.act = (true, D) := by
  unfold Dv.act
  simp [h.1, h.2.1]
theorem calm_write {D : Dv} (h : Calm D) (p : Int) (b : List Int) : Calm (D.write p b).2 ∧ (D.write p b).2.kept = D.kept ∧ (D.write p b).2.n = D.n ∧ ((D.write p b).2.cache = D.cache ∨ ∃ s : Sec, s.1 = b ∧ (D.write p b).2.cache = D.cache ++ [⟨p, s⟩]) := by
  unfold Dv.write
  rw [if_neg (by simp [h.1]), calm_act h]
  split
  · rename_i hb
    exact ⟨h, rfl, rfl, .inr ⟨⟨b, hb.2⟩, rfl, rfl⟩⟩
  · exact ⟨h, rfl, rfl, .inl rfl⟩
theorem calm_flush {D : Dv} (h : Calm D) : D.flush.1 = 0 ∧ Calm D.flush.2 ∧ D.flush.2.cache = [] ∧ D.flush.2.n = D.n := by
  unfold Dv.flush
  rw [calm_act h]
  exact ⟨rfl, h, rfl, rfl⟩
theorem calm_read {D : Dv} (h : Calm D) (hc : D.cache = []) (i : Int) (h0 : 0 ≤ i) (h1 : i < D.n) : D.readE i = 0 ∧ D.readB i = (kv D.kept i).1 := by
  have hE : D.readE i = 0 := by
    unfold Dv.readE Dv.badAt Dv.has
    rw [h.1, h.2.2]
    simp [h0, h1, look, at?]
  refine ⟨hE, ?_⟩
  rw [readB_now hE]
  unfold Dv.now Dv.base kv
  rw [hc]
  rfl
end Go.Proofs.YtikgplhcadomcaaGreat

namespace Go.Proofs.YtikgplhcadomcaaGreat
open Go.RowKit
set_option linter.unusedVariables false
set_option linter.unusedSimpArgs false

/-- A super's sector. -/
def supSec (s : Sup) : Sec := ⟨put s, put_len s, put_byte s⟩
def step (out : Sup) (b : List Int) : Sup := if isSup b ∧ out.epoch < (ofB b).epoch then ofB b else out
def ld (c0 c1 : List Int) : Sup := step (step zeroSup c0) c1
theorem not_sup {b : List Int} (h : ¬ isSup b) (out : Sup) : step out b = out := by
  unfold step
  rw [if_neg (fun q => h q.1)]
theorem ld_win0 {c0 c1 : List Int} {x : Sup} (h : isSup c0) (hx : ofB c0 = x) (h0 : 0 < x.epoch) (h1 : isSup c1 → (ofB c1).epoch < x.epoch) : ld c0 c1 = x := by
  unfold ld
  have e : step zeroSup c0 = x := by
    unfold step
    rw [if_pos ⟨h, by rw [hx]; exact h0⟩, hx]
  rw [e]
  unfold step
  rw [if_neg (fun q => by have := h1 q.1; omega)]
theorem ld_win1 {c0 c1 : List Int} {x : Sup} (h : isSup c1) (hx : ofB c1 = x) (h0 : 0 < x.epoch) (h1 : isSup c0 → (ofB c0).epoch < x.epoch) : ld c0 c1 = x := by
  unfold ld
  have e : (step zeroSup c0).epoch < x.epoch := by
    unfold step
    split
    · rename_i q
      exact h1 q.1
    · exact h0
  rw [step, if_pos ⟨h, by rw [hx]; exact e⟩, hx]
theorem ld_none {c0 c1 : List Int} (h0 : ¬ isSup c0) (h1 : ¬ isSup c1) : ld c0 c1 = zeroSup := by
  unfold ld
  rw [not_sup h0, not_sup h1]
/-- Of a sector x that is a super, and another one, at either side. -/
theorem ld_win {a : Int} (ha : a = 0 ∨ a = 1) {c : Int → List Int} {x : Sup} (h : isSup (c a)) (hx : ofB (c a) = x) (h0 : 0 < x.epoch) (h1 : isSup (c (1 - a)) → (ofB (c (1 - a))).epoch < x.epoch) : ld (c 0) (c 1) = x := by
  rcases ha with rfl | rfl
  · exact ld_win0 h hx h0 h1
  · exact ld_win1 h hx h0 h1
theorem zero_not : ¬ isSup sec0.1 := by
  intro h
  exact h.2.1 (by decide)
end Go.Proofs.YtikgplhcadomcaaGreat

namespace Go.Proofs.YtikgplhcadomcaaGreat
open Go.RowKit
set_option linter.unusedVariables false
set_option linter.unusedSimpArgs false

/-- A device of two sectors that nothing is the matter with, all of it kept. -/
def Two (D : Dv) : Prop := Calm D ∧ D.cache = [] ∧ D.n = 2
def wrOf (s : Sup) : Wr := ⟨s.epoch % 2, supSec s⟩
/-! ### What is loaded -/
def loadK (K : List (Int × Sec)) : Sup × Int := if (ld (kv K 0).1 (kv K 1).1).epoch = 0 then (zeroSup, 50) else (ld (kv K 0).1 (kv K 1).1, 0)
/-- The sector of epoch j. -/
def secO (xs : Nat → Sup) : Nat → Sec
  | 0 => sec0
  | j + 1 => supSec (xs j)
def Good (xs : Nat → Sup) (m : Nat) : Prop := ∀ j, j < m → (xs j).ok ∧ (xs j).epoch = j + 1
/-- Behind m saves. -/
def Saved (xs : Nat → Sup) (m : Nat) (K : List (Int × Sec)) : Prop := Nd K ∧ kv K ((m : Int) % 2) = secO xs m ∧ kv K (1 - (m : Int) % 2) = secO xs (m - 1)
theorem saved_zero {xs : Nat → Sup} : Saved xs 0 [] := ⟨List.nodup_nil, rfl, rfl⟩
theorem mod2 (m : Nat) : ((m : Int) % 2 = 0 ∨ (m : Int) % 2 = 1) := by omega
/-- What a sector of an epoch is. -/
theorem secO_sup {xs : Nat → Sup} {m j : Nat} (hg : Good xs m) (hj : j ≤ m) : (j = 0 → ¬ isSup (secO xs j).1) ∧ (0 < j → isSup (secO xs j).1 ∧ ofB (secO xs j).1 = xs (j - 1) ∧ (xs (j - 1)).epoch = j) := by
  cases j with
  | zero => exact ⟨fun _ => zero_not, fun h => by omega⟩
  | succ j =>
    obtain ⟨g1, g2⟩ := hg j (by omega)
    exact ⟨fun h => by omega, fun _ => ⟨(isSup_put _ g1).2 (by omega), ofB_put _ g1 (by omega), by simpa using g2⟩⟩
theorem load_with {xs : Nat → Sup} {m : Nat} {K : List (Int × Sec)} (hg : Good xs m) (h1 : kv K ((m : Int) % 2) = secO xs m) (h2 : isSup (kv K (1 - (m : Int) % 2)).1 → (ofB (kv K (1 - (m : Int) % 2)).1).epoch < m) :
    loadK K = if m = 0 then (zeroSup, 50) else (xs (m - 1), 0) := by
  obtain ⟨s1, s2⟩ := secO_sup hg (Nat.le_refl m)
  by_cases hm : m = 0
  · rw [if_pos hm]
    subst hm
    have e0 : ¬ isSup (kv K 0).1 := by
      have := s1 rfl
      rw [← h1] at this
      exact this
    have e1 : ¬ isSup (kv K 1).1 := fun q => by
      have := h2 q
      have h3 : 0 ≤ (ofB (kv K 1).1).epoch := by
        have h5 := (supOf_ok (kv K 1).2.2 (kv K 1).2.1).1.1
        unfold ofB
        split
        · exact h5
        · exact h5
      have h4 : (ofB (kv K 1).1).epoch < 0 := this
      omega
    unfold loadK
    rw [ld_none e0 e1]
    rfl
  · rw [if_neg hm]
    obtain ⟨q1, q2, q3⟩ := s2 (by omega)
    have e := ld_win (a := (m : Int) % 2) (mod2 m) (c := fun j => (kv K j).1) (x := xs (m - 1)) (by show isSup (kv K _).1; rw [h1]; exact q1) (by show ofB (kv K _).1 = _; rw [h1]; exact q2) (by omega) (fun q => by have := h2 q; omega)
    unfold loadK
    rw [show ld (kv K 0).1 (kv K 1).1 = xs (m - 1) from e, if_neg (by omega)]
theorem load_saved {xs : Nat → Sup} {m : Nat} {K : List (Int × Sec)} (hg : Good xs m) (h : Saved xs m K) : loadK K = if m = 0 then (zeroSup, 50) else (xs (m - 1), 0) := by
  refine load_with hg h.2.1 (fun q => ?_)
  rw [h.2.2] at q ⊢
  obtain ⟨s1, s2⟩ := secO_sup hg (Nat.sub_le m 1)
  by_cases hm : m - 1 = 0
  · exact absurd q (s1 hm)
  · obtain ⟨_, q2, q3⟩ := s2 (by omega)
    rw [q2, q3]
    omega
end Go.Proofs.YtikgplhcadomcaaGreat
