/- super.Put -/
import Derived.Test.YtglpckdmiohciaaSink
namespace Go.Proofs.Ytglpckdmiohciaa
open Go.RowKit
set_option linter.unusedVariables false
set_option linter.unusedSimpArgs false

structure Sup where
  epoch : Int
  start : Int
  pages : Int
  size : Int
def supV (s : Sup) : Value := .agg #[.int .u64 s.epoch, .int .u32 s.start, .int .u32 s.pages, .int .u32 s.size]
def Sup.ok (s : Sup) : Prop := (0 ≤ s.epoch ∧ s.epoch < 18446744073709551616) ∧ (0 ≤ s.start ∧ s.start < 4294967296) ∧ (0 ≤ s.pages ∧ s.pages < 4294967296) ∧ (0 ≤ s.size ∧ s.size < 4294967296)
def pieces (s : Sup) : List (List Int) := [be s.epoch 8, be s.start 4, be s.pages 4, be s.size 4, magic, be s.epoch 8]
def putAt (s : Sup) (k : Nat) : List Int := ((pieces s).take k).flatten
def put (s : Sup) : List Int := be s.epoch 8 ++ be s.start 4 ++ be s.pages 4 ++ be s.size 4 ++ magic ++ be s.epoch 8
def fnAt (k : Nat) : Nat := [81, 82, 82, 82, 83, 81].getD k 0
def numAt (s : Sup) (k : Nat) : Int := [s.epoch, s.start, s.pages, s.size, 0, s.epoch].getD k 0
def lenAt (k : Nat) : Nat := [0, 8, 12, 16, 20, 24, 32].getD k 0
def zeros : List Int := List.replicate 32 0
theorem over_over (bs l m : List Int) (a b : Nat) (h : a + l.length + m.length ≤ bs.length) (hb : b = a + l.length) : over (over bs a l) b m = over bs a (l ++ m) := by
  subst hb
  apply List.ext_getElem?
  intro i
  rw [over_get _ _ _ _ (by rw [over_len _ _ _ (by omega)]; omega), over_get _ _ _ _ (by omega), over_get _ _ _ _ (by omega)]
  by_cases h1 : i < a
  · simp [h1, show i < a + l.length from by omega]
  · by_cases h2 : i < a + l.length
    · rw [if_pos h2, if_neg h1, if_pos (by omega), if_neg h1, if_pos (by simp; omega), List.getElem?_append_left (by omega)]
    · rw [if_neg h2, if_neg h1, if_neg h1]
      by_cases h3 : i - (a + l.length) < m.length
      · rw [if_pos h3, if_pos (by simp; omega), List.getElem?_append_right (by omega)]
        congr 1; omega
      · rw [if_neg h3, if_neg (by omega), if_neg (by simp; omega)]
theorem over_all (bs l : List Int) (h : l.length = bs.length) : over bs 0 l = l := by simp [over, h]
theorem put_all (s : Sup) : putAt s 6 = put s := by simp [putAt, pieces, put, List.append_assoc]
theorem put_len (s : Sup) : (put s).length = 32 := by simp [put, be_len, magic]
theorem putAt_len (s : Sup) : ∀ k, k ≤ 6 → (putAt s k).length = lenAt k
  | 0, _ => rfl
  | 1, _ => by simp [putAt, pieces, be_len, lenAt]
  | 2, _ => by simp [putAt, pieces, be_len, lenAt]
  | 3, _ => by simp [putAt, pieces, be_len, lenAt]
  | 4, _ => by simp [putAt, pieces, be_len, lenAt]
  | 5, _ => by simp [putAt, pieces, be_len, lenAt, magic]
  | 6, _ => by simp [putAt, pieces, be_len, lenAt, magic]
  | k + 7, h => by omega
def SnkP (w : World) (g : Nat) (s : Sup) (k : Nat) : Prop := Snk w g (over zeros 0 (putAt s k)) (lenAt k)
theorem over_put (s : Sup) (k : Nat) (l : List Int) (hk : k < 6) (hl : (pieces s)[k]? = some l) : over (over zeros 0 (putAt s k)) (lenAt k) l = over zeros 0 (putAt s (k + 1)) ∧ lenAt k + l.length = lenAt (k + 1) := by
  have e : putAt s (k + 1) = putAt s k ++ l := by
    unfold putAt
    rw [List.take_add_one, hl]; simp
  have h1 := putAt_len s k (by omega)
  have h2 := putAt_len s (k + 1) (by omega)
  rw [e, List.length_append, h1] at h2
  have h3 : lenAt (k + 1) ≤ 32 := by
    rcases (show k = 0 ∨ k = 1 ∨ k = 2 ∨ k = 3 ∨ k = 4 ∨ k = 5 by omega) with rfl | rfl | rfl | rfl | rfl | rfl <;> simp [lenAt]
  exact ⟨by rw [over_over zeros _ l 0 _ (by simp [zeros]; omega) (by omega), e], h2⟩
theorem part_calls (s : Sup) (hs : s.ok) (k : Nat) (hk : k < 6) (g : Nat) (w : World) (h : SnkP w g s k) :
    Calls Try.prog (fnAt k) #[.pointer (some ⟨g, 0, none⟩), .int .u64 (numAt s k)] w fun e w' => e = .returned (.tuple #[]) ∧ SnkP w' g s (k + 1) ∧ w.grownBy w' (some g) := by
  obtain ⟨⟨a0, a1⟩, ⟨b0, b1⟩, ⟨c0, c1⟩, ⟨d0, d1⟩⟩ := hs
  rcases (show k = 0 ∨ k = 1 ∨ k = 2 ∨ k = 3 ∨ k = 4 ∨ k = 5 by omega) with rfl | rfl | rfl | rfl | rfl | rfl
  · refine (sinkLong_calls w g _ _ s.epoch a0 a1 (by decide) h).mono ?_
    rintro e w' ⟨rfl, h', hg⟩
    obtain ⟨e1, e2⟩ := over_put s 0 _ (by omega) rfl
    rw [e1, show lenAt 0 + 8 = lenAt 1 from rfl] at h'
    exact ⟨rfl, h', hg⟩
  · refine (sinkShort_calls w g _ _ s.start b0 (by omega) (by decide) h).mono ?_
    rintro e w' ⟨rfl, h', hg⟩
    obtain ⟨e1, e2⟩ := over_put s 1 _ (by omega) rfl
    rw [e1, show lenAt 1 + 4 = lenAt 2 from rfl] at h'
    exact ⟨rfl, h', hg⟩
  · refine (sinkShort_calls w g _ _ s.pages c0 (by omega) (by decide) h).mono ?_
    rintro e w' ⟨rfl, h', hg⟩
    obtain ⟨e1, e2⟩ := over_put s 2 _ (by omega) rfl
    rw [e1, show lenAt 2 + 4 = lenAt 3 from rfl] at h'
    exact ⟨rfl, h', hg⟩
  · refine (sinkShort_calls w g _ _ s.size d0 (by omega) (by decide) h).mono ?_
    rintro e w' ⟨rfl, h', hg⟩
    obtain ⟨e1, e2⟩ := over_put s 3 _ (by omega) rfl
    rw [e1, show lenAt 3 + 4 = lenAt 4 from rfl] at h'
    exact ⟨rfl, h', hg⟩
  · refine (sinkText_calls w g _ 0 h).mono ?_
    rintro e w' ⟨rfl, h', hg⟩
    obtain ⟨e1, e2⟩ := over_put s 4 _ (by omega) rfl
    rw [show (20 : Nat) = lenAt 4 from rfl, e1, show (24 : Nat) = lenAt 5 from rfl] at h'
    exact ⟨rfl, h', hg⟩
  · refine (sinkLong_calls w g _ _ s.epoch a0 a1 (by decide) h).mono ?_
    rintro e w' ⟨rfl, h', hg⟩
    obtain ⟨e1, e2⟩ := over_put s 5 _ (by omega) rfl
    rw [e1, show lenAt 5 + 8 = lenAt 6 from rfl] at h'
    exact ⟨rfl, h', hg⟩

theorem blk_new' {w : World} {g : Nat} {o : Obj} (h : g = w.heap.size) : (w.alloc o).heap[g]? = some o := by subst h; exact blk_new _ _
theorem bl_alloc' {B : Nat} {w W : World} (h : Below B w W) (hB : B ≤ W.heap.size) (o : Obj) : Below B w (W.alloc o) := h.alloc hB o
def Parts (w : World) (h : Nat) (s : Sup) : Prop := ∃ cs t, w.heap[h]? = some (.cells cs t (0, 0)) ∧ ∀ k, k < 6 → cs[k * 2]? = some (.func (.func (fnAt k)) #[] #[]) ∧ cs[k * 2 + 1]? = some (.int .u64 (numAt s k))
theorem parts_cells {w : World} {h : Nat} {s : Sup} (hp : Parts w h s) (k : Nat) (hk : k < 6) : w.cell? ⟨h, k * 2, none⟩ = some (.func (.func (fnAt k)) #[] #[]) ∧ w.cell? ⟨h, k * 2 + 1, none⟩ = some (.int .u64 (numAt s k)) := by
  obtain ⟨cs, t, hb, hc⟩ := hp
  exact ⟨by rw [blk_cell hb]; exact (hc k hk).1, by rw [blk_cell hb]; exact (hc k hk).2⟩
theorem SnkP.below {w w' : World} {g k B : Nat} {s : Sup} (h : SnkP w g s k) (hb : Below B w w') (hg : g < B) : SnkP w' g s k := by
  obtain ⟨hl, cs, hc, he⟩ := h
  exact ⟨hl, cs, blk_below hb hc hg, he⟩
theorem Parts.below {w w' : World} {h B : Nat} {s : Sup} (hp : Parts w h s) (hb : Below B w w') (hg : h < B) : Parts w' h s := by
  obtain ⟨cs, t, hc, he⟩ := hp
  exact ⟨cs, t, blk_below hb hc hg, he⟩
theorem Parts.grown {w w' : World} {h g : Nat} {s : Sup} (hp : Parts w h s) (hb : w.grownBy w' (some g)) (hg : h ≠ g) : Parts w' h s := by
  obtain ⟨cs, t, hc, he⟩ := hp
  exact ⟨cs, t, by rw [hb.block h (blk_lt hc) (fun e => hg (Option.some.inj e))]; exact hc, he⟩
theorem below_grown {B g : Nat} {w w1 w2 : World} (h : Below B w w1) (hg : w1.grownBy w2 (some g)) (hB : B ≤ g) (hw : B ≤ w1.heap.size) : Below B w w2 :=
  ⟨hg.os.trans h.os, hg.tape.trans h.tape, hg.output.trans h.output, Nat.le_trans h.size hg.size, fun i hi => (hg.block i (by omega) (fun e => by have := Option.some.inj e; omega)).trans (h.block i hi)⟩

theorem run_callFunc {P : Program} {f : FuncId} {fn : Func} (hf : P.funcs[f]? = some fn) (hn : (fn.name == "runtime.NumGoroutine") = false) (hb : fn.body.isNone = false) (args : Array Value) (W : World) :
    (callFunc f args).run P W = .ok (.enter f args) W := by
  have hn' : ¬ fn.name = "runtime.NumGoroutine" := by simpa using hn
  have hb' : ¬ fn.body = none := by intro e; simp [e] at hb
  simp [callFunc, hf, go_sem, hn', hb']
theorem callFn (k : Nat) (hk : k < 6) : ∀ (args : Array Value) (W : World), (callFunc (fnAt k) args).run Try.prog W = .ok (.enter (fnAt k) args) W := by
  intro args W
  rcases (show k = 0 ∨ k = 1 ∨ k = 2 ∨ k = 3 ∨ k = 4 ∨ k = 5 by omega) with rfl | rfl | rfl | rfl | rfl | rfl 
  · exact run_callFunc Try.func81 (by rfl) (by rfl) _ _
  · exact run_callFunc Try.func82 (by rfl) (by rfl) _ _
  · exact run_callFunc Try.func82 (by rfl) (by rfl) _ _
  · exact run_callFunc Try.func82 (by rfl) (by rfl) _ _
  · exact run_callFunc Try.func83 (by rfl) (by rfl) _ _
  · exact run_callFunc Try.func81 (by rfl) (by rfl) _ _
set_option maxRecDepth 100000 in
theorem put_calls (w : World) (s : Sup) (hs : s.ok) :
    Calls Try.prog 26 #[supV s] w fun e w' => ∃ g, e = .returned (.slice (some ⟨g, 0, none⟩) 32 32) ∧ Rd by1 1 w' (some ⟨g, 0, none⟩) (put s) ∧ w.heap.size ≤ g ∧ Below w.heap.size w w' := by
  have HS := Lib.hid hs
  obtain ⟨⟨a0, a1⟩, ⟨b0, b1⟩, ⟨c0, c1⟩, ⟨d0, d1⟩⟩ := hs
  unfold supV
  go_enter Try.func26, Try.ntmps26
  go_wp2
  go_loopg [31] 6 (fun n i wr => ∃ k : Nat, i = .int .i64 k ∧ k + n = 6 ∧ Hid (SnkP wr (w.heap.size + 1) s k) ∧ Hid (Parts wr (w.heap.size + 1 + 1) s) ∧ Hid (Below w.heap.size w wr) ∧ Hid (w.heap.size + 1 + 1 < wr.heap.size))
  case atStart =>
    refine ⟨0, rfl, rfl, ?_, ?_, ?_, ?_⟩
    · show SnkP _ _ _ _
      refine ⟨by simp [putAt, over_nil, zeros], _, blk_alloc (blk_new' (by simp)) _, ?_⟩
      simp only [putAt, List.take_zero, List.flatten_nil, over_nil]
      rfl
    · show Parts _ _ _
      refine ⟨_, _, blk_new' (by simp), fun k hk => ?_⟩
      rcases (show k = 0 ∨ k = 1 ∨ k = 2 ∨ k = 3 ∨ k = 4 ∨ k = 5 by omega) with rfl | rfl | rfl | rfl | rfl | rfl <;> exact ⟨rfl, rfl⟩
    · show Below _ _ _
      exact bl_alloc (bl_alloc (bl_alloc (Below.refl _ _) _) _) _
    · show _ < _
      simp
  case round =>
    obtain ⟨k, rfl, hk, hsn, hpa, hb, hlt⟩ := hrel
    rcases Nat.lt_or_ge k 6 with hk6 | hk6
    · obtain ⟨p0, p1⟩ := parts_cells hpa.out k hk6
      have k6 : (k : Int) < 6 := by omega
      have hcall := Lib.hid (fun W h => part_calls s HS.out k hk6 (w.heap.size + 1) W h)
      have hcf := callFn k hk6
      generalize hfn : fnAt k = fk at *
      generalize hnm : numAt s k = nk at *
      have hst : (store ⟨wr.heap.size, 0, none⟩ (Value.func (Fn.func fk) #[] #[])).run Try.prog (wr.alloc (Obj.cells #[Value.nilFunc, Value.int IntKind.u64 0] 130)) = .ok () ((wr.alloc (Obj.cells #[Value.nilFunc, Value.int IntKind.u64 0] 130)).setCell ⟨wr.heap.size, 0, none⟩ (Value.func (Fn.func fk) #[] #[])) := by
        rw [run_store _ _ _ _ .plain rfl, blk_cell (blk_new _ _)]
        simp [blk_free (blk_new _ _)]
      go_wp2_with fail
      have hb1 : Hid (Below w.heap.size w (wr.alloc (Obj.cells #[Value.func (Fn.func fk) #[] #[], Value.int IntKind.u64 nk] 130))) := by show Below _ _ _; exact bl_alloc' hb.out hb.out.size _
      have hg1 : w.heap.size + 1 < wr.heap.size := by have := hlt.out; omega
      have bl1 := Lib.hid ((Below.refl wr.heap.size wr).alloc (Nat.le_refl _) (Obj.cells #[Value.func (Fn.func fk) #[] #[], Value.int IntKind.u64 nk] 130))
      refine (hcall.out _ (hsn.out.below bl1.out hg1)).mono ?_
      rintro e w1 ⟨rfl, hsn1, hgr1⟩
      have H1 := Lib.hid hsn1
      have H2 := Lib.hid hgr1
      have H3 := Lib.hid ((hpa.out.below bl1.out hlt.out).grown hgr1 (by omega))
      have H4 := Lib.hid (below_grown hb1.out hgr1 (by omega) hb1.out.size)
      have H5 : Hid (w.heap.size + 1 + 1 < w1.heap.size) := Nat.lt_of_lt_of_le (Nat.lt_of_lt_of_le hlt.out bl1.out.size) hgr1.size
      clear hsn1 hgr1 hst p0 p1 hcf
      go_wp2
      go_roundg (gk - 1)
      case measure => omega
      case rel => exact ⟨k + 1, by go_num, by omega, H1, H3, H4, H5⟩
    · obtain rfl : k = 6 := by omega
      go_wp2
      go_ret
      refine ⟨_, rfl, ?_, by omega, hb.out⟩
      have h := hsn.out
      obtain ⟨hl, cs, hc, he⟩ := h
      rw [put_all, over_all _ _ (by rw [put_len]; rfl)] at he
      refine .inr ⟨_, _, rfl, blk_lt hc, fun i x hx j v hv => ?_⟩
      cases j with
      | succ j => simp [by1] at hv
      | zero =>
        simp [by1] at hv
        subst hv
        have hi := (List.getElem?_eq_some_iff.1 hx).1
        rw [blk_cell hc, ← Array.getElem?_toList, he, List.getElem?_append_left (by simp; omega), List.getElem?_map]
        simp [hx]
end Go.Proofs.Ytglpckdmiohciaa
