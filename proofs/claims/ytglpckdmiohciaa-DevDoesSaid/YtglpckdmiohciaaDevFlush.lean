/- The device's function Flush. -/
import Derived.Test.YtglpckdmiohciaaDevKeep
namespace Go.Proofs.Ytglpckdmiohciaa
open Go.RowKit
set_option linter.unusedVariables false
set_option linter.unusedSimpArgs false

def stWr (p v : Value) : Sem Unit := Instr.storeAt 141 p v
theorem fold_storeWr (p v : Value) : Instr.storeAt 141 p v = stWr p v := rfl
theorem wrSize (x : Wr) : x.enc.toArray.size = 33 := by rw [List.size_toArray, Wr.len]
theorem run_stWr_new (w : World) (c : Array Value) (hc : c.size = 33) (x : Wr) : (stWr (.pointer (some ⟨w.heap.size, 0, none⟩)) (.agg x.enc.toArray)).run Try.prog (w.alloc (.cells c 141)) = .ok () (w.alloc (.cells x.enc.toArray 141)) := by
  unfold stWr
  simp only [Instr.storeAt, Instr.sureAddr, Sem.run_bind, Sem.run_pure, Result.andThen_ok]
  exact run_storeVar_new w _ c _ (by rw [wrSize]; exact sizeWr) (by rw [wrSize]; exact hc) (all_oneCell_toArray (Wr.ok.one x))
theorem run_ldWr_new (w : World) (x : Wr) : (ldWr (.pointer (some ⟨w.heap.size, 0, none⟩))).run Try.prog (w.alloc (.cells x.enc.toArray 141)) = .ok (.agg x.enc.toArray) (w.alloc (.cells x.enc.toArray 141)) :=
  run_ldWr _ _ 0 x (range_blk (blk_new w _) (fun j v hv => by rw [Nat.zero_add, List.getElem?_toArray]; exact hv))
attribute [local go_sem ↓ high] fold_storeWr fold_loadWr
attribute [local go_sem] run_stWr_new run_ldWr_new
section
variable {w : World} {g : Nat} {F : Nat → Prop} {D : Dv}
theorem keep_calls' (h : DevAt w g F D) (x : Wr) (n : Int) (hn : n.toNat ≤ 32) (h0 : 0 ≤ n) :
    Calls Try.prog 88 #[.pointer (some ⟨g, 0, none⟩), .agg x.enc.toArray, .int .i64 n] w fun e w' => e = .returned (.tuple #[]) ∧ Did F w w' g { D with kept := keepL D.kept x n.toNat } ∧ Kept w w' := by
  have := keep_calls h x n.toNat hn
  rwa [show ((n.toNat : Nat) : Int) = n from by omega] at this
set_option maxRecDepth 100000 in
set_option maxHeartbeats 4000000 in
theorem flush_calls (h : DevAt w g F D) : Calls Try.prog 33 #[.pointer (some ⟨g, 0, none⟩)] w fun e w' => e = .returned (.int .i64 D.flush.1) ∧ Did F w w' g D.flush.2 := by
  have hok := Lib.hid (ok_calls h)
  have hact := Lib.hid (act_calls h)
  clear h
  go_enter Try.func33, Try.ntmps33
  go_wp2_with fail
  refine hok.out.mono ?_
  rintro e w1 ⟨rfl, rfl⟩
  go_wp2_with fail
  refine hact.out.mono ?_
  rintro e w1 ⟨rfl, hdid⟩
  clear hok hact
  rcases ha : D.act.1 with _ | _
  case' false =>
    go_wp2
    go_ret
    exact ⟨ret_int (by simp [Dv.flush, ha]), by simpa [Dv.flush, ha] using hdid⟩
  have HW : Hid (D.flush = (0, { D.act.2 with kept := D.act.2.cache.foldl (fun K x => keepL K x 32) D.act.2.kept, cache := [] })) := by
    show _ = _
    simp [Dv.flush, ha]
  generalize hE : D.act.2 = E at *
  have h1 := hdid
  obtain ⟨F1, hd1, ch, s1⟩ := h1
  obtain ⟨km, bm, A, c, -, -, c2, -, -, -, -, -, -, -, ho, hr, hlc⟩ := hd1.cells
  have hbig := ho.len_le
  clear ho
  have HR := Lib.hid hr
  have HD := Lib.hid hdid
  clear hr hdid hd1 ch s1 hE
  go_wp2
  go_loopg [16] E.cache.length (fun m i wr => ∃ k : Nat, i = .int .i64 k ∧ k + m = E.cache.length ∧ Hid (Did F w wr g { E with kept := (E.cache.take k).foldl (fun K x => keepL K x 32) E.kept }) ∧ Hid (Kept w1 wr) ∧ Hid (w1.heap.size ≤ wr.heap.size))
  case atStart => exact ⟨0, rfl, by omega, HD.out, Kept.refl _, Nat.le_refl _⟩
  case round =>
    obtain ⟨k, rfl, hk, hd, hkp, hsz⟩ := hrel
    rcases Nat.lt_or_ge k E.cache.length with hlt | hge
    · rcases HR.out with h0 | ⟨b, off, rfl, hbl, hcell⟩
      · simp [h0] at hlt
      have hx : E.cache[k]? = some E.cache[k] := List.getElem?_eq_getElem hlt
      have ld := run_ldWr wr b (off + k * 33) E.cache[k] ((HR.out.kept hkp.out hsz.out).range hx)
      have hnx : Hid ((E.cache.take (k + 1)).foldl (fun K x => keepL K x 32) E.kept = keepL ((E.cache.take k).foldl (fun K x => keepL K x 32) E.kept) E.cache[k] 32) := by
        show _ = _
        rw [List.take_add_one, hx, List.foldl_append]
        rfl
      generalize E.cache[k] = x at *
      have i0 : (0 : Int) ≤ (k : Int) := by omega
      have i1 : (k : Int) < (E.cache.length : Int) := by omega
      obtain ⟨F2, h2, ch2, s2⟩ := hd.out
      have h3 := Lib.hid (h2.alloc (.cells x.enc.toArray 141))
      have ch3 := Lib.hid (ch2.trans (Chg.alloc wr (.cells x.enc.toArray 141) F) (fun i _ hi => hi))
      have S2 := Lib.hid s2
      have hsz2 : Hid (w1.heap.size ≤ wr.heap.size + 1) := by show _ ≤ _; have := hsz.out; omega
      clear hcell hx h2 ch2 s2 hd
      go_wp2_with fail
      refine (keep_calls' h3.out x 32 (by omega) (by omega)).mono ?_
      rintro e w3 ⟨rfl, hd3, hkp3⟩
      have hd4 : Hid (Did F w w3 g { E with kept := (E.cache.take (k + 1)).foldl (fun K x => keepL K x 32) E.kept }) := by
        show Did _ _ _ _ _
        rw [hnx.out]
        exact hd3.after ch3.out S2.out
      have hkp4 : Hid (Kept w1 w3) := (hkp.out.alloc _).trans hkp3
      have hsz4 : Hid (w1.heap.size ≤ w3.heap.size) := by
        obtain ⟨_, _, q, _⟩ := hd3
        have := q.size
        simp at this
        have := hsz.out
        show _ ≤ _
        omega
      clear hd3 hkp3 hkp hsz h3 ch3 S2 hsz2 hnx ld
      go_wp2
      go_roundg (gk - 1)
      case measure => omega
      case rel => exact ⟨k + 1, by go_num, by omega, hd4, hkp4, hsz4⟩
    · have hfin : Hid (Did F w (wr.setCell ⟨g, 2, none⟩ (.slice none 0 0)) g D.flush.2) := by
        show Did _ _ _ _ _
        rw [HW.out]
        obtain ⟨F2, h2, ch2, s2⟩ := hd.out
        have := (h2.set2).after ch2 s2
        rw [List.take_of_length_le hge] at this
        exact this
      obtain ⟨F2, h2, ch2, s2⟩ := hd.out
      obtain ⟨km, bm, A, c, -, -, e2, -, -, -, -, fz, -, -, -, hr, hlc⟩ := h2.cells
      have f2 := fz 2
      clear h2 ch2 s2 hr fz
      go_wp2
      go_ret
      exact ⟨ret_int (by rw [HW.out]), hfin.out⟩
end
end Go.Proofs.Ytglpckdmiohciaa
