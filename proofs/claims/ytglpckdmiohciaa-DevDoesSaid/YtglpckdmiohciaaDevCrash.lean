/- The device's function Crash. -/
import Derived.Test.YtglpckdmiohciaaDevFlush
namespace Go.Proofs.Ytglpckdmiohciaa
open Go.RowKit
set_option linter.unusedVariables false
set_option linter.unusedSimpArgs false

def boolEnc (b : Bool) : List Value := [.bool b]
theorem boolOk : Enc boolEnc 1 := ⟨fun _ => rfl, fun x u hu => by simp [boolEnc] at hu; subst hu; rfl, by omega⟩
theorem run_min32 (n : Int) (w : World) : (Builtin.min_ #[3, 3] 3 #[.int .i64 n, .int .i64 32]).run Try.prog w = .ok (.int .i64 (min n 32)) w := by
  rw [run_min_int2]
  congr 2
  split <;> omega
attribute [local go_sem ↓ high] fold_storeWr fold_loadWr
attribute [local go_sem] run_stWr_new run_ldWr_new
section
variable {w : World} {g : Nat} {F : Nat → Prop} {D : Dv}
theorem DevAt.setCrash (h : DevAt w g F D) : Did F w ((((w.setCell ⟨g, 2, none⟩ (.slice none 0 0)).setCell ⟨g, 6, none⟩ (.bool false)).setCell ⟨g, 5, none⟩ (.bool false)).setCell ⟨g, 4, none⟩ (.int .i64 0)) g { D with cache := [], dead := false, armed := false, left := 0 } :=
  h.flat (grown_trans (grown_trans (grown_trans (grown_set _ _ _ _) (grown_set _ _ _ _)) (grown_set _ _ _ _)) (grown_set _ _ _ _)) ⟨rfl, rfl, rfl⟩ ⟨Int.le_refl _, (by decide : (0 : Int) ≤ 9223372036854775807)⟩
    fun km bm cv hb => .inr ⟨rfl, blk_set' (blk_set' (blk_set' (blk_set' hb 2 _ rfl) 6 _ rfl) 5 _ rfl) 4 _ rfl⟩
set_option maxRecDepth 100000 in
set_option maxHeartbeats 4000000 in
theorem crash_calls0 (h : DevAt w g F D) (fk : List Bool) (ft fb : Int) (B : Option Addr) (cb : Nat) (hf : Rd boolEnc 1 w B fk) :
    Calls Try.prog 35 #[.pointer (some ⟨g, 0, none⟩), .agg #[.slice B fk.length cb, .int .i64 ft, .int .i64 fb]] w fun e w' => e = .returned (.tuple #[]) ∧ Did F w w' g (D.crash ⟨fk, ft, fb⟩) := by
  obtain ⟨w1, hw1⟩ : ∃ W, W = w.alloc (.cells #[.slice B fk.length cb, .int .i64 ft, .int .i64 fb] 47) := ⟨_, rfl⟩
  have hb1 : Below w.heap.size w w1 := hw1 ▸ (Below.refl _ w).alloc (Nat.le_refl _) _
  have hx1 : w1.heap[w.heap.size]? = some (.cells #[.slice B fk.length cb, .int .i64 ft, .int .i64 fb] 47 (0, 0)) := hw1 ▸ blk_new w _
  have hd1 : DevAt w1 g F D := h.below hb1
  have hok := Lib.hid (ok_calls hd1)
  have HF := Lib.hid (hf.below hb1 (Nat.le_refl _))
  have HX := Lib.hid hx1
  have HD := Lib.hid (Did.of_below h hb1)
  obtain ⟨km, bm, A, c, -, -, c2, -, -, -, -, -, -, -, ho, hr, hlc⟩ := hd1.cells
  have hbig := ho.len_le
  have HR := Lib.hid hr
  clear h hf hb1 hx1 hd1 ho hr
  go_enter Try.func35, Try.ntmps35
  go_upto_region 1 with fail
  rw [← hw1]
  clear hw1
  go_wp2_with fail
  refine hok.out.mono ?_
  rintro e w' ⟨rfl, rfl⟩
  clear hok
  go_wp2
  go_loopg [14] D.cache.length (fun m i wr => ∃ (k : Nat) (K : List (Int × Sec)), i = .int .i64 k ∧ k + m = D.cache.length ∧ Hid (Did F w wr g { D with kept := K }) ∧ Hid (Kept w1 wr) ∧ Hid (w1.heap.size ≤ wr.heap.size) ∧ Hid (crashL ⟨fk, ft, fb⟩ k K (D.cache.drop k) = crashL ⟨fk, ft, fb⟩ 0 D.kept D.cache))
  case atStart => exact ⟨0, D.kept, rfl, by omega, HD.out, Kept.refl _, Nat.le_refl _, by show _ = _; simp⟩
  case round =>
    obtain ⟨k, K, rfl, hk, hd, hkp, hsz, hcr⟩ := hrel
    have hxr := hkp.out _ _ _ _ HX.out
    have y0 := blk_cell hxr 0
    have y1 := blk_cell hxr 1
    have y2 := blk_cell hxr 2
    simp at y0 y1 y2
    rcases Nat.lt_or_ge k D.cache.length with hlt | hge
    · rcases HR.out with h0 | ⟨b, off, rfl, hbl, hcell⟩
      · simp [h0] at hlt
      have hx : D.cache[k]? = some D.cache[k] := List.getElem?_eq_getElem hlt
      have ld := run_ldWr wr b (off + k * 33) D.cache[k] ((HR.out.kept hkp.out hsz.out).range hx)
      have hnx : Hid (∀ K', K' = (if (k : Int) = ft then keepL K D.cache[k] (min (max fb 0) 32).toNat else if fk[k]? = some true then keepL K D.cache[k] 32 else K) → crashL ⟨fk, ft, fb⟩ (k + 1) K' (D.cache.drop (k + 1)) = crashL ⟨fk, ft, fb⟩ 0 D.kept D.cache) := fun K' hK' => by
        rw [← hcr.out, List.drop_eq_getElem_cons hlt, crashL, hK']
      generalize D.cache[k] = x at *
      have i0 : (0 : Int) ≤ (k : Int) := by omega
      have i1 : (k : Int) < (D.cache.length : Int) := by omega
      have hfk := HF.out.kept hkp.out hsz.out
      have hb0 : Hid (Below wr.heap.size wr (wr.alloc (.cells x.enc.toArray 141))) := bl_alloc (Below.refl _ wr) _
      obtain ⟨F2, h2, ch2, s2⟩ := hd.out
      have h3 := Lib.hid (h2.alloc (.cells x.enc.toArray 141))
      have ch3 := Lib.hid (ch2.trans (Chg.alloc wr (.cells x.enc.toArray 141) F) (fun i _ hi => hi))
      have S2 := Lib.hid s2
      have hxl := blk_lt hxr
      have z : ∀ (j : Nat) (o : Obj) (v : Value), wr.cell? ⟨w.heap.size, j, none⟩ = some v → (wr.alloc o).cell? ⟨w.heap.size, j, none⟩ = some v := fun j o v h => ((bl_alloc (Below.refl _ wr) o).cell (by exact hxl)).trans h
      have z0 := fun o => z 0 o _ y0
      have z1 := fun o => z 1 o _ y1
      have z2 := fun o => z 2 o _ y2
      -- behind a call of keep
      have HN : Hid (∀ (n : Nat) (w3 : World) (K' : List (Int × Sec)), Did F2 (wr.alloc (.cells x.enc.toArray 141)) w3 g { D with kept := K' } → Kept (wr.alloc (.cells x.enc.toArray 141)) w3 →
          Did F w w3 g { D with kept := K' } ∧ Kept w1 w3 ∧ w1.heap.size ≤ w3.heap.size) := fun n w3 K' a1 a2 => ⟨a1.after ch3.out S2.out, (hkp.out.alloc _).trans a2, by
            obtain ⟨_, _, q, _⟩ := a1
            have := q.size
            simp at this
            have := hsz.out
            omega⟩
      have HN0 : Hid (Did F w (wr.alloc (.cells x.enc.toArray 141)) g { D with kept := K } ∧ Kept w1 (wr.alloc (.cells x.enc.toArray 141)) ∧ w1.heap.size ≤ (wr.alloc (.cells x.enc.toArray 141)).heap.size) :=
        ⟨(Did.refl h3.out).after ch3.out S2.out, hkp.out.alloc _, by have := hsz.out; simp; omega⟩
      clear hcell hx h2 ch2 s2 hd z y0 y1 y2 hxr hcr
      rcases (Decidable.em ((k : Int) = ft)) with ht | ht
      · have ma := run_max0 fb
        have mi := run_min32 (max fb 0)
        subst ht
        go_wp2_with fail
        refine (keep_calls' h3.out x (min (max fb 0) 32) (by omega) (by omega)).mono ?_
        rintro e w3 ⟨rfl, hd3, hkp3⟩
        obtain ⟨q1, q2, q3⟩ := HN.out 0 w3 _ hd3 hkp3
        have q4 := hnx.out (keepL K x (min (max fb 0) 32).toNat) (by simp)
        have Q1 := Lib.hid q1
        have Q2 := Lib.hid q2
        have Q3 := Lib.hid q3
        have Q4 := Lib.hid q4
        clear hd3 hkp3 q1 q2 q3 q4
        go_wp2
        go_roundg (gk - 1)
        case measure => omega
        case rel => exact ⟨k + 1, _, by go_num, by omega, Q1, Q2, Q3, Q4⟩
      · have htb : ((k : Int) == ft) = false := by simpa using ht
        rcases (Decidable.em (k < fk.length)) with hkl | hkl
        · have hfx : fk[k]? = some fk[k] := List.getElem?_eq_getElem hkl
          have i2 : (k : Int) < (fk.length : Int) := by omega
          obtain ⟨pb, fo, rfl, fc⟩ : ∃ pb fo, B = some ⟨pb, fo, none⟩ ∧ ∀ o, (wr.alloc o).cell? ⟨pb, fo + k, none⟩ = some (.bool fk[k]) := by
            rcases hfk with h0 | ⟨pb, fo, rfl, fl, fcell⟩
            · simp [h0] at hkl
            · refine ⟨pb, fo, rfl, fun o => ?_⟩
              have := fcell k _ hfx 0 _ rfl
              rw [Nat.mul_one, Nat.add_zero] at this
              exact ((bl_alloc (Below.refl _ wr) o).cell (by exact fl)).trans this
          generalize hv : fk[k] = v at *
          rcases v with _ | _
          · have q4 := Lib.hid (hnx.out K (by rw [if_neg ht, if_neg (by rw [hfx]; simp)]))
            go_wp2
            go_roundg (gk - 1)
            case measure => omega
            case rel => exact ⟨k + 1, _, by go_num, by omega, HN0.out.1, HN0.out.2.1, HN0.out.2.2, q4⟩
          · go_wp2_with fail
            refine (keep_calls' h3.out x 32 (by decide) (by decide)).mono ?_
            rintro e w3 ⟨rfl, hd3, hkp3⟩
            obtain ⟨q1, q2, q3⟩ := HN.out 0 w3 _ hd3 hkp3
            have q4 := hnx.out _ (by rw [if_neg ht, if_pos hfx])
            have Q1 := Lib.hid q1
            have Q2 := Lib.hid q2
            have Q3 := Lib.hid q3
            have Q4 := Lib.hid q4
            clear hd3 hkp3 q1 q2 q3 q4
            go_wp2
            go_roundg (gk - 1)
            case measure => omega
            case rel => exact ⟨k + 1, _, by go_num, by omega, Q1, Q2, Q3, Q4⟩
        · have q4 := Lib.hid (hnx.out K (by rw [if_neg ht, if_neg (by rw [List.getElem?_eq_none (by omega)]; simp)]))
          have i2 : ¬ (k : Int) < (fk.length : Int) := by omega
          go_wp2
          go_roundg (gk - 1)
          case measure => omega
          case rel => exact ⟨k + 1, _, by go_num, by omega, HN0.out.1, HN0.out.2.1, HN0.out.2.2, q4⟩
    · have hfin : Hid (Did F w ((((wr.setCell ⟨g, 2, none⟩ (.slice none 0 0)).setCell ⟨g, 6, none⟩ (.bool false)).setCell ⟨g, 5, none⟩ (.bool false)).setCell ⟨g, 4, none⟩ (.int .i64 0)) g (D.crash ⟨fk, ft, fb⟩)) := by
        show Did _ _ _ _ _
        obtain ⟨F2, h2, ch2, s2⟩ := hd.out
        have := (h2.setCrash).after ch2 s2
        have e := hcr.out
        rw [List.drop_of_length_le hge] at e
        simp only [crashL] at e
        rw [e] at this
        exact this
      obtain ⟨F2, h2, ch2, s2⟩ := hd.out
      obtain ⟨km, bm, A, c, -, -, e2, -, e4, e5, e6, fz, -, -, -, hr, hlc⟩ := h2.cells
      have f2 := fz 2
      have f4 := fz 4
      have f5 := fz 5
      have f6 := fz 6
      clear h2 ch2 s2 hr fz hxr
      go_wp2
      go_end0
      exact ⟨rfl, hfin.out⟩
theorem crash_calls (h : DevAt w g F D) (f : Fate) (B : Option Addr) (cb : Nat) (hf : Rd boolEnc 1 w B f.keep) :
    Calls Try.prog 35 #[.pointer (some ⟨g, 0, none⟩), .agg #[.slice B f.keep.length cb, .int .i64 f.torn, .int .i64 f.bytes]] w fun e w' => e = .returned (.tuple #[]) ∧ Did F w w' g (D.crash f) := crash_calls0 h f.keep f.torn f.bytes B cb hf
end
end Go.Proofs.Ytglpckdmiohciaa
