/- The device's functions Read, Fault. -/
import Derived.Test.YtglpckdmiohciaaNow
namespace Go.Proofs.Ytglpckdmiohciaa
open Go.RowKit
set_option linter.unusedVariables false
set_option linter.unusedSimpArgs false
def lkBad (m k : Value) : Sem Value := Instr.lookup 134 m k false
theorem fold_lkBad (m k : Value) : Instr.lookup 134 m k false = lkBad m k := rfl
def upBad (m k v : Value) : Sem Unit := Instr.mapUpdate 134 m k v
theorem fold_upBad (m k v : Value) : Instr.mapUpdate 134 m k v = upBad m k v := rfl
def dlBad (ty : TypeId) (args : Array Value) : Sem Value := Builtin.delete_ #[134, 3] ty args
theorem fold_dlBad (ty : TypeId) (args : Array Value) : Builtin.delete_ #[134, 3] ty args = dlBad ty args := rfl
theorem run_lkBad {w : World} {b : Nat} {L : List (Int × Bool)} (h : MapI w b Value.bool L) (k : Int) : (lkBad (.map (some b)) (.int .i64 k)).run Try.prog w = .ok (.bool ((look L k).getD false)) w := by
  unfold lkBad
  rw [run_look Try.underlying134 Try.underlying3 (.bool false) (by
    obtain ⟨i0, hi, hz0, hz1, hz2⟩ := info_parts (show (Try.prog.info? 4).map (fun i => (i.zero, i.size, i.bytes)) = some (some (.bool false), 1, 1) from by kernel_rfl)
    simp [zeroValue, typeInfo, hi, hz0]) h k]
  cases look L k <;> rfl
theorem run_upBad {w : World} {b : Nat} {L : List (Int × Bool)} (h : MapI w b Value.bool L) (k : Int) (x : Bool) : ∃ w', (upBad (.map (some b)) (.int .i64 k) (.bool x)).run Try.prog w = .ok () w' ∧ MapI w' b Value.bool (upd L k x) ∧ w.grownBy w' (some b) :=
  run_upd Try.underlying134 Try.underlying3 h k x
theorem run_dlBad {w : World} {b : Nat} {L : List (Int × Bool)} (h : MapI w b Value.bool L) (k : Int) (ty : TypeId) : ∃ w', (dlBad ty #[.map (some b), .int .i64 k]).run Try.prog w = .ok (.tuple #[]) w' ∧ MapI w' b Value.bool (del L k) ∧ w.grownBy w' (some b) :=
  run_del Try.underlying134 Try.underlying3 h k ty
def Dv.readE (D : Dv) (p : Int) : Int := if D.dead then 40 else if D.has p = false then 1 else if D.badAt p then 41 else 0
def Dv.readB (D : Dv) (p : Int) : List Int := if D.readE p = 0 then (D.now p).1 else []
attribute [local go_sem ↓ high] fold_storeSec fold_lkBad fold_upBad fold_dlBad
attribute [local go_sem] run_stSec_new
section
variable {w : World} {g : Nat} {F : Nat → Prop} {D : Dv}
theorem now_calls (h : DevAt w g F D) (p : Int) : Calls Try.prog 92 #[.pointer (some ⟨g, 0, none⟩), .int .i64 p] w fun e w' => e = .returned (.agg (secCells (D.now p)).toArray) ∧ Below w.heap.size w w' :=
  callsIn_wide.1 (now_in Fence.wide 3 trivial trivial trivial rfl (Nat.le_refl _) h p)
theorem readB_none {p : Int} (h : D.readE p ≠ 0) : D.readB p = [] := by unfold Dv.readB; rw [if_neg h]
theorem readB_now {p : Int} (h : D.readE p = 0) : D.readB p = (D.now p).1 := by unfold Dv.readB; rw [if_pos h]
theorem rd_sec {W : World} {b : Nat} {s : Sec} {t : TypeId} {fr : Nat × Nat} (h : W.heap[b]? = some (.cells (secCells s).toArray t fr)) : Rd by1 1 W (some ⟨b, 0, none⟩) s.1 := by
  refine .inr ⟨b, 0, rfl, blk_lt h, fun i x hx j v hv => ?_⟩
  rw [blk_cell h, List.getElem?_toArray, Nat.zero_add, Nat.mul_one]
  unfold secCells
  rw [List.getElem?_map]
  cases j with
  | zero => simp [by1] at hv; subst hv; rw [Nat.add_zero, hx]; rfl
  | succ j => simp [by1] at hv
/-- What Read hands back. -/
def ReadR (w w' : World) (b : List Int) (n : Int) (e : Ending) : Prop := ∃ A c, e = .returned (.tuple #[.slice A b.length c, .int .i64 n]) ∧ b.length ≤ c ∧ Rd by1 1 w' A b ∧ (∀ a, A = some a → w.heap.size ≤ a.block) ∧ Below w.heap.size w w'
set_option maxRecDepth 100000 in
set_option maxHeartbeats 4000000 in
theorem read_calls (h : DevAt w g F D) (p : Int) : Calls Try.prog 38 #[.pointer (some ⟨g, 0, none⟩), .int .i64 p] w fun e w' => ReadR w w' (D.readB p) (D.readE p) e := by
  have hdead := Lib.hid (dead_calls h)
  have hhas := Lib.hid (has_calls h p)
  have hnow := Lib.hid (now_calls h p)
  obtain ⟨km, bm, A, c, -, -, -, c3, -, -, -, -, -, hm, -, -, -⟩ := h.cells
  have lk := run_lkBad hm p
  have HN : Hid (∀ n, D.readE p = n → n ≠ 0 → ReadR w w (D.readB p) (D.readE p) (.returned (.tuple #[.slice none 0 0, .int .i64 n]))) := fun n e hn => by
    subst e
    refine ⟨none, 0, ?_, ?_, .inl (readB_none hn), (fun a ha => by cases ha), Below.refl _ _⟩ <;> rw [readB_none hn]
    · rfl
    · exact Nat.le_refl _
  clear h hm
  go_enter Try.func38, Try.ntmps38
  go_wp2_with fail
  refine hdead.out.mono ?_
  rintro e w1 ⟨rfl, rfl⟩
  rcases hd : D.dead with _ | _
  case' true =>
    go_wp2
    go_ret2
    exact HN.out 40 (by simp [Dv.readE, hd]) (by decide)
  go_wp2_with fail
  refine hhas.out.mono ?_
  rintro e w1 ⟨rfl, rfl⟩
  rcases hp : D.has p with _ | _
  case' false =>
    go_wp2
    go_ret2
    exact HN.out 1 (by simp [Dv.readE, hd, hp]) (by decide)
  rcases hb : (look D.bad p).getD false with _ | _
  case' true =>
    rw [hb] at lk
    go_wp2
    go_ret2
    exact HN.out 41 (by simp [Dv.readE, Dv.badAt, hd, hp, hb]) (by decide)
  rw [hb] at lk
  have hE : Hid (D.readE p = 0) := by show _ = _; simp [Dv.readE, Dv.badAt, hd, hp, hb]
  go_wp2_with fail
  refine hnow.out.mono ?_
  rintro e w1 ⟨rfl, hb1⟩
  have st := run_stSec_new w1
  have HB := Lib.hid hb1
  clear hb1
  go_wp2
  go_ret2
  refine ⟨some ⟨w1.heap.size, 0, none⟩, 32, ?_, ?_, ?_, (fun a ha => by cases ha; exact HB.out.size), HB.out.alloc HB.out.size _⟩
  · rw [readB_now hE.out, (D.now p).2.1, hE.out]
    rfl
  · rw [readB_now hE.out, (D.now p).2.1]
    exact Nat.le_refl _
  · rw [readB_now hE.out]
    exact rd_sec (blk_new _ _)
/-- The map of bad sectors has changed. -/
theorem DevAt.badPut {bm : Nat} (h : DevAt w g F D) (c3 : w.cell? ⟨g, 3, none⟩ = some (.map (some bm))) {W2 : World} {K : List (Int × Bool)} (hm : MapI W2 bm Value.bool K) (hg : w.grownBy W2 (some bm)) :
    Did F w W2 g { D with bad := K } := by
  have h0 := h
  obtain ⟨km, bm', cv, hb, hk, hbm, ho, n1, n2, n3, n4, f1, f2, f3, f4, b1, b2⟩ := h
  have ekm : bm' = bm := by
    rw [blk_cell hb] at c3
    simpa [Dv.cells] using c3
  subst ekm
  refine h0.put _ km bm' cv ?_ ?_ hm ?_ n1 n2 n3 (fun k hk => ⟨(n4 k hk).1, (n4 k hk).2.1, (n4 k hk).2.2.1, .inl (n4 k hk).2.2.2⟩) f2 f3 (Chg.grown hg f3) b1 b2
  · rw [hg.block g (f4 g f1) (by simpa using n3)]
    exact hb
  · exact hk.grown hg (by simpa using n1)
  · refine ho.kept hg ?_
    rcases hq : cv.ownBlock with _ | k
    · exact .inl rfl
    · exact .inr (fun e => (n4 k hq).2.2.1 (by injection e))
set_option maxRecDepth 100000 in
set_option maxHeartbeats 4000000 in
theorem fault_calls (h : DevAt w g F D) (p : Int) (on : Bool) : Calls Try.prog 46 #[.pointer (some ⟨g, 0, none⟩), .int .i64 p, .bool on] w fun e w' => e = .returned (.tuple #[]) ∧ Did F w w' g (D.fault p on) := by
  have hhas := Lib.hid (has_calls h p)
  obtain ⟨km, bm, A, c, -, -, -, c3, -, -, -, -, -, hm, -, -, -⟩ := h.cells
  obtain ⟨W2, up, u1, u2⟩ := run_upBad hm p true
  obtain ⟨W3, dl, d1, d2⟩ := run_dlBad hm p 0
  have H0 := Lib.hid (Did.refl h)
  have H1 := Lib.hid (h.badPut c3 u1 u2)
  have H2 := Lib.hid (h.badPut c3 d1 d2)
  clear h hm u1 u2 d1 d2
  go_enter Try.func46, Try.ntmps46
  go_wp2_with fail
  refine hhas.out.mono ?_
  rintro e w1 ⟨rfl, rfl⟩
  rcases hp : D.has p with _ | _
  · go_wp2
    refine bodyPost_ret (results_none rfl _ _ _) rfl ?_
    exact ⟨rfl, by simpa [Dv.fault, hp] using H0.out⟩
  rcases on with _ | _
  · go_wp2
    go_end0
    exact ⟨rfl, by simpa [Dv.fault, hp] using H2.out⟩
  · go_wp2
    go_end0
    exact ⟨rfl, by simpa [Dv.fault, hp] using H1.out⟩
end
end Go.Proofs.Ytglpckdmiohciaa
