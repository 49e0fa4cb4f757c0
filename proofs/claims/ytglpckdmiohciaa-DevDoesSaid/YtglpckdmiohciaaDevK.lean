/- What keep does with sectors and maps, behind names. -/
import Derived.Test.YtglpckdmiohciaaDevW
import Derived.Stop.BytesEq
import Derived.Deep.WholeRow
namespace Go.Proofs.Ytglpckdmiohciaa
open Go.RowKit
set_option linter.unusedVariables false
set_option linter.unusedSimpArgs false

def lkKept (m k : Value) : Sem Value := Instr.lookup 133 m k false
theorem fold_lkKept (m k : Value) : Instr.lookup 133 m k false = lkKept m k := rfl
def upKept (m k v : Value) : Sem Unit := Instr.mapUpdate 133 m k v
theorem fold_upKept (m k v : Value) : Instr.mapUpdate 133 m k v = upKept m k v := rfl
def dlKept (ty : TypeId) (args : Array Value) : Sem Value := Builtin.delete_ #[133, 3] ty args
theorem fold_dlKept (ty : TypeId) (args : Array Value) : Builtin.delete_ #[133, 3] ty args = dlKept ty args := rfl
def stSec (p v : Value) : Sem Unit := Instr.storeAt 139 p v
theorem fold_storeSec (p v : Value) : Instr.storeAt 139 p v = stSec p v := rfl
def cpBy (ty : TypeId) (args : Array Value) : Sem Value := Builtin.copy_ #[38, 38] ty args
theorem fold_cpBy (ty : TypeId) (args : Array Value) : Builtin.copy_ #[38, 38] ty args = cpBy ty args := rfl
def bldSec (parts : Array (Nat × Value)) : Sem Value := Instr.build 139 parts
theorem fold_bldSec (parts : Array (Nat × Value)) : Instr.build 139 parts = bldSec parts := rfl

section
variable {w : World} {b : Nat}
theorem zero_sec (w : World) : (zeroValue 139).run Try.prog w = .ok (secV sec0) w := by
  obtain ⟨i0, hi, hz0, hz1, hz2⟩ := info_parts infoSec
  simp [zeroValue, typeInfo, hi, hz0]
theorem run_lkKept {L : List (Int × Sec)} (h : MapI w b secV L) (k : Int) : (lkKept (.map (some b)) (.int .i64 k)).run Try.prog w = .ok (.agg (secCells ((look L k).getD sec0)).toArray) w := by
  unfold lkKept
  rw [run_look Try.underlying133 Try.underlying3 (secV sec0) (zero_sec w) h k]
  cases look L k <;> rfl
theorem run_upKept {L : List (Int × Sec)} (h : MapI w b secV L) (k : Int) (x : Sec) : ∃ w', (upKept (.map (some b)) (.int .i64 k) (.agg (secCells x).toArray)).run Try.prog w = .ok () w' ∧ MapI w' b secV (upd L k x) ∧ w.grownBy w' (some b) :=
  run_upd Try.underlying133 Try.underlying3 h k x
theorem run_dlKept {L : List (Int × Sec)} (h : MapI w b secV L) (k : Int) (ty : TypeId) : ∃ w', (dlKept ty #[.map (some b), .int .i64 k]).run Try.prog w = .ok (.tuple #[]) w' ∧ MapI w' b secV (del L k) ∧ w.grownBy w' (some b) :=
  run_del Try.underlying133 Try.underlying3 h k ty
theorem secSize (s : Sec) : (secCells s).toArray.size = 32 := by rw [List.size_toArray, secCells_len]
theorem run_stSec_new (w : World) (c : Array Value) (hc : c.size = 32) (s : Sec) : (stSec (.pointer (some ⟨w.heap.size, 0, none⟩)) (.agg (secCells s).toArray)).run Try.prog (w.alloc (.cells c 139)) = .ok () (w.alloc (.cells (secCells s).toArray 139)) := by
  unfold stSec
  simp only [Instr.storeAt, Instr.sureAddr, Sem.run_bind, Sem.run_pure, Result.andThen_ok]
  exact run_storeVar_new w _ c _ (by rw [secSize]; exact sizeSec) (by rw [secSize]; exact hc) (all_oneCell_toArray (secCells_one s))
theorem run_bldSec0 (w : World) : (bldSec #[]).run Try.prog w = .ok (.agg (secCells sec0).toArray) w := run_build w _ _ _ (by kernel_rfl)
/-- Sectors held against each other. -/
theorem sec_bytes (s : Sec) : ∃ xs : List UInt8, xs.length = 32 ∧ xs.map Extern.Stop.cell = secCells s ∧ xs.map (fun x => (x.toNat : Int)) = s.1 := by
  have h2 : (s.1.map (fun x => UInt8.ofNat x.toNat)).map (fun x => (x.toNat : Int)) = s.1 := by
    rw [List.map_map]
    conv => rhs; rw [← List.map_id s.1]
    refine List.map_congr_left fun x hx => ?_
    obtain ⟨h0, h1⟩ := s.2.2 x hx
    simp only [Function.comp, id, UInt8.toNat_ofNat']
    omega
  refine ⟨s.1.map (fun x => UInt8.ofNat x.toNat), by rw [List.length_map]; exact s.2.1, ?_, h2⟩
  unfold secCells
  conv => rhs; rw [← h2]
  rw [List.map_map (f := fun x : UInt8 => (x.toNat : Int))]
  rfl
theorem eqSec (d : Nat) (w : World) (a b : Sec) : (Op.equalIn (d + 2) 139 (.agg (secCells a).toArray) (.agg (secCells b).toArray)).run Try.prog w = .ok (decide (a = b)) w := by
  obtain ⟨xs, hx, cx, ex⟩ := sec_bytes a
  obtain ⟨ys, hy, cy, ey⟩ := sec_bytes b
  rw [← cx, ← cy, run_equalIn_bytes w d _ _ 32 Try.underlying139 Try.underlying5 (fun w => by
    obtain ⟨i0, hi, hz0, hz1, hz2⟩ := info_parts (show (Try.prog.info? 5).map (fun i => (i.zero, i.size, i.bytes)) = some (some (.int .u8 0), 1, 1) from by kernel_rfl)
    simp [sizeOf, typeInfo, hi, hz1]) xs ys hx hy]
  congr 1
  rw [Bool.eq_iff_iff]
  simp only [beq_iff_eq, decide_eq_true_eq]
  constructor
  · intro e
    exact Subtype.ext (by rw [← ex, ← ey, e])
  · intro e
    rw [e] at cx
    have : xs.map Extern.Stop.cell = ys.map Extern.Stop.cell := cx.trans cy.symm
    have h2 : xs.map (fun x => (x.toNat : Int)) = ys.map (fun x => (x.toNat : Int)) := by rw [ex, ey, e]
    exact (List.map_inj_right (fun x y h => by
      have : x.toNat = y.toNat := by omega
      exact UInt8.toNat_inj.1 this)).1 h2
/-- The copy of a write's first bytes over those of a sector in a block of its own. -/
theorem run_copy_sec {g6 gb : Nat} {s : Sec} {x : Wr} (n : Nat) (hn : n ≤ 32) (h6 : w.heap[g6]? = some (.cells (secCells s).toArray 139 (0, 0))) (hb : w.heap[gb]? = some (.cells x.enc.toArray 141 (0, 0))) (ty : TypeId) :
    ∃ w', (cpBy ty #[.slice (some ⟨g6, 0, none⟩) n 32, .slice (some ⟨gb, 1, none⟩) n 32]).run Try.prog w = .ok (.int .i64 n) w' ∧ w'.heap[g6]? = some (.cells (secCells (overS n x.b s)).toArray 139 (0, 0)) ∧ w.grownBy w' (some g6) := by
  have hl : ((secCells x.b).take n).length = n := by rw [List.length_take, secCells_len]; omega
  have h := run_copy_cells (P := Try.prog) w 38 38 ty 5 g6 0 n 32 ⟨gb, 1, none⟩ n 32 ((secCells x.b).take n) Try.underlying38 (by kernel_rfl) (by rw [hl]; exact (Nat.min_self n).symm)
    (fun j v hv => by
      rw [Addr.add_mid, blk_cell hb]
      have hj : j < n := by have := (List.getElem?_eq_some_iff.1 hv).1; omega
      rw [List.getElem?_take_of_lt hj] at hv
      rw [List.getElem?_toArray, show 1 + j = j + 1 from by omega]
      exact hv)
    (fun j hj => ((there_blk h6 (o := 0) (n := 32) (by rw [secSize]; omega)) j (by omega)).1)
    (fun j hj => ((there_blk h6 (o := 0) (n := 32) (by rw [secSize]; omega)) j (by omega)).2)
    (fun v hv => secCells_one _ _ (List.mem_of_mem_take hv))
  refine ⟨w.setCells g6 0 ((secCells x.b).take n), ?_, ?_, setCells_grown g6 _ 0 w⟩
  · unfold cpBy
    rw [h, hl]
    rfl
  · have e : (secCells s).toArray.toList.take 0 ++ (secCells x.b).take n ++ (secCells s).toArray.toList.drop (0 + n) = secCells (overS n x.b s) := by
      simp only [secCells, overS, List.map_append, List.map_take, List.map_drop, List.take_zero, List.nil_append, Nat.zero_add]
    rw [setCells_blk _ 0 w _ h6 (by rw [hl, secSize]; omega), hl, e]
/-- A map of the device's has changed. -/
theorem DevAt.keptPut {g km : Nat} {F : Nat → Prop} {D : Dv} (h : DevAt w g F D) (c1 : w.cell? ⟨g, 1, none⟩ = some (.map (some km))) {W W2 : World} (hW : Below w.heap.size w W) {K : List (Int × Sec)} (hm : MapI W2 km secV K) (hg : W.grownBy W2 (some km)) :
    Did F w W2 g { D with kept := K } := by
  have h0 := h
  obtain ⟨km', bm, cv, hb, hk, hbm, ho, n1, n2, n3, n4, f1, f2, f3, f4, b1, b2⟩ := h
  have ekm : km' = km := by
    rw [blk_cell hb] at c1
    simpa [Dv.cells] using c1
  subst ekm
  have hgl := f4 g f1
  have hml := f4 bm f3
  have hs := hW.size
  have C2 : Chg F w W2 := (Below.chg hW F).trans (Chg.grown hg (F := F) f2) (fun i _ hi => hi)
  refine h0.put _ km' bm cv ?_ hm ?_ ?_ n1 n2 n3 (fun k hk => ⟨(n4 k hk).1, (n4 k hk).2.1, (n4 k hk).2.2.1, .inl (n4 k hk).2.2.2⟩) f2 f3 C2 b1 b2
  · rw [hg.block g (by omega) (by simpa using n2), hW.block g hgl]
    exact hb
  · exact (hbm.below hW hml).grown hg (by simpa using n1.symm)
  · refine (ho.below hW).kept hg ?_
    rcases hq : cv.ownBlock with _ | k
    · exact .inl rfl
    · exact .inr (fun e => (n4 k hq).2.1 (by injection e))
end
end Go.Proofs.Ytglpckdmiohciaa
