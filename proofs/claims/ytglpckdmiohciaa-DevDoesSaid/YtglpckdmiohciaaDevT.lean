/- The making of a cache's element, of a slice of one. -/
import Derived.Test.YtglpckdmiohciaaDev2
import Derived.Great.BuildSlice
namespace Go.Proofs.Ytglpckdmiohciaa
open Go.RowKit
set_option linter.unusedVariables false
set_option linter.unusedSimpArgs false

theorem sec_fn (s : Sec) : ∃ f : Fin 32 → Int, s.1 = List.ofFn f := by
  obtain ⟨l, h, r⟩ := s
  exact ⟨fun i => l[i.1]'(by omega), by
    apply List.ext_getElem
    · rw [List.length_ofFn]; exact h
    · intro i h1 h2
      rw [List.getElem_ofFn]⟩
set_option maxRecDepth 100000 in
theorem built_wr (x : Wr) : Try.prog.built 141 [(0, .int .i64 x.pos), (1, secV x.b)] = some x.enc.toArray := by
  obtain ⟨f, hf⟩ := sec_fn x.b
  simp only [Wr.enc, secV, secCells, hf]
  kernel_rfl
theorem run_build_wr (x : Wr) (w : World) : (Instr.build 141 #[(0, .int .i64 x.pos), (1, secV x.b)]).run Try.prog w = .ok (.agg x.enc.toArray) w := run_build w _ _ _ (built_wr x)
theorem run_build_wr' (p : Int) (s : Sec) (w : World) : (Instr.build 141 #[(0, .int .i64 p), (1, .agg (secCells s).toArray)]).run Try.prog w = .ok (.agg (Wr.enc ⟨p, s⟩).toArray) w := run_build_wr ⟨p, s⟩ w
/-- The makings behind a name, so that the walk does not open them. -/
def bldWr (parts : Array (Nat × Value)) : Sem Value := Instr.build 141 parts
theorem fold_build (parts : Array (Nat × Value)) : Instr.build 141 parts = bldWr parts := rfl
theorem run_bldWr (p : Int) (s : Sec) (w : World) : (bldWr #[(0, .int .i64 p), (1, .agg (secCells s).toArray)]).run Try.prog w = .ok (.agg (Wr.enc ⟨p, s⟩).toArray) w := run_build_wr ⟨p, s⟩ w
def bldSl (parts : Array (Nat × Value)) : Sem Value := Instr.buildSlice 135 1 parts
theorem fold_buildSlice (parts : Array (Nat × Value)) : Instr.buildSlice 135 1 parts = bldSl parts := rfl
def ldSec (v : Value) : Sem Value := Instr.loadAt 139 v
theorem fold_loadSec (v : Value) : Instr.loadAt 139 v = ldSec v := rfl
def ldWr (v : Value) : Sem Value := Instr.loadAt 141 v
theorem fold_loadWr (v : Value) : Instr.loadAt 141 v = ldWr v := rfl
theorem infoWr : (Try.prog.info? 141).map (fun i => (i.zero, i.size, i.bytes)) = some (some (.agg (Wr.enc ⟨0, sec0⟩).toArray), 33, 40) := by kernel_rfl
theorem infoSec : (Try.prog.info? 139).map (fun i => (i.zero, i.size, i.bytes)) = some (some (secV sec0), 32, 32) := by kernel_rfl
theorem sizeSec : (Try.prog.info? 139).map (·.size) = some 32 := by kernel_rfl
theorem sizeWr : (Try.prog.info? 141).map (·.size) = some 33 := by kernel_rfl
theorem wr_size (x : Wr) : x.enc.toArray.size = 33 := by simp [Wr.len]
theorem run_buildSlice_wr (x : Wr) (w : World) : (Instr.buildSlice 135 1 #[(0, .agg x.enc.toArray)]).run Try.prog w = .ok (.slice (some ⟨w.heap.size, 0, none⟩) 1 1) (w.alloc (.cells x.enc.toArray 141)) := by
  obtain ⟨i0, hi, hz0, hz1, hz2⟩ := info_parts infoWr
  refine run_buildSlice w _ 141 1 _ _ i0 _ Try.underlying135 hi hz0 (by rw [hz1]; omega) (by rw [hz1]; omega) ?_
  rw [hz1]
  have h := Great.fill_whole (s := 33) (by omega) [.agg x.enc.toArray] ((Array.range (1 * 33)).map (((Value.agg (Wr.enc ⟨0, sec0⟩).toArray).cells)[· % (Value.agg (Wr.enc ⟨0, sec0⟩).toArray).cells.size]!)) (fun v hv => by
    rcases List.mem_cons.1 hv with rfl | hv
    · exact wr_size x
    · cases hv) (by simp)
  rw [show (#[(0, Value.agg x.enc.toArray)] : Array (Nat × Value)).toList = (([.agg x.enc.toArray] : List Value).zipIdx 0).map (fun x => (x.2, x.1)) from rfl, h]
  simp [Value.cells]
theorem run_bldSl (x : Wr) (w : World) : (bldSl #[(0, .agg x.enc.toArray)]).run Try.prog w = .ok (.slice (some ⟨w.heap.size, 0, none⟩) 1 1) (w.alloc (.cells x.enc.toArray 141)) := run_buildSlice_wr x w
theorem run_ldSec (w : World) (b o : Nat) (s : Sec) (h : w.rangeAt b o (secCells s)) : (ldSec (.pointer (some ⟨b, o, none⟩))).run Try.prog w = .ok (.agg (secCells s).toArray) w :=
  run_loadAt_mid w b o _ _ _ h Try.underlying139 rfl (by rw [secCells_len]; exact sizeSec)
theorem run_ldWr (w : World) (b o : Nat) (x : Wr) (h : w.rangeAt b o x.enc) : (ldWr (.pointer (some ⟨b, o, none⟩))).run Try.prog w = .ok (.agg x.enc.toArray) w :=
  run_loadAt_mid w b o _ _ _ h Try.underlying141 rfl (by rw [Wr.len]; exact sizeWr)
theorem run_arrayAt_sec (a : Option Addr) (n c : Nat) (h : 32 ≤ n) (w : World) : (Instr.arrayAt 139 (.slice a n c)).run Try.prog w = .ok (.pointer a) w := by
  have hn : ¬ n < 32 := by omega
  simp [Instr.arrayAt, run_underlying Try.underlying139, hn]
end Go.Proofs.Ytglpckdmiohciaa
