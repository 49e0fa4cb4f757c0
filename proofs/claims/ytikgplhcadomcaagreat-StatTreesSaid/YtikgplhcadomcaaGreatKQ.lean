/- node: entry, kid. A struct in a block and a slot as results. node.Of: a right node is told of its bytes. -/
import Derived.Test.YtikgplhcadomcaaGreatQLebBack
import Derived.Test.YtikgplhcadomcaaGreatKA
import Derived.Test.YtikgplhcadomcaaGreatQNode8
import Derived.Test.YtikgplhcadomcaaGreatKB
namespace Go.Proofs.YtikgplhcadomcaaGreat
open Go.RowKit
set_option linter.unusedVariables false
set_option linter.unusedSimpArgs false
theorem infoKn : (Tryz.prog.info? 109).map (fun i => (i.zero, i.size, i.bytes)) = some (some (.agg #[.string ⟨#[]⟩, .int .u64 0]), 2, 24) := by kernel_rfl
/-- What reads a part of a node leaves behind: the reader, and new blocks. -/
def RdPart (B g : Nat) (w w' : World) (rest : List Int) : Prop := RAt 241 True B g w' rest false ∧ Chg (fun i => i = g) w w'
theorem RdPart.new {pl : Prop} {B g : Nat} {w w' : World} {bs : List Int} (h : RAt 241 pl B g w bs false) (hb : Below w.heap.size w w') : RAt 241 pl B g w' bs false ∧ Chg (fun i => i = g) w w' := ⟨h.below (bl_then (Below.refl B w) h.2.1 hb), Below.chg hb _⟩
set_option maxRecDepth 100000 in
set_option maxHeartbeats 2000000 in
theorem entry_calls (pl : Prop) (B g : Nat) (w : World) (k v : Str) (rest : List Int) (hk : k.size ≤ 40) (hv : v.size ≤ 200) (h : RAt 241 pl B g w (textI k ++ (textI v ++ rest)) false) :
    Calls Tryz.prog 152 #[.pointer (some ⟨g, 0, none⟩), .func (.func 124) #[] #[]] w fun e w' => e = .returned (.agg #[.string k, .string v]) ∧ RdPart B g w w' rest := by
  obtain ⟨W1, hW1⟩ : ∃ W, w.alloc (.cells #[.string ⟨#[]⟩, .string ⟨#[]⟩] 113) = W := ⟨_, rfl⟩
  have hb1 : Below w.heap.size w W1 := by rw [← hW1]; exact bl_alloc (Below.refl _ w) _
  obtain ⟨q, hq⟩ : ∃ q, w.heap.size = q := ⟨_, rfl⟩
  have HZ : Hid (W1.heap[q]? = some (.cells #[.string ⟨#[]⟩, .string ⟨#[]⟩] 113 (0, 0))) := by show _ = _; rw [← hW1, ← hq]; exact blk_new w _
  obtain ⟨hr1, hc1⟩ := RdPart.new h hb1
  have R1 := Lib.hid hr1
  have C1 := Lib.hid hc1
  have hgB : Hid (g < B) := h.1
  have hBq : Hid (B ≤ q) := by show _ ≤ _; rw [← hq]; exact h.2.1
  have hqw : Hid (w.heap.size ≤ q) := by show _ ≤ _; rw [hq]; exact Nat.le_refl _
  have T1 := Lib.hid (rdText_back (lim := 40) (textI v ++ rest) hk (by omega))
  have T2 := Lib.hid (rdText_back (lim := 200) rest hv (by omega))
  clear h hr1 hc1 hb1
  go_enter Tryz.func152, Tryz.ntmps152
  go_wp2_with fail
  refine (prText_calls pl B g _ _ false 40 (by omega) _ _ _ T1.out R1.out).mono ?_
  rintro e w2 ⟨rfl, hr2, hg2⟩
  have hgq : g ≠ q := by have := hgB.out; have := hBq.out; omega
  have Z2 : Hid (w2.heap[q]? = some (.cells #[.string ⟨#[]⟩, .string ⟨#[]⟩] 113 (0, 0))) := (hg2.block q (blk_lt HZ.out) (fun e => by injection e with e; omega)).trans HZ.out
  have hq2 : Hid (q < w2.heap.size) := blk_lt Z2.out
  have C2 : Hid (Chg (fun i => i = g) w w2) := C1.out.trans (Chg.grown (F := fun i => i = g) hg2 rfl) (fun _ _ h => h)
  have hb3 : Below w2.heap.size w2 (w2.alloc (.cells #[.string k, .string ⟨#[]⟩] 113)) := bl_alloc (Below.refl _ w2) _
  have hqr : Hid (q < w2.heap.size) := hq2.out
  have Y3 : Hid ((w2.alloc (.cells #[.string k, .string ⟨#[]⟩] 113)).heap[w2.heap.size]? = some (.cells #[.string k, .string ⟨#[]⟩] 113 (0, 0))) := blk_new w2 _
  have Z3 := Lib.hid (blk_below hb3 Z2.out hq2.out)
  obtain ⟨hr3, hc3⟩ := RdPart.new hr2 hb3
  have R3 := Lib.hid hr3
  have C3 : Hid (Chg (fun i => i = g) w (w2.alloc (.cells #[.string k, .string ⟨#[]⟩] 113))) := C2.out.trans hc3 (fun _ _ h => h)
  clear hr2 hg2 hgq hb3 hr3 hc3 hq hW1
  go_wp2_with fail
  refine (prText_calls True B g _ _ false 200 (by omega) _ _ _ T2.out R3.out).mono ?_
  rintro e w4 ⟨rfl, hr4, hg4⟩
  obtain ⟨r, hr, hqr2, Y3r⟩ : ∃ r, w2.heap.size = r ∧ Hid (q < r) ∧ Hid ((w2.alloc (.cells #[.string k, .string ⟨#[]⟩] 113)).heap[r]? = some (.cells #[.string k, .string ⟨#[]⟩] 113 (0, 0))) := ⟨_, rfl, hqr, Y3⟩
  rw [hr]
  clear hqr Y3
  have hgq : g ≠ q ∧ g ≠ r := by have := hgB.out; have := hBq.out; have := hqr2.out; omega
  have Z4 : Hid (w4.heap[q]? = some (.cells #[.string ⟨#[]⟩, .string ⟨#[]⟩] 113 (0, 0))) := (hg4.block q (blk_lt Z3.out) (fun e => by injection e with e; omega)).trans Z3.out
  have Y4 : Hid (w4.heap[r]? = some (.cells #[.string k, .string ⟨#[]⟩] 113 (0, 0))) := (hg4.block r (blk_lt Y3r.out) (fun e => by injection e with e; omega)).trans Y3r.out
  have C4 : Hid (Chg (fun i => i = g) w w4) := C3.out.trans (Chg.grown (F := fun i => i = g) hg4 rfl) (fun _ _ h => h)
  have R4 := Lib.hid hr4
  have y0 := blk_cell Y4.out 0
  have y1 := blk_cell Y4.out 1
  have yf := blk_free Y4.out 1
  have yl := blk_lt Y4.out
  have z0 := blk_cell Z4.out 0
  have z1 := blk_cell Z4.out 1
  have zf0 := blk_free Z4.out 0
  have zf1 := blk_free Z4.out 1
  have zl := blk_lt Z4.out
  have hqr' : q ≠ r := by have := hqr2.out; omega
  have hrq' : r ≠ q := fun e => hqr' e.symm
  clear hr4 hg4 hgq hr Y3r Z3 R3 C3
  go_wp2
  refine ret_row #[.string k, .string v] (g := q) (by rfl) (by rfl) Tryz.underlying113 (by rfl) rfl (by kernel_rfl) (rowOf_blk (blk_set' (blk_set' (blk_far Z4.out hqr' _) 0 (.string k) rfl) 1 (.string v) rfl)) ?_
  have hB4 : Below B w4 (((w4.setCell ⟨r, 1, none⟩ (.string v)).setCell ⟨q, 0, none⟩ (.string k)).setCell ⟨q, 1, none⟩ (.string v)) := bl_set (bl_set (bl_set (Below.refl _ _) (Nat.le_of_lt (Nat.lt_of_le_of_lt hBq.out hqr2.out)) _) hBq.out _) hBq.out _
  refine ⟨rfl, R4.out.below hB4, C4.out.trans (G := fun i => i = q ∨ i = r) ?_ (fun i hi hG => by have := hqr2.out; have := hqw.out; omega)⟩
  exact ((Chg.set w4 _ (.inr rfl)).trans (Chg.set (F := fun i => i = q ∨ i = r) _ _ (.inl rfl)) (fun _ _ h => h)).trans (Chg.set (F := fun i => i = q ∨ i = r) _ _ (.inl rfl)) (fun _ _ h => h)
set_option maxRecDepth 100000 in
set_option maxHeartbeats 2000000 in
theorem kid_calls (pl : Prop) (B g : Nat) (w : World) (k : Str) (id : Nat) (rest : List Int) (hk : k.size ≤ 40) (hv : id < 18446744073709551616) (h : RAt 241 pl B g w (textI k ++ (lebI id ++ rest)) false) :
    Calls Tryz.prog 153 #[.pointer (some ⟨g, 0, none⟩), .func (.func 124) #[] #[]] w fun e w' => e = .returned (.agg #[.string k, .int .u64 (id : Int)]) ∧ RdPart B g w w' rest := by
  obtain ⟨W1, hW1⟩ : ∃ W, w.alloc (.cells #[.string ⟨#[]⟩, .int .u64 0] 109) = W := ⟨_, rfl⟩
  have hb1 : Below w.heap.size w W1 := by rw [← hW1]; exact bl_alloc (Below.refl _ w) _
  obtain ⟨q, hq⟩ : ∃ q, w.heap.size = q := ⟨_, rfl⟩
  have HZ : Hid (W1.heap[q]? = some (.cells #[.string ⟨#[]⟩, .int .u64 0] 109 (0, 0))) := by show _ = _; rw [← hW1, ← hq]; exact blk_new w _
  obtain ⟨hr1, hc1⟩ := RdPart.new h hb1
  have R1 := Lib.hid hr1
  have C1 := Lib.hid hc1
  have hgB : Hid (g < B) := h.1
  have hBq : Hid (B ≤ q) := by show _ ≤ _; rw [← hq]; exact h.2.1
  have hqw : Hid (w.heap.size ≤ q) := by show _ ≤ _; rw [hq]; exact Nat.le_refl _
  have T1 := Lib.hid (rdText_back (lim := 40) (lebI id ++ rest) hk (by omega))
  have T2 := Lib.hid (rdNum_back (lim := 18446744073709551615) rest (by omega) hv)
  clear h hr1 hc1 hb1
  go_enter Tryz.func153, Tryz.ntmps153
  go_wp2_with fail
  refine (prText_calls pl B g _ _ false 40 (by omega) _ _ _ T1.out R1.out).mono ?_
  rintro e w2 ⟨rfl, hr2, hg2⟩
  have hgq : g ≠ q := by have := hgB.out; have := hBq.out; omega
  have Z2 : Hid (w2.heap[q]? = some (.cells #[.string ⟨#[]⟩, .int .u64 0] 109 (0, 0))) := (hg2.block q (blk_lt HZ.out) (fun e => by injection e with e; omega)).trans HZ.out
  have hq2 : Hid (q < w2.heap.size) := blk_lt Z2.out
  have C2 : Hid (Chg (fun i => i = g) w w2) := C1.out.trans (Chg.grown (F := fun i => i = g) hg2 rfl) (fun _ _ h => h)
  have hb3 : Below w2.heap.size w2 (w2.alloc (.cells #[.string k, .int .u64 0] 109)) := bl_alloc (Below.refl _ w2) _
  have hqr : Hid (q < w2.heap.size) := hq2.out
  have Y3 : Hid ((w2.alloc (.cells #[.string k, .int .u64 0] 109)).heap[w2.heap.size]? = some (.cells #[.string k, .int .u64 0] 109 (0, 0))) := blk_new w2 _
  have Z3 := Lib.hid (blk_below hb3 Z2.out hq2.out)
  obtain ⟨hr3, hc3⟩ := RdPart.new hr2 hb3
  have R3 := Lib.hid hr3
  have C3 : Hid (Chg (fun i => i = g) w (w2.alloc (.cells #[.string k, .int .u64 0] 109))) := C2.out.trans hc3 (fun _ _ h => h)
  clear hr2 hg2 hgq hb3 hr3 hc3 hq hW1
  go_wp2_with fail
  refine (prNum_calls True B g _ _ false 18446744073709551615 _ _ _ T2.out R3.out).mono ?_
  rintro e w4 ⟨rfl, hr4, hg4⟩
  obtain ⟨r, hr, hqr2, Y3r⟩ : ∃ r, w2.heap.size = r ∧ Hid (q < r) ∧ Hid ((w2.alloc (.cells #[.string k, .int .u64 0] 109)).heap[r]? = some (.cells #[.string k, .int .u64 0] 109 (0, 0))) := ⟨_, rfl, hqr, Y3⟩
  rw [hr]
  clear hqr Y3
  have hgq : g ≠ q ∧ g ≠ r := by have := hgB.out; have := hBq.out; have := hqr2.out; omega
  have Z4 : Hid (w4.heap[q]? = some (.cells #[.string ⟨#[]⟩, .int .u64 0] 109 (0, 0))) := (hg4.block q (blk_lt Z3.out) (fun e => by injection e with e; omega)).trans Z3.out
  have Y4 : Hid (w4.heap[r]? = some (.cells #[.string k, .int .u64 0] 109 (0, 0))) := (hg4.block r (blk_lt Y3r.out) (fun e => by injection e with e; omega)).trans Y3r.out
  have C4 : Hid (Chg (fun i => i = g) w w4) := C3.out.trans (Chg.grown (F := fun i => i = g) hg4 rfl) (fun _ _ h => h)
  have R4 := Lib.hid hr4
  have y0 := blk_cell Y4.out 0
  have y1 := blk_cell Y4.out 1
  have yf := blk_free Y4.out 1
  have yl := blk_lt Y4.out
  have z0 := blk_cell Z4.out 0
  have z1 := blk_cell Z4.out 1
  have zf0 := blk_free Z4.out 0
  have zf1 := blk_free Z4.out 1
  have zl := blk_lt Z4.out
  have hqr' : q ≠ r := by have := hqr2.out; omega
  have hrq' : r ≠ q := fun e => hqr' e.symm
  clear hr4 hg4 hgq hr Y3r Z3 R3 C3
  go_wp2
  refine ret_row #[.string k, .int .u64 (id : Int)] (g := q) (by rfl) (by rfl) Tryz.underlying109 (by rfl) rfl (by kernel_rfl) (rowOf_blk (blk_set' (blk_set' (blk_far Z4.out hqr' _) 0 (.string k) rfl) 1 (.int .u64 (id : Int)) rfl)) ?_
  have hB4 : Below B w4 (((w4.setCell ⟨r, 1, none⟩ (.int .u64 (id : Int))).setCell ⟨q, 0, none⟩ (.string k)).setCell ⟨q, 1, none⟩ (.int .u64 (id : Int))) := bl_set (bl_set (bl_set (Below.refl _ _) (Nat.le_of_lt (Nat.lt_of_le_of_lt hBq.out hqr2.out)) _) hBq.out _) hBq.out _
  refine ⟨rfl, R4.out.below hB4, C4.out.trans (G := fun i => i = q ∨ i = r) ?_ (fun i hi hG => by have := hqr2.out; have := hqw.out; omega)⟩
  exact ((Chg.set w4 _ (.inr rfl)).trans (Chg.set (F := fun i => i = q ∨ i = r) _ _ (.inl rfl)) (fun _ _ h => h)).trans (Chg.set (F := fun i => i = q ∨ i = r) _ _ (.inl rfl)) (fun _ _ h => h)
end Go.Proofs.YtikgplhcadomcaaGreat

namespace Go.Proofs.YtikgplhcadomcaaGreat
open Go.RowKit
theorem ret_row_slot2 {P : Program} {fn : Func} {R : Ending → World → Prop} {a : Act} {w : World} {p u : Tmp} {ty : TypeId} {g : Nat} (cs : Array Value) {d : TypeDesc} (h : fn.results = #[.cell p ty, .tmp u])
    (hp : a.tmps.getD p undef = .pointer (some ⟨g, 0, none⟩)) (hu : P.underlying ty = some d) (hd : (match d with | .struct _ | .array _ _ => true | _ => false) = true) (hdf : a.defers = [])
    (hi : (P.info? ty).map (·.size) = some cs.size) (hg : rowOf w g = some cs) (hR : R (.returned (.tuple #[.agg cs, a.tmps.getD u undef])) w) : bodyPost P fn R .ret a w := by
  unfold rowOf at hg
  split at hg
  · rename_i c t fr hh
    injection hg with hg
    subst hg
    refine bodyPost_ret ?_ hdf hR
    rw [results_cell_tmp h, hp]
    simp [asAddr, run_loadVar_row w g t ty c fr d hh hu hd hi]
  · cases hg
end Go.Proofs.YtikgplhcadomcaaGreat

namespace Go.Proofs.YtikgplhcadomcaaGreat
open Go.RowKit
set_option linter.unusedVariables false
set_option linter.unusedSimpArgs false
/-- Within Of: the reader at g, the result at q, the node at q6. -/
def OfS (w0 : World) (B g q q6 : Nat) (lv : Nat) (ue uk : Value) (E : List Entry) (K : List Kid) (W : World) (rest : List Int) : Prop :=
  RAt 241 True B g W rest false ∧ W.heap[q]? = some (.cells #[.int .i64 0, .slice none 0 0, .slice none 0 0] 98 (0, 0)) ∧ W.heap[q6]? = some (.cells #[.int .i64 (lv : Int), ue, uk] 98 (0, 0)) ∧ Own Entry.enc 2 113 (q6 + 1) W ue E ∧ Own Kid.enc 2 109 (q6 + 1) W uk K ∧ Below w0.heap.size w0 W ∧ (w0.heap.size ≤ q ∧ q < g ∧ g < B ∧ B ≤ q6)
def OfR (q6 i : Nat) (u : Value) (W : World) : Prop := W.cell? ⟨q6, i, none⟩ = some u ∧ q6 < W.heap.size
section
variable {w0 : World} {B g q q6 : Nat} {lv : Nat} {ue uk : Value} {E : List Entry} {K : List Kid} {W W' w' : World} {rest rest' : List Int}
theorem OfS.rd0 (h : OfS w0 B g q q6 lv ue uk E K W rest) : RAt 241 True B g W rest false := h.1
theorem OfS.blkQ (h : OfS w0 B g q q6 lv ue uk E K W rest) : W.heap[q]? = some (.cells #[.int .i64 0, .slice none 0 0, .slice none 0 0] 98 (0, 0)) := h.2.1
theorem OfS.blkN (h : OfS w0 B g q q6 lv ue uk E K W rest) : W.heap[q6]? = some (.cells #[.int .i64 (lv : Int), ue, uk] 98 (0, 0)) := h.2.2.1
theorem OfS.own1 (h : OfS w0 B g q q6 lv ue uk E K W rest) : Own Entry.enc 2 113 (q6 + 1) W ue E := h.2.2.2.1
theorem OfS.own2 (h : OfS w0 B g q q6 lv ue uk E K W rest) : Own Kid.enc 2 109 (q6 + 1) W uk K := h.2.2.2.2.1
theorem OfS.base (h : OfS w0 B g q q6 lv ue uk E K W rest) : q6 + 1 ≤ W.heap.size := blk_lt h.blkN
theorem OfS.row1 (h : OfS w0 B g q q6 lv ue uk E K W rest) : OfR q6 1 ue W := ⟨by rw [blk_cell h.blkN]; rfl, blk_lt h.blkN⟩
theorem OfS.row2 (h : OfS w0 B g q q6 lv ue uk E K W rest) : OfR q6 2 uk W := ⟨by rw [blk_cell h.blkN]; rfl, blk_lt h.blkN⟩
theorem OfS.below (h : OfS w0 B g q q6 lv ue uk E K W rest) (hb : Below W.heap.size W w') : OfS w0 B g q q6 lv ue uk E K w' rest := by
  obtain ⟨h1, h2, h3, h4, h5, h6, h7⟩ := h
  exact ⟨h1.below (bl_then (Below.refl B W) h1.2.1 hb), blk_below hb h2 (blk_lt h2), blk_below hb h3 (blk_lt h3), h4.below hb, h5.below hb, bl_then h6 h6.size hb, h7⟩
theorem OfS.step (h : OfS w0 B g q q6 lv ue uk E K W rest) (k : RdPart B g W w' rest') : OfS w0 B g q q6 lv ue uk E K w' rest' := by
  obtain ⟨h1, h2, h3, h4, h5, h6, h7⟩ := h
  obtain ⟨k1, k2⟩ := k
  refine ⟨k1, k2.blk h2 (by omega), k2.blk h3 (by omega), h4.chg k2 (fun k hk => by have := (h4.lt k hk).1; omega), h5.chg k2 (fun k hk => by have := (h5.lt k hk).1; omega), bl_then' h6 k2 (by omega), h7⟩
where
  bl_then' {w0 W w' : World} {g : Nat} (h6 : Below w0.heap.size w0 W) (k2 : Chg (fun i => i = g) W w') (hg : w0.heap.size ≤ g) : Below w0.heap.size w0 w' :=
    ⟨k2.os.trans h6.os, k2.tape.trans h6.tape, k2.output.trans h6.output, Nat.le_trans h6.size k2.size, fun i hi => (k2.block i (Nat.lt_of_lt_of_le hi h6.size) (by omega)).trans (h6.block i hi)⟩
theorem OfS.grow (h : OfS w0 B g q q6 lv ue uk E K W rest) {row : Option Nat} (hg : W.grownBy w' row) (hrow : ∀ k, row = some k → q6 + 1 ≤ k) : RAt 241 True B g w' rest false ∧ w'.heap[q]? = some (.cells #[.int .i64 0, .slice none 0 0, .slice none 0 0] 98 (0, 0)) ∧ w'.heap[q6]? = some (.cells #[.int .i64 (lv : Int), ue, uk] 98 (0, 0)) ∧ Below w0.heap.size w0 w' := by
  obtain ⟨h1, h2, h3, h4, h5, h6, h7⟩ := h
  refine ⟨h1.below ((Below.refl B W).grown hg h1.2.1 (fun k e => by have := hrow k e; omega)), (hg.block q (blk_lt h2) (fun e => by have := hrow q e.symm; omega)).trans h2, (hg.block q6 (blk_lt h3) (fun e => by have := hrow q6 e.symm; omega)).trans h3, h6.grown hg h6.size (fun k e => by have := hrow k e; omega)⟩
theorem OfS.appE (h : OfS w0 B g q q6 lv ue (.slice none 0 0) E [] W rest) {g7 n7 cap7 : Nat} {l : List Entry} (ho : Own Entry.enc 2 113 (q6 + 1) w' (.slice (some ⟨g7, 0, none⟩) n7 cap7) l) (hg : W.grownBy w' ue.ownBlock) :
    Hid (OfS w0 B g q q6 lv (.slice (some ⟨g7, 0, none⟩) n7 cap7) (.slice none 0 0) l [] (w'.setCell ⟨q6, 1, none⟩ (.slice (some ⟨g7, 0, none⟩) n7 cap7)) rest) ∧ OfR q6 1 ue w' ∧ w'.frozen? ⟨q6, 1, none⟩ = false := by
  obtain ⟨k1, k2, k3, k4⟩ := h.grow hg (fun k e => (h.own1.lt k e).1)
  obtain ⟨-, -, -, -, -, -, h7⟩ := h
  have hne : (Value.slice (some ⟨g7, 0, none⟩) n7 cap7).ownBlock ≠ some q6 := fun e => by have := (ho.lt _ e).1; omega
  refine ⟨⟨k1.below (bl_set (Below.refl _ _) h7.2.2.2 _), blk_far k2 (by show q ≠ q6; omega) _, blk_set' k3 1 _ rfl, ho.far hne _, Own.nil, bl_set k4 (by omega) _, h7⟩, ⟨by rw [blk_cell k3]; rfl, blk_lt k3⟩, blk_free k3 1⟩
theorem OfS.appK (h : OfS w0 B g q q6 lv (.slice none 0 0) uk [] K W rest) {g7 n7 cap7 : Nat} {l : List Kid} (ho : Own Kid.enc 2 109 (q6 + 1) w' (.slice (some ⟨g7, 0, none⟩) n7 cap7) l) (hg : W.grownBy w' uk.ownBlock) :
    Hid (OfS w0 B g q q6 lv (.slice none 0 0) (.slice (some ⟨g7, 0, none⟩) n7 cap7) [] l (w'.setCell ⟨q6, 2, none⟩ (.slice (some ⟨g7, 0, none⟩) n7 cap7)) rest) ∧ OfR q6 2 uk w' ∧ w'.frozen? ⟨q6, 2, none⟩ = false := by
  obtain ⟨k1, k2, k3, k4⟩ := h.grow hg (fun k e => (h.own2.lt k e).1)
  obtain ⟨-, -, -, -, -, -, h7⟩ := h
  have hne : (Value.slice (some ⟨g7, 0, none⟩) n7 cap7).ownBlock ≠ some q6 := fun e => by have := (ho.lt _ e).1; omega
  refine ⟨⟨k1.below (bl_set (Below.refl _ _) h7.2.2.2 _), blk_far k2 (by show q ≠ q6; omega) _, blk_set' k3 2 _ rfl, Own.nil, ho.far hne _, bl_set k4 (by omega) _, h7⟩, ⟨by rw [blk_cell k3]; rfl, blk_lt k3⟩, blk_free k3 2⟩
end
theorem NdAt.chg {w w' : World} {a : NdA} {n : NodeP} {F : Nat → Prop} (h : NdAt w a n) (hc : Chg F w w') (hA : ∀ x, a.A = some x → ¬ F x.block) (hB : ∀ x, a.B = some x → ¬ F x.block) : NdAt w' a n := ⟨h.ca, h.cb, h.hE.chg hc hA, h.hK.chg hc hB, h.sE, h.sK, h.le, h.lk⟩
def NdA.From (a : NdA) (B : Nat) : Prop := (∀ x, a.A = some x → B ≤ x.block) ∧ (∀ x, a.B = some x → B ≤ x.block)
def OfA (w w' : World) (lv : Nat) (E : List Entry) (K : List Kid) (e : Ending) : Prop := ∃ a : NdA, e = .returned (.tuple #[.agg #[.int .i64 (lv : Int), .slice a.A E.length a.ca, .slice a.B K.length a.cb], .int .i64 0]) ∧ NdAt w' a ⟨lv, E, K⟩ ∧ a.From w.heap.size ∧ Below w.heap.size w w'
set_option maxRecDepth 100000 in
set_option maxHeartbeats 4000000 in
theorem nodeOfE_calls (w : World) (A : Option Addr) (c : Nat) (lv : Nat) (bs : List Int) (E : List Entry) (hlv : Hid (lv = 0)) (sE : ∀ x ∈ E, x.key.size ≤ 40 ∧ x.val.size ≤ 200) (hlv20 : lv ≤ 20) (hbs : bs = lebI lv ++ (lebI E.length ++ E.flatMap entI)) (hr : Hid (NodeP.right ⟨lv, E, []⟩ = 0)) (lE : E.length ≤ 100) (hlL : E.length ≤ bs.length) (hcap : bs.length ≤ c) (hlen : bs.length ≤ 131072) (hby : bytesL bs) (h : Rd u8e 1 w A bs) :
    Calls Tryz.prog 104 #[.slice A bs.length c] w fun e w' => OfA w w' lv E [] e := by
  obtain ⟨W1, hW1⟩ : ∃ W, w.alloc (.cells #[.int .i64 0, .slice none 0 0, .slice none 0 0] 98) = W := ⟨_, rfl⟩
  have hb1 : Below w.heap.size w W1 := by rw [← hW1]; exact bl_alloc (Below.refl _ w) _
  obtain ⟨q, hq⟩ : ∃ q, w.heap.size = q := ⟨_, rfl⟩
  have HZ : Hid (W1.heap[q]? = some (.cells #[.int .i64 0, .slice none 0 0, .slice none 0 0] 98 (0, 0))) := by show _ = _; rw [← hW1, ← hq]; exact blk_new w _
  have hqw : Hid (w.heap.size ≤ q) := by show _ ≤ _; rw [hq]; exact Nat.le_refl _
  have B1 := Lib.hid hb1
  have HR1 := Lib.hid (h.below hb1 (Nat.le_refl _))
  have HB := Lib.hid hbs
  have HBY := Lib.hid hby
  have SE := Lib.hid sE
  have T1 := Lib.hid (rdNum_back (lim := 20) (lebI E.length ++ E.flatMap entI) hlv20 (by omega))
  have T2 := Lib.hid (rdNum_back (lim := bs.length) (E.flatMap entI) hlL (by omega))
  have hwl : IntKind.i64.wrap (lv : Int) = (lv : Int) := by rw [IntKind.wrap_i64]; omega
  have hwb : IntKind.u64.wrap (bs.length : Int) = (bs.length : Int) := by rw [IntKind.wrap_u64]; omega
  clear h hb1 hbs hby sE
  go_enter Tryz.func104, Tryz.ntmps104
  go_wp2_with fail
  refine (pRead_calls _ A c bs (by omega) HBY.out HR1.out).mono ?_
  rintro e w2 ⟨g, rfl, hg2, hr2, hb2⟩
  obtain ⟨B, hB⟩ : ∃ B, w2.heap.size = B := ⟨_, rfl⟩
  rw [hB, HB.out] at hr2
  have R2 := Lib.hid hr2
  have Z2 : Hid (w2.heap[q]? = some (.cells #[.int .i64 0, .slice none 0 0, .slice none 0 0] 98 (0, 0))) := blk_below hb2 HZ.out (blk_lt HZ.out)
  have hqg : Hid (q < g) := Nat.lt_of_lt_of_le (blk_lt HZ.out) hg2
  have B2 := Lib.hid (bl_then B1.out B1.out.size hb2)
  clear hr2 hb2 hB hg2 hW1 hq
  go_wp2_with fail
  refine (prNum_calls True B g _ _ false 20 _ _ _ T1.out R2.out).mono ?_
  rintro e w3 ⟨rfl, hr3, hg3⟩
  have R3 := Lib.hid hr3
  have Z3 : Hid (w3.heap[q]? = some (.cells #[.int .i64 0, .slice none 0 0, .slice none 0 0] 98 (0, 0))) := (hg3.block q (blk_lt Z2.out) (fun e => by injection e with e; have := hqg.out; omega)).trans Z2.out
  have B3 := Lib.hid (B2.out.grown hg3 B2.out.size (fun k e => by injection e with e; have := hqg.out; have := hqw.out; omega))
  clear hr3 hg3 R2 Z2 B2
  have P3 : Hid (OfS w B g q w3.heap.size lv (.slice none 0 0) (.slice none 0 0) [] [] (w3.alloc (.cells #[.int .i64 (lv : Int), .slice none 0 0, .slice none 0 0] 98)) (lebI E.length ++ E.flatMap entI)) := by
    have ha : Below w3.heap.size w3 (w3.alloc (.cells #[.int .i64 (lv : Int), .slice none 0 0, .slice none 0 0] 98)) := bl_alloc (Below.refl _ _) _
    exact ⟨R3.out.below (bl_then (Below.refl B w3) R3.out.2.1 ha), blk_below ha Z3.out (blk_lt Z3.out), blk_new w3 _, Own.nil, Own.nil, bl_then B3.out B3.out.size ha, hqw.out, hqg.out, R3.out.1, R3.out.2.1⟩
  go_wp2_with fail
  refine (prNum_calls True B g _ _ false bs.length _ _ _ T2.out P3.out.rd0).mono ?_
  rintro e w4 ⟨rfl, hr4, hg4⟩
  obtain ⟨q6, hq6, P4⟩ : ∃ q6, w3.heap.size = q6 ∧ Hid (OfS w B g q q6 lv (.slice none 0 0) (.slice none 0 0) [] [] w4 (E.flatMap entI)) := ⟨_, rfl, P3.out.step ⟨hr4, Chg.grown hg4 rfl⟩⟩
  rw [hq6]
  clear hr4 hg4 P3 hq6 Z3 B3 R3
  go_wp2
  have lv0 : ((lv : Int) == 0) = true := by rw [beq_iff_eq]; have := hlv.out; omega
  go_loopg [7] E.length (fun m v wr => ∃ (done more : List Entry) (u : Value), v = .int .u64 (m : Int) ∧ m = more.length ∧ Hid (done ++ more = E) ∧ Hid (OfS w B g q q6 lv u (.slice none 0 0) done [] wr (more.flatMap entI)))
  case atStart => exact ⟨[], E, .slice none 0 0, by go_num, rfl, rfl, P4.out⟩
  case round =>
    obtain ⟨done, more, ue, rfl, hm, hd, hs⟩ := hrel
    rcases more with _ | ⟨⟨xk, xv⟩, more⟩
    · have hg0 : gk = 0 := by simpa using hm
      subst hg0
      have hE : Hid (done = E) := by show _ = _; have := hd.out; simpa using this
      obtain ⟨A1, c1, rfl, i1, i1', e1, hA⟩ := hs.out.own1.rd Entry.ok
      have HA := Lib.hid hA
      have hq61 : q < q6 + 1 := by have := hs.out.2.2.2.2.2.2; omega
      have HQ := Lib.hid hq61
      clear hA hq61
      have HN : Hid (NdAt wr ⟨A1, c1, none, 0⟩ ⟨lv, E, []⟩) := by
        rw [← hE.out]
        exact ⟨i1, Nat.le_refl _, e1, .inl rfl, (fun x hx => by have := SE.out x (hE.out ▸ hx); omega), (fun k hk => by cases hk), (by show done.length ≤ _; rw [hE.out]; omega), Nat.zero_le _⟩
      have HL : Hid ((done.length : Nat) = E.length) := congrArg List.length hE.out
      rw [HL.out] at hs
      have HR := nodeRight_calls wr A1 c1 none 0 lv E [] HN.out
      rw [hr.out] at HR
      have HRR := Lib.hid HR
      have zz0 := blk_cell hs.out.blkN 0
      have zz1 := blk_cell hs.out.blkN 1
      have zz2 := blk_cell hs.out.blkN 2
      have zzl := blk_lt hs.out.blkN
      have hl0 : (([] : List Int).length : Int) = 0 := rfl
      clear HR e1 i1 i1' HL hm
      go_wp2_with fail
      refine (prDone_calls True B g _ [] false hs.out.rd0).mono ?_
      rintro e w5 ⟨rfl, rfl⟩
      go_wp2_with fail
      refine HRR.out.mono ?_
      rintro e w6 ⟨rfl, hb6⟩
      have H6 := Lib.hid (hs.out.below (bl_then (Below.refl _ _) (Nat.le_refl _) hb6))
      have N6 := Lib.hid (HN.out.below hb6)
      have yy0 := blk_cell H6.out.blkN 0
      have yy1 := blk_cell H6.out.blkN 1
      have yy2 := blk_cell H6.out.blkN 2
      have yyl := blk_lt H6.out.blkN
      have xx0 := blk_cell H6.out.blkQ 0
      have xx1 := blk_cell H6.out.blkQ 1
      have xx2 := blk_cell H6.out.blkQ 2
      have xxl := blk_lt H6.out.blkQ
      have xf0 := blk_free H6.out.blkQ 0
      have xf1 := blk_free H6.out.blkQ 1
      have xf2 := blk_free H6.out.blkQ 2
      have hqq : q6 ≠ q := by have := H6.out.2.2.2.2.2.2; omega
      clear zz0 zz1 zz2 zzl hb6 HRR
      go_wp2
      refine ret_row_slot2 #[.int .i64 (lv : Int), .slice A1 E.length c1, .slice none 0 0] (g := q) (by rfl) (by rfl) Tryz.underlying98 (by rfl) rfl (by kernel_rfl) (rowOf_blk (blk_set' (blk_set' (blk_set' H6.out.blkQ 0 _ rfl) 1 _ rfl) 2 _ rfl)) ?_
      have hqw2 : w.heap.size ≤ q := hqw.out
      have hbq := bl_set (i := 2) (bl_set (i := 1) (bl_set (i := 0) (Below.refl q w6) (Nat.le_refl _) (.int .i64 (lv : Int))) (Nat.le_refl _) (.slice A1 E.length c1)) (Nat.le_refl _) (.slice none 0 0)
      refine ⟨⟨A1, c1, none, 0⟩, rfl, ?_, ⟨?_, ?_⟩, ?_⟩
      · refine N6.out.chg (F := fun i => i = q) (Chg.trans (F := fun i => i = q) (G := fun i => i = q) (Chg.trans (F := fun i => i = q) (G := fun i => i = q) (Chg.set (F := fun i => i = q) w6 _ rfl) (Chg.set (F := fun i => i = q) _ _ rfl) (fun _ _ h => h)) (Chg.set (F := fun i => i = q) _ _ rfl) (fun _ _ h => h)) ?_ ?_
        · intro x hx
          have h1 := HA.out x hx; have h2 := HQ.out; intro e; omega
        · intro x hx
          cases hx
      · intro x hx
        have h1 := HA.out x hx; have h2 := HQ.out; omega
      · intro x hx
        cases hx
      · exact bl_set (bl_set (bl_set H6.out.2.2.2.2.2.1 hqw2 _) hqw2 _) hqw2 _
    · obtain ⟨n', hn'⟩ : ∃ n', gk = n' + 1 := ⟨gk - 1, by simp at hm; omega⟩
      subst hn'
      have hn2 : n' = more.length := by simpa using hm
      have hdl := congrArg List.length hd.out
      simp only [List.length_append, List.length_cons] at hdl
      have hkv := SE.out ⟨xk, xv⟩ (by rw [← hd.out]; simp)
      dsimp only at hkv
      have hk : xk.size ≤ 40 := hkv.1
      have hv : xv.size ≤ 200 := hkv.2
      clear hkv
      subst hn2
      have hwn : IntKind.u64.wrap (more.length : Int) = (more.length : Int) := by rw [IntKind.wrap_u64]; omega
      have m1 : Hid ((done.length + 1) * 32 ≤ 140737488355328) := by show _ ≤ _; omega
      have m2 : Hid (done.length + 1 ≤ 140737488355328) := by show _ ≤ _; omega
      have tEn : Hid ((Value.agg #[.string ⟨#[]⟩, .string ⟨#[]⟩]).cells.size = 2) := rfl
      have nn : Hid (([⟨xk, xv⟩] : List Entry) ≠ []) := by show _ ≠ _; simp
      have P0' := hs.out.below (w' := wr.drew) (bl_drewN (Below.refl _ _) 1)
      have P0 := Lib.hid P0'
      have S0 := P0.out.row1
      have R0 : Hid (RAt 241 True B g wr.drew (textI xk ++ (textI xv ++ more.flatMap entI)) false) := by show RAt _ _ _ _ _ _ _; have := P0.out.rd0; simpa [entI] using this
      have zz0 := blk_cell hs.out.blkN 0
      have zzl := blk_lt hs.out.blkN
      clear P0' hm hdl
      go_upto_region 8 with fail
      refine wp_region_noPanic ?_
      refine wp_regionZ 8 (OfR q6 1 ue) (by kernel_rfl) ?_
      refine AnyZ.takeU [8] (i := 0) (oi := ⟨some 26, _, _, _, _, _⟩) (v := ?_) rfl (by kernel_rfl) (by kernel_rfl) (by kernel_rfl) (by kernel_rfl) (by kernel_rfl) (by kernel_rfl) (fun _ _ _ h => h) (Or.inl ⟨by rfl, ?_⟩) (by assumption) ?_
      rotate_left
      · (intro w hSw; (try dsimp only at hSw); obtain ⟨k6, kl⟩ := hSw; (go_simp <;> with_reducible rfl))
      try simp only [Act.put, List.setIfInBounds_toArray, List.set_cons_zero, List.set_cons_succ]
      refine AnyZ.takeU [8] (i := 1) (oi := ⟨some 27, _, _, _, _, _⟩) (v := ?_) rfl (by kernel_rfl) (by kernel_rfl) (by kernel_rfl) (by kernel_rfl) (by kernel_rfl) (by kernel_rfl) (fun _ _ _ h => h) (Or.inl ⟨by rfl, ?_⟩) (by assumption) ?_
      rotate_left
      · (intro w hSw; (try dsimp only at hSw); obtain ⟨k6, kl⟩ := hSw; (go_simp <;> with_reducible rfl))
      try simp only [Act.put, List.setIfInBounds_toArray, List.set_cons_zero, List.set_cons_succ]
      refine AnyZ.takeU [8] (i := 2) (oi := ⟨some 28, _, _, _, _, _⟩) (v := ?_) rfl (by kernel_rfl) (by kernel_rfl) (by kernel_rfl) (by kernel_rfl) (by kernel_rfl) (by kernel_rfl) (fun _ _ _ h => h) (Or.inl ⟨by rfl, ?_⟩) (by assumption) ?_
      rotate_left
      · (intro w hSw; (try dsimp only at hSw); obtain ⟨k6, kl⟩ := hSw; (go_simp <;> with_reducible rfl))
      try simp only [Act.put, List.setIfInBounds_toArray, List.set_cons_zero, List.set_cons_succ]
      refine AnyZ.takeU [8] (i := 3) (oi := ⟨some 29, _, _, _, _, _⟩) (v := ?_) rfl (by kernel_rfl) (by kernel_rfl) (by kernel_rfl) (by kernel_rfl) (by kernel_rfl) (by kernel_rfl) (fun _ _ _ h => h) (Or.inl ⟨by rfl, ?_⟩) (by assumption) ?_
      rotate_left
      · (intro w hSw; (try dsimp only at hSw); obtain ⟨k6, kl⟩ := hSw; (go_simp <;> with_reducible rfl))
      try simp only [Act.put, List.setIfInBounds_toArray, List.set_cons_zero, List.set_cons_succ]
      refine AnyZ.one (i := 4) (by kernel_rfl) rfl (fun K hK => ?_)
      go_simp
      go_at_call 152
      refine (entry_calls True B g _ xk xv (more.flatMap entI) hk hv R0.out).mono ?_
      rintro e w5 ⟨rfl, h5⟩
      have P5 := Lib.hid (P0.out.step h5)
      have S5 := P5.out.row1
      have P6 := Lib.hid (P5.out.below (w' := w5.alloc (.cells #[.string xk, .string xv] 113)) (bl_alloc (Below.refl _ w5) _))
      have S6 := P6.out.row1
      have hz6 := P6.out.base
      have O6 := P6.out.own1
      have N6 : Hid (Rd Entry.enc 2 (w5.alloc (.cells #[.string xk, .string xv] 113)) (some ⟨w5.heap.size, 0, none⟩) [⟨xk, xv⟩]) := Rd.lit (blk_new w5 _) rfl
      clear h5
      refine hK.out _ _ (.inr (by assumption)) ?_
      clear hK K
      try simp only [Act.put, List.setIfInBounds_toArray, List.set_cons_zero, List.set_cons_succ]
      refine AnyZ.one (i := 5) (by kernel_rfl) rfl (fun K hK => ?_)
      go_simp
      refine hK.out _ _ (.inr (by assumption)) ?_
      clear hK K
      try simp only [Act.put, List.setIfInBounds_toArray, List.set_cons_zero, List.set_cons_succ]
      refine AnyZ.one (i := 6) (by kernel_rfl) rfl (fun K hK => ?_)
      refine at_step rfl (op_ownN Entry.ok (.tmp 27) (.tmp 31) _ _ _ _ rfl Tryz.underlying22 infoEn tEn.out (q6 + 1) ue done (some ⟨w5.heap.size, 0, none⟩) 1 [⟨xk, xv⟩] 1 rfl nn.out rfl rfl O6 N6.out hz6 m1.out m2.out ?_)
      intro g7 cap7 w7 ho7 hg7 hat7 hlt7
      obtain ⟨P8, S7, f7⟩ := P6.out.appE ho7 hg7
      have k7 := S7.1
      have l7 := S7.2
      clear ho7 hg7 hat7 hlt7
      refine hK.out _ _ (.inr (by assumption)) ?_
      clear hK K
      try simp only [Act.put, List.setIfInBounds_toArray, List.set_cons_zero, List.set_cons_succ]
      refine AnyZ.takeU [8] (i := 7) (oi := ⟨some 33, _, _, _, _, _⟩) (v := ?_) rfl (by kernel_rfl) (by kernel_rfl) (by kernel_rfl) (by kernel_rfl) (by kernel_rfl) (by kernel_rfl) (fun _ _ _ h => h) (Or.inl ⟨by rfl, ?_⟩) (by assumption) ?_
      rotate_left
      · (intro w hSw; (try dsimp only at hSw); obtain ⟨k6, kl⟩ := hSw; (go_simp <;> with_reducible rfl))
      try simp only [Act.put, List.setIfInBounds_toArray, List.set_cons_zero, List.set_cons_succ]
      refine AnyZ.one (i := 8) (by kernel_rfl) rfl (fun K hK => ?_)
      go_simp
      refine hK.out _ _ (.inl rfl) ?_
      clear hK K
      try simp only [Act.put, List.setIfInBounds_toArray, List.set_cons_zero, List.set_cons_succ]
      refine AnyZ.done (by kernel_rfl) ?_ _
      refine NoPanic.normal ?_
      go_wp2
      go_roundg more.length
      case measure => omega
      case rel =>
        refine ⟨done ++ [⟨xk, xv⟩], more, .slice (some ⟨g7, 0, none⟩) (done.length + 1) cap7, by go_num, rfl, ?_, P8⟩
        show _ = _
        have := hd.out
        simpa using this
set_option maxRecDepth 100000 in
set_option maxHeartbeats 4000000 in
theorem nodeOfK_calls (w : World) (A : Option Addr) (c : Nat) (lv : Nat) (bs : List Int) (K : List Kid) (hlv : 1 ≤ lv) (sK : ∀ x ∈ K, x.last.size ≤ 40) (hi : KidsOk K) (hlv20 : lv ≤ 20) (hbs : bs = lebI lv ++ (lebI K.length ++ K.flatMap kidI)) (hr : Hid (NodeP.right ⟨lv, [], K⟩ = 0)) (lE : K.length ≤ 100) (hlL : K.length ≤ bs.length) (hcap : bs.length ≤ c) (hlen : bs.length ≤ 131072) (hby : bytesL bs) (h : Rd u8e 1 w A bs) :
    Calls Tryz.prog 104 #[.slice A bs.length c] w fun e w' => OfA w w' lv [] K e := by
  obtain ⟨W1, hW1⟩ : ∃ W, w.alloc (.cells #[.int .i64 0, .slice none 0 0, .slice none 0 0] 98) = W := ⟨_, rfl⟩
  have hb1 : Below w.heap.size w W1 := by rw [← hW1]; exact bl_alloc (Below.refl _ w) _
  obtain ⟨q, hq⟩ : ∃ q, w.heap.size = q := ⟨_, rfl⟩
  have HZ : Hid (W1.heap[q]? = some (.cells #[.int .i64 0, .slice none 0 0, .slice none 0 0] 98 (0, 0))) := by show _ = _; rw [← hW1, ← hq]; exact blk_new w _
  have hqw : Hid (w.heap.size ≤ q) := by show _ ≤ _; rw [hq]; exact Nat.le_refl _
  have B1 := Lib.hid hb1
  have HR1 := Lib.hid (h.below hb1 (Nat.le_refl _))
  have HB := Lib.hid hbs
  have HBY := Lib.hid hby
  have SK := Lib.hid sK
  have HI := Lib.hid hi
  have T1 := Lib.hid (rdNum_back (lim := 20) (lebI K.length ++ K.flatMap kidI) hlv20 (by omega))
  have T2 := Lib.hid (rdNum_back (lim := bs.length) (K.flatMap kidI) hlL (by omega))
  have hwl : IntKind.i64.wrap (lv : Int) = (lv : Int) := by rw [IntKind.wrap_i64]; omega
  have hwb : IntKind.u64.wrap (bs.length : Int) = (bs.length : Int) := by rw [IntKind.wrap_u64]; omega
  clear h hb1 hbs hby sK hi
  go_enter Tryz.func104, Tryz.ntmps104
  go_wp2_with fail
  refine (pRead_calls _ A c bs (by omega) HBY.out HR1.out).mono ?_
  rintro e w2 ⟨g, rfl, hg2, hr2, hb2⟩
  obtain ⟨B, hB⟩ : ∃ B, w2.heap.size = B := ⟨_, rfl⟩
  rw [hB, HB.out] at hr2
  have R2 := Lib.hid hr2
  have Z2 : Hid (w2.heap[q]? = some (.cells #[.int .i64 0, .slice none 0 0, .slice none 0 0] 98 (0, 0))) := blk_below hb2 HZ.out (blk_lt HZ.out)
  have hqg : Hid (q < g) := Nat.lt_of_lt_of_le (blk_lt HZ.out) hg2
  have B2 := Lib.hid (bl_then B1.out B1.out.size hb2)
  clear hr2 hb2 hB hg2 hW1 hq
  go_wp2_with fail
  refine (prNum_calls True B g _ _ false 20 _ _ _ T1.out R2.out).mono ?_
  rintro e w3 ⟨rfl, hr3, hg3⟩
  have R3 := Lib.hid hr3
  have Z3 : Hid (w3.heap[q]? = some (.cells #[.int .i64 0, .slice none 0 0, .slice none 0 0] 98 (0, 0))) := (hg3.block q (blk_lt Z2.out) (fun e => by injection e with e; have := hqg.out; omega)).trans Z2.out
  have B3 := Lib.hid (B2.out.grown hg3 B2.out.size (fun k e => by injection e with e; have := hqg.out; have := hqw.out; omega))
  clear hr3 hg3 R2 Z2 B2
  have P3 : Hid (OfS w B g q w3.heap.size lv (.slice none 0 0) (.slice none 0 0) [] [] (w3.alloc (.cells #[.int .i64 (lv : Int), .slice none 0 0, .slice none 0 0] 98)) (lebI K.length ++ K.flatMap kidI)) := by
    have ha : Below w3.heap.size w3 (w3.alloc (.cells #[.int .i64 (lv : Int), .slice none 0 0, .slice none 0 0] 98)) := bl_alloc (Below.refl _ _) _
    exact ⟨R3.out.below (bl_then (Below.refl B w3) R3.out.2.1 ha), blk_below ha Z3.out (blk_lt Z3.out), blk_new w3 _, Own.nil, Own.nil, bl_then B3.out B3.out.size ha, hqw.out, hqg.out, R3.out.1, R3.out.2.1⟩
  go_wp2_with fail
  refine (prNum_calls True B g _ _ false bs.length _ _ _ T2.out P3.out.rd0).mono ?_
  rintro e w4 ⟨rfl, hr4, hg4⟩
  obtain ⟨q6, hq6, P4⟩ : ∃ q6, w3.heap.size = q6 ∧ Hid (OfS w B g q q6 lv (.slice none 0 0) (.slice none 0 0) [] [] w4 (K.flatMap kidI)) := ⟨_, rfl, P3.out.step ⟨hr4, Chg.grown hg4 rfl⟩⟩
  rw [hq6]
  clear hr4 hg4 P3 hq6 Z3 B3 R3
  go_wp2
  have lv0 : ((lv : Int) == 0) = false := by rw [beq_eq_false_iff_ne]; omega
  go_loopg [7] K.length (fun m v wr => ∃ (done more : List Kid) (u : Value), v = .int .u64 (m : Int) ∧ m = more.length ∧ Hid (done ++ more = K) ∧ Hid (OfS w B g q q6 lv (.slice none 0 0) u [] done wr (more.flatMap kidI)))
  case atStart => exact ⟨[], K, .slice none 0 0, by go_num, rfl, rfl, P4.out⟩
  case round =>
    obtain ⟨done, more, uk, rfl, hm, hd, hs⟩ := hrel
    rcases more with _ | ⟨⟨xk, xi0⟩, more⟩
    · have hg0 : gk = 0 := by simpa using hm
      subst hg0
      have hE : Hid (done = K) := by show _ = _; have := hd.out; simpa using this
      obtain ⟨A1, c1, rfl, i1, i1', e1, hA⟩ := hs.out.own2.rd Kid.ok
      have HA := Lib.hid hA
      have hq61 : q < q6 + 1 := by have := hs.out.2.2.2.2.2.2; omega
      have HQ := Lib.hid hq61
      clear hA hq61
      have HN : Hid (NdAt wr ⟨none, 0, A1, c1⟩ ⟨lv, [], K⟩) := by
        rw [← hE.out]
        exact ⟨Nat.le_refl _, i1, .inl rfl, e1, (fun x hx => by cases hx), (fun k hk => by have := SK.out k (hE.out ▸ hk); omega), Nat.zero_le _, (by show done.length ≤ _; rw [hE.out]; omega)⟩
      have HL : Hid ((done.length : Nat) = K.length) := congrArg List.length hE.out
      rw [HL.out] at hs
      have HR := nodeRight_calls wr none 0 A1 c1 lv [] K HN.out
      rw [hr.out] at HR
      have HRR := Lib.hid HR
      have zz0 := blk_cell hs.out.blkN 0
      have zz1 := blk_cell hs.out.blkN 1
      have zz2 := blk_cell hs.out.blkN 2
      have zzl := blk_lt hs.out.blkN
      have hl0 : (([] : List Int).length : Int) = 0 := rfl
      clear HR e1 i1 i1' HL hm
      go_wp2_with fail
      refine (prDone_calls True B g _ [] false hs.out.rd0).mono ?_
      rintro e w5 ⟨rfl, rfl⟩
      go_wp2_with fail
      refine HRR.out.mono ?_
      rintro e w6 ⟨rfl, hb6⟩
      have H6 := Lib.hid (hs.out.below (bl_then (Below.refl _ _) (Nat.le_refl _) hb6))
      have N6 := Lib.hid (HN.out.below hb6)
      have yy0 := blk_cell H6.out.blkN 0
      have yy1 := blk_cell H6.out.blkN 1
      have yy2 := blk_cell H6.out.blkN 2
      have yyl := blk_lt H6.out.blkN
      have xx0 := blk_cell H6.out.blkQ 0
      have xx1 := blk_cell H6.out.blkQ 1
      have xx2 := blk_cell H6.out.blkQ 2
      have xxl := blk_lt H6.out.blkQ
      have xf0 := blk_free H6.out.blkQ 0
      have xf1 := blk_free H6.out.blkQ 1
      have xf2 := blk_free H6.out.blkQ 2
      have hqq : q6 ≠ q := by have := H6.out.2.2.2.2.2.2; omega
      clear zz0 zz1 zz2 zzl hb6 HRR
      go_wp2
      refine ret_row_slot2 #[.int .i64 (lv : Int), .slice none 0 0, .slice A1 K.length c1] (g := q) (by rfl) (by rfl) Tryz.underlying98 (by rfl) rfl (by kernel_rfl) (rowOf_blk (blk_set' (blk_set' (blk_set' H6.out.blkQ 0 _ rfl) 1 _ rfl) 2 _ rfl)) ?_
      have hqw2 : w.heap.size ≤ q := hqw.out
      have hbq := bl_set (i := 2) (bl_set (i := 1) (bl_set (i := 0) (Below.refl q w6) (Nat.le_refl _) (.int .i64 (lv : Int))) (Nat.le_refl _) (.slice none 0 0)) (Nat.le_refl _) (.slice A1 K.length c1)
      refine ⟨⟨none, 0, A1, c1⟩, rfl, ?_, ⟨?_, ?_⟩, ?_⟩
      · refine N6.out.chg (F := fun i => i = q) (Chg.trans (F := fun i => i = q) (G := fun i => i = q) (Chg.trans (F := fun i => i = q) (G := fun i => i = q) (Chg.set (F := fun i => i = q) w6 _ rfl) (Chg.set (F := fun i => i = q) _ _ rfl) (fun _ _ h => h)) (Chg.set (F := fun i => i = q) _ _ rfl) (fun _ _ h => h)) ?_ ?_
        · intro x hx
          cases hx
        · intro x hx
          have h1 := HA.out x hx; have h2 := HQ.out; intro e; omega
      · intro x hx
        cases hx
      · intro x hx
        have h1 := HA.out x hx; have h2 := HQ.out; omega
      · exact bl_set (bl_set (bl_set H6.out.2.2.2.2.2.1 hqw2 _) hqw2 _) hqw2 _
    · obtain ⟨n', hn'⟩ : ∃ n', gk = n' + 1 := ⟨gk - 1, by simp at hm; omega⟩
      subst hn'
      have hn2 : n' = more.length := by simpa using hm
      have hdl := congrArg List.length hd.out
      simp only [List.length_append, List.length_cons] at hdl
      have hk : xk.size ≤ 40 := SK.out ⟨xk, xi0⟩ (by rw [← hd.out]; simp)
      have hv0 := HI.out ⟨xk, xi0⟩ (by rw [← hd.out]; simp)
      dsimp only at hv0
      obtain ⟨xi, rfl⟩ : ∃ xi : Nat, xi0 = (xi : Int) := ⟨xi0.toNat, by omega⟩
      have hv : xi < 18446744073709551616 := by omega
      clear hv0
      subst hn2
      have hwn : IntKind.u64.wrap (more.length : Int) = (more.length : Int) := by rw [IntKind.wrap_u64]; omega
      have m1 : Hid ((done.length + 1) * 24 ≤ 140737488355328) := by show _ ≤ _; omega
      have m2 : Hid (done.length + 1 ≤ 140737488355328) := by show _ ≤ _; omega
      have tEn : Hid ((Value.agg #[.string ⟨#[]⟩, .int .u64 0]).cells.size = 2) := rfl
      have nn : Hid (([⟨xk, (xi : Int)⟩] : List Kid) ≠ []) := by show _ ≠ _; simp
      have P0' := hs.out.below (w' := wr.drew) (bl_drewN (Below.refl _ _) 1)
      have P0 := Lib.hid P0'
      have S0 := P0.out.row2
      have R0 : Hid (RAt 241 True B g wr.drew (textI xk ++ (lebI xi ++ more.flatMap kidI)) false) := by show RAt _ _ _ _ _ _ _; have := P0.out.rd0; simpa [kidI] using this
      have zz0 := blk_cell hs.out.blkN 0
      have zzl := blk_lt hs.out.blkN
      clear P0' hm hdl
      go_upto_region 9 with fail
      refine wp_region_noPanic ?_
      refine wp_regionZ 8 (OfR q6 2 uk) (by kernel_rfl) ?_
      refine AnyZ.takeU [8] (i := 0) (oi := ⟨some 34, _, _, _, _, _⟩) (v := ?_) rfl (by kernel_rfl) (by kernel_rfl) (by kernel_rfl) (by kernel_rfl) (by kernel_rfl) (by kernel_rfl) (fun _ _ _ h => h) (Or.inl ⟨by rfl, ?_⟩) (by assumption) ?_
      rotate_left
      · (intro w hSw; (try dsimp only at hSw); obtain ⟨k6, kl⟩ := hSw; (go_simp <;> with_reducible rfl))
      try simp only [Act.put, List.setIfInBounds_toArray, List.set_cons_zero, List.set_cons_succ]
      refine AnyZ.takeU [8] (i := 1) (oi := ⟨some 35, _, _, _, _, _⟩) (v := ?_) rfl (by kernel_rfl) (by kernel_rfl) (by kernel_rfl) (by kernel_rfl) (by kernel_rfl) (by kernel_rfl) (fun _ _ _ h => h) (Or.inl ⟨by rfl, ?_⟩) (by assumption) ?_
      rotate_left
      · (intro w hSw; (try dsimp only at hSw); obtain ⟨k6, kl⟩ := hSw; (go_simp <;> with_reducible rfl))
      try simp only [Act.put, List.setIfInBounds_toArray, List.set_cons_zero, List.set_cons_succ]
      refine AnyZ.takeU [8] (i := 2) (oi := ⟨some 36, _, _, _, _, _⟩) (v := ?_) rfl (by kernel_rfl) (by kernel_rfl) (by kernel_rfl) (by kernel_rfl) (by kernel_rfl) (by kernel_rfl) (fun _ _ _ h => h) (Or.inl ⟨by rfl, ?_⟩) (by assumption) ?_
      rotate_left
      · (intro w hSw; (try dsimp only at hSw); obtain ⟨k6, kl⟩ := hSw; (go_simp <;> with_reducible rfl))
      try simp only [Act.put, List.setIfInBounds_toArray, List.set_cons_zero, List.set_cons_succ]
      refine AnyZ.takeU [8] (i := 3) (oi := ⟨some 37, _, _, _, _, _⟩) (v := ?_) rfl (by kernel_rfl) (by kernel_rfl) (by kernel_rfl) (by kernel_rfl) (by kernel_rfl) (by kernel_rfl) (fun _ _ _ h => h) (Or.inl ⟨by rfl, ?_⟩) (by assumption) ?_
      rotate_left
      · (intro w hSw; (try dsimp only at hSw); obtain ⟨k6, kl⟩ := hSw; (go_simp <;> with_reducible rfl))
      try simp only [Act.put, List.setIfInBounds_toArray, List.set_cons_zero, List.set_cons_succ]
      refine AnyZ.one (i := 4) (by kernel_rfl) rfl (fun K hK => ?_)
      go_simp
      go_at_call 153
      refine (kid_calls True B g _ xk xi (more.flatMap kidI) hk hv R0.out).mono ?_
      rintro e w5 ⟨rfl, h5⟩
      have P5 := Lib.hid (P0.out.step h5)
      have S5 := P5.out.row2
      have P6 := Lib.hid (P5.out.below (w' := w5.alloc (.cells #[.string xk, .int .u64 (xi : Int)] 109)) (bl_alloc (Below.refl _ w5) _))
      have S6 := P6.out.row2
      have hz6 := P6.out.base
      have O6 := P6.out.own2
      have N6 : Hid (Rd Kid.enc 2 (w5.alloc (.cells #[.string xk, .int .u64 (xi : Int)] 109)) (some ⟨w5.heap.size, 0, none⟩) [⟨xk, (xi : Int)⟩]) := Rd.lit (blk_new w5 _) rfl
      clear h5
      refine hK.out _ _ (.inr (by assumption)) ?_
      clear hK K
      try simp only [Act.put, List.setIfInBounds_toArray, List.set_cons_zero, List.set_cons_succ]
      refine AnyZ.one (i := 5) (by kernel_rfl) rfl (fun K hK => ?_)
      go_simp
      refine hK.out _ _ (.inr (by assumption)) ?_
      clear hK K
      try simp only [Act.put, List.setIfInBounds_toArray, List.set_cons_zero, List.set_cons_succ]
      refine AnyZ.one (i := 6) (by kernel_rfl) rfl (fun K hK => ?_)
      refine at_step rfl (op_ownN Kid.ok (.tmp 35) (.tmp 39) _ _ _ _ rfl Tryz.underlying96 infoKn tEn.out (q6 + 1) uk done (some ⟨w5.heap.size, 0, none⟩) 1 [⟨xk, (xi : Int)⟩] 1 rfl nn.out rfl rfl O6 N6.out hz6 m1.out m2.out ?_)
      intro g7 cap7 w7 ho7 hg7 hat7 hlt7
      obtain ⟨P8, S7, f7⟩ := P6.out.appK ho7 hg7
      have k7 := S7.1
      have l7 := S7.2
      clear ho7 hg7 hat7 hlt7
      refine hK.out _ _ (.inr (by assumption)) ?_
      clear hK K
      try simp only [Act.put, List.setIfInBounds_toArray, List.set_cons_zero, List.set_cons_succ]
      refine AnyZ.takeU [8] (i := 7) (oi := ⟨some 41, _, _, _, _, _⟩) (v := ?_) rfl (by kernel_rfl) (by kernel_rfl) (by kernel_rfl) (by kernel_rfl) (by kernel_rfl) (by kernel_rfl) (fun _ _ _ h => h) (Or.inl ⟨by rfl, ?_⟩) (by assumption) ?_
      rotate_left
      · (intro w hSw; (try dsimp only at hSw); obtain ⟨k6, kl⟩ := hSw; (go_simp <;> with_reducible rfl))
      try simp only [Act.put, List.setIfInBounds_toArray, List.set_cons_zero, List.set_cons_succ]
      refine AnyZ.one (i := 8) (by kernel_rfl) rfl (fun K hK => ?_)
      go_simp
      refine hK.out _ _ (.inl rfl) ?_
      clear hK K
      try simp only [Act.put, List.setIfInBounds_toArray, List.set_cons_zero, List.set_cons_succ]
      refine AnyZ.done (by kernel_rfl) ?_ _
      refine NoPanic.normal ?_
      go_wp2
      go_roundg more.length
      case measure => omega
      case rel =>
        refine ⟨done ++ [⟨xk, (xi : Int)⟩], more, .slice (some ⟨g7, 0, none⟩) (done.length + 1) cap7, by go_num, rfl, ?_, P8⟩
        show _ = _
        have := hd.out
        simpa using this
end Go.Proofs.YtikgplhcadomcaaGreat
