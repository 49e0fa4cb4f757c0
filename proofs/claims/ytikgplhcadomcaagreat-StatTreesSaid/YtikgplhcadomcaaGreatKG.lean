/- A device: what it is in this claim's own words, how it lies in memory. The device's small functions. The device's functions New, Arm. The making of a cache's element, of a slice of one. The device's function Write. What keep does with sectors and maps, behind names. The device's function keep. The device's function Flush. The device's function Crash. slices.Backward over a device's cache. The device's function now. The device's functions Read, Fault. What a law's deeds and fates read as. law04.few, law04.awake. The device's function Copy. A device that nobody made; two devices side by side; texts of bytes. -/
import Derived.Test.YtikgplhcadomcaaGreatKA
import Derived.Great.BuildSlice
import Derived.Deep.RegionLaw
import Derived.Stop.BytesEq
import Derived.Deep.WholeRow
import Derived.Deep.DeepCutAuto
import Derived.RangeFuncBox
import Derived.RangeFuncNested
import Derived.RangeFuncLeaves
import Derived.Shelf.Abstract
import Derived.OwnWalkIn
import Derived.TacticsInMore
import Derived.LoopNIn
import Derived.LoopIn
import Derived.RegionIn
import Derived.Laws.MakeOwn
import Derived.Laws.Externs
import Derived.WalkKit
import Derived.Laws.BytesArg
namespace Go.Proofs.YtikgplhcadomcaaGreat
open Go.RowKit
set_option linter.unusedVariables false
set_option linter.unusedSimpArgs false

/-- A sector: 32 bytes. -/
abbrev Sec := {l : List Int // l.length = 32 ∧ ∀ x ∈ l, 0 ≤ x ∧ x ≤ 255}
def secCells (s : Sec) : List Value := s.1.map (Value.int .u8)
def secV (s : Sec) : Value := .agg (secCells s).toArray
def sec0 : Sec := ⟨List.replicate 32 0, by simp, fun x hx => by rw [List.eq_of_mem_replicate hx]; omega⟩
theorem secCells_len (s : Sec) : (secCells s).length = 32 := by simp [secCells, s.2.1]
theorem secCells_one (s : Sec) : ∀ v ∈ secCells s, v.oneCell' = true := fun v hv => by
  obtain ⟨x, _, rfl⟩ := List.mem_map.1 hv
  rfl
/-- A sector that was written. -/
structure Wr where
  pos : Int
  b : Sec
deriving DecidableEq
def Wr.enc (x : Wr) : List Value := .int .i64 x.pos :: secCells x.b
def Wr.v (x : Wr) : Value := .agg x.enc.toArray
theorem Wr.len (x : Wr) : x.enc.length = 33 := by simp [Wr.enc, secCells_len]
theorem Wr.ok : Enc Wr.enc 33 := ⟨Wr.len, fun x u hu => by
  rcases List.mem_cons.1 hu with rfl | hu
  · rfl
  · exact secCells_one _ _ hu, by omega⟩

structure Dv where
  n : Nat
  kept : List (Int × Sec)
  cache : List Wr
  bad : List (Int × Bool)
  left : Int
  armed : Bool
  dead : Bool

def Dv.cells (D : Dv) (km bm : Nat) (cv : Value) : Array Value := #[.int .i64 D.n, .map (some km), cv, .map (some bm), .int .i64 D.left, .bool D.armed, .bool D.dead]
/-- The device D lies at block g; all its blocks are in F. -/
def DevAt (w : World) (g : Nat) (F : Nat → Prop) (D : Dv) : Prop :=
  ∃ km bm cv, w.heap[g]? = some (.cells (D.cells km bm cv) 140 (0, 0)) ∧ MapI w km secV D.kept ∧ MapI w bm Value.bool D.bad ∧ Own Wr.enc 33 156 0 w cv D.cache ∧
    km ≠ bm ∧ g ≠ km ∧ g ≠ bm ∧ (∀ k, cv.ownBlock = some k → k ≠ g ∧ k ≠ km ∧ k ≠ bm ∧ F k) ∧ F g ∧ F km ∧ F bm ∧ (∀ i, F i → i < w.heap.size) ∧ D.n ≤ 65536 ∧ 0 ≤ D.left ∧ D.left ≤ 9223372036854775807

/-- What a call made of the device at g. -/
def Did (F : Nat → Prop) (w w' : World) (g : Nat) (D : Dv) : Prop := ∃ F', DevAt w' g F' D ∧ Chg F w w' ∧ ∀ i, F' i → F i ∨ w.heap.size ≤ i

section
variable {w w' w'' : World} {g : Nat} {F G : Nat → Prop} {D D' : Dv}
theorem DevAt.chg (h : DevAt w g F D) (hc : Chg G w w') (hG : ∀ i, F i → ¬ G i) : DevAt w' g F D := by
  obtain ⟨km, bm, cv, hb, hk, hm, ho, n1, n2, n3, n4, f1, f2, f3, f4, b1, b2⟩ := h
  exact ⟨km, bm, cv, hc.blk hb (hG _ f1), hk.chg hc (hG _ f2), hm.chg hc (hG _ f3), ho.chg hc (fun k hk => hG _ (n4 k hk).2.2.2), n1, n2, n3, n4, f1, f2, f3, fun i hi => Nat.lt_of_lt_of_le (f4 i hi) hc.size, b1, b2⟩
theorem DevAt.below (h : DevAt w g F D) (hb : Below w.heap.size w w') : DevAt w' g F D := h.chg (Below.chg hb fun _ => False) (fun _ _ h => h)
theorem DevAt.alloc (h : DevAt w g F D) (o : Obj) : DevAt (w.alloc o) g F D := h.below ((Below.refl _ w).alloc (Nat.le_refl _) o)
theorem DevAt.drew (h : DevAt w g F D) : DevAt w.drew g F D := h.below (Below.refl _ w).drew
theorem DevAt.drewN (h : DevAt w g F D) (n : Nat) : DevAt (w.drewN n) g F D := h.below (bl_drewN (Below.refl _ w) n)
theorem DevAt.lt (h : DevAt w g F D) : ∀ i, F i → i < w.heap.size := by obtain ⟨km, bm, cv, hb, hk, hm, ho, n1, n2, n3, n4, f1, f2, f3, f4, b1, b2⟩ := h; exact f4
theorem DevAt.n_le (h : DevAt w g F D) : D.n ≤ 65536 := by obtain ⟨km, bm, cv, hb, hk, hm, ho, n1, n2, n3, n4, f1, f2, f3, f4, b1, b2⟩ := h; exact b1
theorem DevAt.fg (h : DevAt w g F D) : F g := by obtain ⟨km, bm, cv, hb, hk, hm, ho, n1, n2, n3, n4, f1, f2, f3, f4, b1, b2⟩ := h; exact f1
theorem DevAt.glt (h : DevAt w g F D) : g < w.heap.size := h.lt g h.fg
theorem DevAt.left0 (h : DevAt w g F D) : 0 ≤ D.left ∧ D.left ≤ 9223372036854775807 := by obtain ⟨km, bm, cv, hb, hk, hm, ho, n1, n2, n3, n4, f1, f2, f3, f4, b1, b2⟩ := h; exact b2
/-- Its cells, for a walk. -/
theorem DevAt.cells (h : DevAt w g F D) : ∃ (km bm : Nat) (A : Option Addr) (c : Nat), w.cell? ⟨g, 0, none⟩ = some (.int .i64 D.n) ∧ w.cell? ⟨g, 1, none⟩ = some (.map (some km)) ∧ w.cell? ⟨g, 2, none⟩ = some (.slice A D.cache.length c) ∧ w.cell? ⟨g, 3, none⟩ = some (.map (some bm)) ∧
    w.cell? ⟨g, 4, none⟩ = some (.int .i64 D.left) ∧ w.cell? ⟨g, 5, none⟩ = some (.bool D.armed) ∧ w.cell? ⟨g, 6, none⟩ = some (.bool D.dead) ∧ (∀ i, w.frozen? ⟨g, i, none⟩ = false) ∧ MapI w km secV D.kept ∧ MapI w bm Value.bool D.bad ∧
    Own Wr.enc 33 156 0 w (.slice A D.cache.length c) D.cache ∧ Rd Wr.enc 33 w A D.cache ∧ D.cache.length ≤ c := by
  obtain ⟨km, bm, cv, hb, hk, hm, ho, n1, n2, n3, n4, f1, f2, f3, f4, b1, b2⟩ := h
  obtain ⟨A, c, rfl, h1, h2, h3, _⟩ := ho.rd Wr.ok
  refine ⟨km, bm, A, c, ?_, ?_, ?_, ?_, ?_, ?_, ?_, fun i => blk_free hb i, hk, hm, ho, h3, h1⟩ <;> rw [blk_cell hb] <;> rfl
theorem Did.refl (h : DevAt w g F D) : Did F w w g D := ⟨F, h, Chg.refl _ _, fun i hi => .inl hi⟩
theorem Did.of_below (h : DevAt w g F D) (hb : Below w.heap.size w w') : Did F w w' g D := ⟨F, h.below hb, Below.chg hb F, fun i hi => .inl hi⟩
theorem Did.trans (h : ∀ F', DevAt w' g F' D → Did F' w' w'' g D') (k : Did F w w' g D) : Did F w w'' g D' := by
  obtain ⟨F1, h1, c1, s1⟩ := k
  obtain ⟨F2, h2, c2, s2⟩ := h F1 h1
  refine ⟨F2, h2, c1.trans c2 (fun i hi hf => ?_), fun i hi => ?_⟩
  · rcases s1 i hf with e | e
    · exact e
    · omega
  · rcases s2 i hi with e | e
    · exact s1 i e
    · exact .inr (Nat.le_trans c1.size e)
theorem Did.after {F1 : Nat → Prop} (k : Did F1 w' w'' g D') (c1 : Chg F w w') (s1 : ∀ i, F1 i → F i ∨ w.heap.size ≤ i) : Did F w w'' g D' := by
  obtain ⟨F2, h2, c2, s2⟩ := k
  refine ⟨F2, h2, c1.trans c2 (fun i hi hf => ?_), fun i hi => ?_⟩
  · rcases s1 i hf with e | e
    · exact e
    · omega
  · rcases s2 i hi with e | e
    · exact s1 i e
    · exact .inr (Nat.le_trans c1.size e)
/-- Of a device that stands, a device whose cells are told anew: in place. -/
theorem DevAt.put (h : DevAt w g F D) (w' : World) (km bm : Nat) (cv : Value) (hb : w'.heap[g]? = some (.cells (D'.cells km bm cv) 140 (0, 0))) (hk : MapI w' km secV D'.kept) (hm : MapI w' bm Value.bool D'.bad) (ho : Own Wr.enc 33 156 0 w' cv D'.cache)
    (n1 : km ≠ bm) (n2 : g ≠ km) (n3 : g ≠ bm) (n4 : ∀ k, cv.ownBlock = some k → k ≠ g ∧ k ≠ km ∧ k ≠ bm ∧ (F k ∨ w.heap.size ≤ k)) (f2 : F km) (f3 : F bm) (hc : Chg F w w') (b1 : D'.n ≤ 65536) (b2 : 0 ≤ D'.left ∧ D'.left ≤ 9223372036854775807) : Did F w w' g D' := by
  refine ⟨fun i => F i ∨ (w.heap.size ≤ i ∧ i < w'.heap.size), ⟨km, bm, cv, hb, hk, hm, ho, n1, n2, n3, fun k hk => ⟨(n4 k hk).1, (n4 k hk).2.1, (n4 k hk).2.2.1, ?_⟩, .inl h.fg, .inl f2, .inl f3, ?_, b1, b2⟩, hc, fun i hi => hi.imp_right And.left⟩
  · rcases (n4 k hk).2.2.2 with e | e
    · exact .inl e
    · exact .inr ⟨e, (ho.lt k hk).2⟩
  · rintro i (hi | hi)
    · exact Nat.lt_of_lt_of_le (h.lt i hi) hc.size
    · exact hi.2
/-- Stores into its own flat cells. -/
theorem DevAt.flat (h : DevAt w g F D) (hg : w.grownBy w' (some g)) (hD : D'.kept = D.kept ∧ D'.bad = D.bad ∧ D'.n = D.n) (b2 : 0 ≤ D'.left ∧ D'.left ≤ 9223372036854775807)
    (hb : ∀ km bm cv, w.heap[g]? = some (.cells (D.cells km bm cv) 140 (0, 0)) → (D'.cache = D.cache ∧ w'.heap[g]? = some (.cells (D'.cells km bm cv) 140 (0, 0))) ∨ (D'.cache = [] ∧ w'.heap[g]? = some (.cells (D'.cells km bm (.slice none 0 0)) 140 (0, 0)))) : Did F w w' g D' := by
  have h0 := h
  obtain ⟨km, bm, cv, hb0, hk, hm, ho, n1, n2, n3, n4, f1, f2, f3, f4, b1, _⟩ := h
  obtain ⟨e1, e2, e3⟩ := hD
  have hc : Chg F w w' := Chg.grown hg f1
  rcases hb km bm cv hb0 with ⟨e4, hb⟩ | ⟨e4, hb⟩
  · refine h0.put w' km bm cv hb (by rw [e1]; exact hk.grown hg (by simpa using n2.symm)) (by rw [e2]; exact hm.grown hg (by simpa using n3.symm)) ?_ n1 n2 n3 (fun k hk => ⟨(n4 k hk).1, (n4 k hk).2.1, (n4 k hk).2.2.1, .inl (n4 k hk).2.2.2⟩) f2 f3 hc (by omega) b2
    rw [e4]
    refine ho.kept hg ?_
    rcases hq : cv.ownBlock with _ | k
    · exact .inl rfl
    · exact .inr (fun e => (n4 k hq).1 (by injection e))
  · refine h0.put w' km bm _ hb (by rw [e1]; exact hk.grown hg (by simpa using n2.symm)) (by rw [e2]; exact hm.grown hg (by simpa using n3.symm)) (by rw [e4]; exact Own.nil) n1 n2 n3 (fun k hk => by cases hk) f2 f3 hc (by omega) b2
end

/-! ### What is done with it -/
def Dv.act (D : Dv) : Bool × Dv := if D.dead then (false, D) else if !D.armed then (true, D) else if D.left = 0 then (false, { D with dead := true }) else (true, { D with left := D.left - 1 })
def Dv.has (D : Dv) (p : Int) : Bool := decide (0 ≤ p ∧ p < D.n)
def Dv.write (D : Dv) (p : Int) (b : List Int) : Int × Dv :=
  if D.dead then (40, D) else if h : D.has p = true ∧ (b.length = 32 ∧ ∀ x ∈ b, 0 ≤ x ∧ x ≤ 255) then (if D.act.1 then (0, { D.act.2 with cache := D.act.2.cache ++ [⟨p, ⟨b, h.2⟩⟩] }) else (40, D.act.2)) else (1, D)
def Dv.base (D : Dv) (p : Int) : Sec := (look D.kept p).getD sec0
/-- What was written last, the newest first. -/
def lastAt (p : Int) : List Wr → Option Sec
  | [] => none
  | x :: l => (lastAt p l).orElse fun _ => if x.pos = p then some x.b else none
def Dv.now (D : Dv) (p : Int) : Sec := (lastAt p D.cache).getD (D.base p)
/-- The first n bytes of a over those of b. -/
def overS (n : Nat) (a b : Sec) : Sec := ⟨a.1.take n ++ b.1.drop n, by have := a.2.1; have := b.2.1; simp only [List.length_append, List.length_take, List.length_drop]; omega, fun x hx => by
  rcases List.mem_append.1 hx with h | h
  · exact a.2.2 x (List.mem_of_mem_take h)
  · exact b.2.2 x (List.mem_of_mem_drop h)⟩
def keepL (K : List (Int × Sec)) (x : Wr) (n : Nat) : List (Int × Sec) := if overS n x.b ((look K x.pos).getD sec0) = sec0 then del K x.pos else upd K x.pos (overS n x.b ((look K x.pos).getD sec0))
def Dv.flush (D : Dv) : Int × Dv := if D.act.1 then (0, { D.act.2 with kept := D.act.2.cache.foldl (fun K x => keepL K x 32) D.act.2.kept, cache := [] }) else (40, D.act.2)
def Dv.badAt (D : Dv) (p : Int) : Bool := (look D.bad p).getD false
def Dv.new (n : Int) : Dv := ⟨(min (max n 0) 65536).toNat, [], [], [], 0, false, false⟩
end Go.Proofs.YtikgplhcadomcaaGreat

namespace Go.Proofs.YtikgplhcadomcaaGreat
open Go.RowKit
set_option linter.unusedVariables false
set_option linter.unusedSimpArgs false

section
variable {w : World} {g : Nat} {F : Nat → Prop} {D : Dv}
set_option maxRecDepth 100000 in
theorem ok_calls (h : DevAt w g F D) : Calls Tryz.prog 85 #[.pointer (some ⟨g, 0, none⟩)] w fun e w' => e = .returned (.bool true) ∧ w = w' := by
  obtain ⟨km, bm, A, c, c0, c1, c2, c3, c4, c5, c6, fz, hk, hm, ho, hr, hl⟩ := h.cells
  clear hk hm ho hr hl fz h
  have q : ∀ (w : World) (r : Option Nat), (binOp .neq 136 (.map r) (.map none)).run Tryz.prog w = .ok (.bool (!r.isNone)) w := fun w r => run_neq_map_nil w _ _ _ r Tryz.underlying136
  go_enter Tryz.func85, Tryz.ntmps85
  go_wp2
  go_ret
  exact ⟨rfl, rfl⟩
set_option maxRecDepth 100000 in
theorem dead_calls (h : DevAt w g F D) : Calls Tryz.prog 93 #[.pointer (some ⟨g, 0, none⟩)] w fun e w' => e = .returned (.bool D.dead) ∧ w = w' := by
  have hok := Lib.hid (ok_calls h)
  obtain ⟨km, bm, A, c, c0, c1, c2, c3, c4, c5, c6, fz, hk, hm, ho, hr, hl⟩ := h.cells
  clear hk hm ho hr hl fz h
  go_enter Tryz.func93, Tryz.ntmps93
  go_wp2_with fail
  refine hok.out.mono ?_
  rintro e w' ⟨rfl, rfl⟩
  go_wp2
  go_ret
  exact ⟨rfl, rfl⟩
set_option maxRecDepth 100000 in
theorem size_calls (h : DevAt w g F D) : Calls Tryz.prog 142 #[.pointer (some ⟨g, 0, none⟩)] w fun e w' => e = .returned (.int .i64 D.n) ∧ w = w' := by
  have hok := Lib.hid (ok_calls h)
  obtain ⟨km, bm, A, c, c0, c1, c2, c3, c4, c5, c6, fz, hk, hm, ho, hr, hl⟩ := h.cells
  clear hk hm ho hr hl fz h
  go_enter Tryz.func142, Tryz.ntmps142
  go_wp2_with fail
  refine hok.out.mono ?_
  rintro e w' ⟨rfl, rfl⟩
  go_wp2
  go_ret
  exact ⟨rfl, rfl⟩
/-- Whether there is a sector, of a device of n. -/
theorem has_of (g : Option Addr) (p : Int) (n : Nat) (hs : Calls Tryz.prog 142 #[.pointer g] w fun e w' => e = .returned (.int .i64 n) ∧ w = w') :
    Calls Tryz.prog 94 #[.pointer g, .int .i64 p] w fun e w' => e = .returned (.bool (decide (0 ≤ p ∧ p < n))) ∧ w = w' := by
  have hs := Lib.hid hs
  go_enter Tryz.func94, Tryz.ntmps94
  by_cases hp : 0 ≤ p
  · go_wp2_with fail
    refine hs.out.mono ?_
    rintro e w' ⟨rfl, rfl⟩
    go_wp2
    go_ret
    exact ⟨ret_bool (by by_cases h2 : p < (n : Int) <;> simp [hp, h2] <;> omega), rfl⟩
  · go_wp2
    go_ret
    exact ⟨ret_bool (by simp <;> omega), rfl⟩
theorem has_calls (h : DevAt w g F D) (p : Int) : Calls Tryz.prog 94 #[.pointer (some ⟨g, 0, none⟩), .int .i64 p] w fun e w' => e = .returned (.bool (D.has p)) ∧ w = w' := has_of _ p D.n (size_calls h)
/-- Stores into the flat cells. -/
theorem DevAt.set6 (h : DevAt w g F D) (v : Bool) : Did F w (w.setCell ⟨g, 6, none⟩ (.bool v)) g { D with dead := v } :=
  h.flat (grown_set _ _ _ _) ⟨rfl, rfl, rfl⟩ h.left0 fun km bm cv hb => .inl ⟨rfl, blk_set' hb 6 _ rfl⟩
theorem DevAt.set4 (h : DevAt w g F D) (v : Int) (h0 : 0 ≤ v) (h1 : v ≤ 9223372036854775807) : Did F w (w.setCell ⟨g, 4, none⟩ (.int .i64 v)) g { D with left := v } :=
  h.flat (grown_set _ _ _ _) ⟨rfl, rfl, rfl⟩ ⟨h0, h1⟩ fun km bm cv hb => .inl ⟨rfl, blk_set' hb 4 _ rfl⟩
theorem DevAt.set2 (h : DevAt w g F D) : Did F w (w.setCell ⟨g, 2, none⟩ (.slice none 0 0)) g { D with cache := [] } :=
  h.flat (grown_set _ _ _ _) ⟨rfl, rfl, rfl⟩ h.left0 fun km bm cv hb => .inr ⟨rfl, blk_set' hb 2 _ rfl⟩

set_option maxRecDepth 100000 in
theorem act_calls (h : DevAt w g F D) : Calls Tryz.prog 95 #[.pointer (some ⟨g, 0, none⟩)] w fun e w' => e = .returned (.bool D.act.1) ∧ Did F w w' g D.act.2 := by
  have h6 := Lib.hid (h.set6 true)
  have h4 := Lib.hid (fun l0 l1 => h.set4 (D.left - 1) l0 l1)
  have hD := Lib.hid (Did.refl h)
  obtain ⟨l0, l1⟩ := h.left0
  obtain ⟨km, bm, A, c, c0, c1, c2, c3, c4, c5, c6, fz, hk, hm, ho, hr, hl⟩ := h.cells
  have f4 := fz 4
  have f6 := fz 6
  clear hk hm ho hr hl fz h
  go_enter Tryz.func95, Tryz.ntmps95
  rcases hd : D.dead with _ | _
  · rcases ha : D.armed with _ | _
    · rw [hd] at c6
      rw [ha] at c5
      go_wp2
      go_ret
      exact ⟨ret_bool (by simp [Dv.act, hd, ha]), by simpa [Dv.act, hd, ha] using hD.out⟩
    · rw [hd] at c6
      rw [ha] at c5
      by_cases hz : D.left = 0
      · have hz' : (D.left == 0) = true := by simpa using hz
        rw [hz] at c4
        go_wp2
        go_ret
        exact ⟨ret_bool (by simp [Dv.act, hd, ha, hz]), by simpa [Dv.act, hd, ha, hz] using h6.out⟩
      · have hw : wrap64 (D.left - 1) = D.left - 1 := by unfold wrap64; omega
        go_wp2
        go_ret
        exact ⟨ret_bool (by simp [Dv.act, hd, ha, hz]), by simpa [Dv.act, hd, ha, hz] using h4.out (by omega) (by omega)⟩
  · rw [hd] at c6
    go_wp2
    go_ret
    exact ⟨ret_bool (by simp [Dv.act, hd]), by simpa [Dv.act, hd] using hD.out⟩
end
end Go.Proofs.YtikgplhcadomcaaGreat

namespace Go.Proofs.YtikgplhcadomcaaGreat
open Go.RowKit
set_option linter.unusedVariables false
set_option linter.unusedSimpArgs false

theorem mapI_new {α : Type} {w : World} (enc : α → Value) : MapI (w.alloc (.map #[] 0)) w.heap.size enc [] := ⟨#[], 0, blk_new _ _, rfl, by simp⟩
theorem run_max0 (n : Int) (w : World) : (Builtin.max_ #[3, 3] 3 #[.int .i64 n, .int .i64 0]).run Tryz.prog w = .ok (.int .i64 (max n 0)) w := by
  rw [run_max_int2]
  congr 2
  split <;> omega
theorem run_minM (n : Int) (w : World) : (Builtin.min_ #[3, 3] 3 #[.int .i64 n, .int .i64 65536]).run Tryz.prog w = .ok (.int .i64 (min n 65536)) w := by
  rw [run_min_int2]
  congr 2
  split <;> omega
section
variable {w : World} {g : Nat} {F : Nat → Prop} {D : Dv}
theorem new_dev (w : World) (n : Int) : DevAt (((w.alloc (.map #[] 0)).alloc (.map #[] 0)).alloc (.cells ((Dv.new n).cells w.heap.size (w.heap.size + 1) (.slice none 0 0)) 140 (0, 0))) (w.heap.size + 2) (fun i => w.heap.size ≤ i ∧ i < w.heap.size + 3) (Dv.new n) := by
  refine ⟨w.heap.size, w.heap.size + 1, .slice none 0 0, ?_, ?_, ?_, Own.nil, by omega, by omega, by omega, (fun k hk => by cases hk), ⟨by omega, by omega⟩, ⟨by omega, by omega⟩, ⟨by omega, by omega⟩, (fun i hi => by have := hi.2; simp; omega), ?_, by simp [Dv.new], by simp [Dv.new]⟩
  · have := blk_new ((w.alloc (.map #[] 0)).alloc (.map #[] 0)) (.cells ((Dv.new n).cells w.heap.size (w.heap.size + 1) (.slice none 0 0)) 140 (0, 0))
    simpa using this
  · exact (((mapI_new secV).below ((Below.refl _ _).alloc (Nat.le_refl _) _) (by simp)).below ((Below.refl _ _).alloc (Nat.le_refl _) _) (by simp; omega))
  · have := mapI_new (w := w.alloc (.map #[] 0)) Value.bool
    rw [World.size_alloc] at this
    exact this.below ((Below.refl _ _).alloc (Nat.le_refl _) _) (by simp)
  · simp only [Dv.new]
    omega
set_option maxRecDepth 100000 in
theorem new_calls (w : World) (n : Int) : Calls Tryz.prog 30 #[.int .i64 n] w fun e w' => ∃ g F, e = .returned (.pointer (some ⟨g, 0, none⟩)) ∧ DevAt w' g F (Dv.new n) ∧ (∀ i, F i → w.heap.size ≤ i) ∧ Below w.heap.size w w' := by
  have hN := Lib.hid (new_dev w n)
  have ma := run_max0 n
  have mi := run_minM (max n 0)
  have hmm := @run_makeMap Tryz.prog
  go_enter Tryz.func30, Tryz.ntmps30
  go_wp2
  go_ret
  have hc : min (max n 0) 65536 = ((Dv.new n).n : Int) := by simp only [Dv.new]; omega
  rw [hc]
  exact ⟨_, _, rfl, hN.out, fun i hi => hi.1, (((Below.refl _ _).alloc (Nat.le_refl _) _).alloc (by simp) _).alloc (by simp; omega) _⟩
end
end Go.Proofs.YtikgplhcadomcaaGreat

namespace Go.Proofs.YtikgplhcadomcaaGreat
open Go.RowKit
set_option linter.unusedVariables false
set_option linter.unusedSimpArgs false

theorem sec_fn (s : Sec) : ∃ f : Fin 32 → Int, s.1 = List.ofFn f := by
  obtain ⟨l, h, r⟩ := s
  exact ⟨fun i => l[i.1]'(by omega), by
    apply List.ext_getElem
    · rw [List.length_ofFn]; exact h
    · intro i h1 h2
      rw [List.getElem_ofFn]⟩
set_option maxRecDepth 100000 in
theorem built_wr (x : Wr) : Tryz.prog.built 156 [(0, .int .i64 x.pos), (1, secV x.b)] = some x.enc.toArray := by
  obtain ⟨f, hf⟩ := sec_fn x.b
  simp only [Wr.enc, secV, secCells, hf]
  kernel_rfl
theorem run_build_wr (x : Wr) (w : World) : (Instr.build 156 #[(0, .int .i64 x.pos), (1, secV x.b)]).run Tryz.prog w = .ok (.agg x.enc.toArray) w := run_build w _ _ _ (built_wr x)
/-- The makings behind a name, so that the walk does not open them. -/
def bldWr (parts : Array (Nat × Value)) : Sem Value := Instr.build 156 parts
theorem fold_build (parts : Array (Nat × Value)) : Instr.build 156 parts = bldWr parts := rfl
theorem run_bldWr (p : Int) (s : Sec) (w : World) : (bldWr #[(0, .int .i64 p), (1, .agg (secCells s).toArray)]).run Tryz.prog w = .ok (.agg (Wr.enc ⟨p, s⟩).toArray) w := run_build_wr ⟨p, s⟩ w
def bldSl (parts : Array (Nat × Value)) : Sem Value := Instr.buildSlice 138 1 parts
theorem fold_buildSlice (parts : Array (Nat × Value)) : Instr.buildSlice 138 1 parts = bldSl parts := rfl
def ldSec (v : Value) : Sem Value := Instr.loadAt 154 v
theorem fold_loadSec (v : Value) : Instr.loadAt 154 v = ldSec v := rfl
def ldWr (v : Value) : Sem Value := Instr.loadAt 156 v
theorem fold_loadWr (v : Value) : Instr.loadAt 156 v = ldWr v := rfl
theorem infoWr : (Tryz.prog.info? 156).map (fun i => (i.zero, i.size, i.bytes)) = some (some (.agg (Wr.enc ⟨0, sec0⟩).toArray), 33, 40) := by kernel_rfl
theorem infoSec : (Tryz.prog.info? 154).map (fun i => (i.zero, i.size, i.bytes)) = some (some (secV sec0), 32, 32) := by kernel_rfl
theorem sizeSec : (Tryz.prog.info? 154).map (·.size) = some 32 := by kernel_rfl
theorem sizeWr : (Tryz.prog.info? 156).map (·.size) = some 33 := by kernel_rfl
theorem wr_size (x : Wr) : x.enc.toArray.size = 33 := by simp [Wr.len]
theorem run_buildSlice_wr (x : Wr) (w : World) : (Instr.buildSlice 138 1 #[(0, .agg x.enc.toArray)]).run Tryz.prog w = .ok (.slice (some ⟨w.heap.size, 0, none⟩) 1 1) (w.alloc (.cells x.enc.toArray 156)) := by
  obtain ⟨i0, hi, hz0, hz1, hz2⟩ := info_parts infoWr
  refine run_buildSlice w _ 156 1 _ _ i0 _ Tryz.underlying138 hi hz0 (by rw [hz1]; omega) (by rw [hz1]; omega) ?_
  rw [hz1]
  have h := Great.fill_whole (s := 33) (by omega) [.agg x.enc.toArray] ((Array.range (1 * 33)).map (((Value.agg (Wr.enc ⟨0, sec0⟩).toArray).cells)[· % (Value.agg (Wr.enc ⟨0, sec0⟩).toArray).cells.size]!)) (fun v hv => by
    rcases List.mem_cons.1 hv with rfl | hv
    · exact wr_size x
    · cases hv) (by simp)
  rw [show (#[(0, Value.agg x.enc.toArray)] : Array (Nat × Value)).toList = (([.agg x.enc.toArray] : List Value).zipIdx 0).map (fun x => (x.2, x.1)) from rfl, h]
  simp [Value.cells]
theorem run_bldSl (x : Wr) (w : World) : (bldSl #[(0, .agg x.enc.toArray)]).run Tryz.prog w = .ok (.slice (some ⟨w.heap.size, 0, none⟩) 1 1) (w.alloc (.cells x.enc.toArray 156)) := run_buildSlice_wr x w
theorem run_ldSec (w : World) (b o : Nat) (s : Sec) (h : w.rangeAt b o (secCells s)) : (ldSec (.pointer (some ⟨b, o, none⟩))).run Tryz.prog w = .ok (.agg (secCells s).toArray) w :=
  run_loadAt_mid w b o _ _ _ h Tryz.underlying154 rfl (by rw [secCells_len]; exact sizeSec)
theorem run_ldWr (w : World) (b o : Nat) (x : Wr) (h : w.rangeAt b o x.enc) : (ldWr (.pointer (some ⟨b, o, none⟩))).run Tryz.prog w = .ok (.agg x.enc.toArray) w :=
  run_loadAt_mid w b o _ _ _ h Tryz.underlying156 rfl (by rw [Wr.len]; exact sizeWr)
theorem run_arrayAt_sec (a : Option Addr) (n c : Nat) (h : 32 ≤ n) (w : World) : (Instr.arrayAt 154 (.slice a n c)).run Tryz.prog w = .ok (.pointer a) w := by
  have hn : ¬ n < 32 := by omega
  simp [Instr.arrayAt, run_underlying Tryz.underlying154, hn]
end Go.Proofs.YtikgplhcadomcaaGreat

namespace Go.Proofs.YtikgplhcadomcaaGreat
open Go.RowKit
set_option linter.unusedVariables false
set_option linter.unusedSimpArgs false

attribute [local go_sem ↓ high] fold_build fold_buildSlice fold_loadSec
attribute [local go_sem] run_bldWr run_bldSl
section
variable {w : World} {g : Nat} {F : Nat → Prop} {D : Dv}
/-- The cache has grown, its slice is stored. -/
theorem DevAt.pushed (h : DevAt w g F D) {A : Option Addr} {n c : Nat} (hc : w.cell? ⟨g, 2, none⟩ = some (.slice A n c)) {W w5 : World} (hW : Below w.heap.size w W) (hg : W.grownBy w5 (Value.slice A n c).ownBlock) {xs : List Wr} {v : Value}
    (ho : Own Wr.enc 33 156 0 w5 v xs) (hv : ∀ k, v.ownBlock = some k → (Value.slice A n c).ownBlock = some k ∨ w.heap.size ≤ k) : Did F w (w5.setCell ⟨g, 2, none⟩ v) g { D with cache := xs } := by
  have h0 := h
  obtain ⟨km, bm, cv, hb, hk, hm, _, n1, n2, n3, n4, f1, f2, f3, f4, b1, b2⟩ := h
  have ecv : cv = .slice A n c := by
    rw [blk_cell hb] at hc
    simpa [Dv.cells] using hc
  subst ecv
  have hgl := f4 g f1
  have hkl := f4 km f2
  have hml := f4 bm f3
  have C1 : Chg F w W := Below.chg hW F
  have C2 : Chg F w w5 := C1.trans (Chg.grownO hg (F := F) (fun k hk => (n4 k hk).2.2.2)) (fun i _ hi => hi)
  have C3 : Chg F w (w5.setCell ⟨g, 2, none⟩ v) := C2.trans (Chg.set w5 v f1) (fun i _ hi => hi)
  have hne : ∀ k, k = g ∨ k = km ∨ k = bm → some k ≠ (Value.slice A n c).ownBlock := fun k hk e => by
    have := n4 k e.symm
    rcases hk with rfl | rfl | rfl
    · exact this.1 rfl
    · exact this.2.1 rfl
    · exact this.2.2.1 rfl
  have hs := hW.size
  have hb5 : w5.heap[g]? = some (.cells (D.cells km bm (.slice A n c)) 140 (0, 0)) := by
    rw [hg.block g (by omega) (hne g (.inl rfl)), hW.block g hgl]
    exact hb
  refine h0.put _ km bm v (blk_set' hb5 2 v rfl) ?_ ?_ (ho.far (fun e => ?_) _) n1 n2 n3 (fun k hk => ?_) f2 f3 C3 b1 b2
  · exact ((hk.below hW hkl).grown hg (hne km (.inr (.inl rfl)))).grown (grown_set _ _ _ _) (by simpa using n2.symm)
  · exact ((hm.below hW hml).grown hg (hne bm (.inr (.inr rfl)))).grown (grown_set _ _ _ _) (by simpa using n3.symm)
  · rcases hv g e with e | e
    · exact hne g (.inl rfl) e.symm
    · omega
  · rcases hv k hk with e | e
    · exact ⟨(n4 k e).1, (n4 k e).2.1, (n4 k e).2.2.1, .inl (n4 k e).2.2.2⟩
    · exact ⟨by omega, by omega, by omega, .inr e⟩

theorem rd_wr (x : Wr) (W : World) : Rd Wr.enc 33 (W.alloc (.cells x.enc.toArray 156)) (some ⟨W.heap.size, 0, none⟩) [x] := Rd.lit (blk_new _ _) rfl
theorem act_n (D : Dv) : D.act.2.n = D.n ∧ D.act.2.cache = D.cache ∧ D.act.2.kept = D.kept ∧ D.act.2.bad = D.bad := by
  unfold Dv.act
  repeat' split
  all_goals exact ⟨rfl, rfl, rfl, rfl⟩
set_option maxRecDepth 100000 in
set_option maxHeartbeats 4000000 in
theorem write_calls (h : DevAt w g F D) (p : Int) (A : Option Addr) (c : Nat) (b : List Int) (hb : Rd by1 1 w A b) (hbb : byteL b) (hbl : b.length ≤ c) (hA : b ≠ [] → ∀ a, A = some a → ¬ F a.block) (hcl : D.cache.length ≤ 1000000000000) :
    Calls Tryz.prog 43 #[.pointer (some ⟨g, 0, none⟩), .int .i64 p, .slice A b.length c] w fun e w' => e = .returned (.int .i64 (D.write p b).1) ∧ Did F w w' g (D.write p b).2 := by
  have hdead := Lib.hid (dead_calls h)
  have hhas := Lib.hid (has_calls h p)
  have hact := Lib.hid (act_calls h)
  have HD := Lib.hid (Did.refl h)
  have HR := Lib.hid hb
  have HA := Lib.hid hA
  clear hb hA
  go_enter Tryz.func43, Tryz.ntmps43
  go_wp2_with fail
  refine hdead.out.mono ?_
  rintro e w1 ⟨rfl, rfl⟩
  rcases hd : D.dead with _ | _
  case' true =>
    go_wp2
    go_ret
    exact ⟨ret_int (by simp [Dv.write, hd]), by simpa [Dv.write, hd] using HD.out⟩
  go_wp2_with fail
  refine hhas.out.mono ?_
  rintro e w1 ⟨rfl, rfl⟩
  rcases hp : D.has p with _ | _
  case' false =>
    go_wp2
    go_ret
    exact ⟨ret_int (by simp [Dv.write, hd, hp]), by simpa [Dv.write, hd, hp] using HD.out⟩
  rcases (Decidable.em (b.length = 32)) with h32 | h32
  case' inr =>
    go_wp2
    go_ret
    exact ⟨ret_int (by simp [Dv.write, hd, hp, h32]), by simpa [Dv.write, hd, hp, h32] using HD.out⟩
  go_wp2_with fail
  refine hact.out.mono ?_
  rintro e w1 ⟨rfl, hdid⟩
  have hbd : b.length = 32 ∧ ∀ x ∈ b, 0 ≤ x ∧ x ≤ 255 := ⟨h32, hbb⟩
  rcases ha : D.act.1 with _ | _
  case' false =>
    have hw : D.write p b = (40, D.act.2) := by
      unfold Dv.write
      rw [if_neg (by simp [hd]), dif_pos ⟨hp, hbd⟩, if_neg (by simp [ha])]
    go_wp2
    go_ret
    exact ⟨ret_int (by rw [hw]), by rw [hw]; exact hdid⟩
  obtain ⟨s, rfl⟩ : ∃ s : Sec, b = s.1 := ⟨⟨b, hbd⟩, rfl⟩
  clear hbd
  have hw : D.write p s.1 = (0, { D.act.2 with cache := D.act.2.cache ++ [⟨p, s⟩] }) := by
    unfold Dv.write
    rw [if_neg (by simp [hd]), dif_pos ⟨hp, s.2⟩, if_pos ha]
  have HW := Lib.hid hw
  clear hw
  obtain ⟨F1, h1, ch, s1⟩ := hdid
  obtain ⟨km, bm, A1, c1, -, -, c2, -, -, -, -, fz, -, -, ho, -, -⟩ := h1.cells
  obtain ⟨bb, off, rfl, hlt, hcell⟩ : ∃ bb off, A = some ⟨bb, off, none⟩ ∧ bb < w.heap.size ∧ Rd by1 1 w1 (some ⟨bb, off, none⟩) s.1 := by
    rcases HR.out with e | ⟨bb, off, rfl, hlt, hc⟩
    · rw [e] at h32; simp at h32
    · exact ⟨bb, off, rfl, hlt, HR.out.chg ch (HA.out (by intro e'; rw [e'] at h32; simp at h32))⟩
  have hbF : ¬ F1 bb := fun e => by
    rcases s1 bb e with e | e
    · exact HA.out (by intro e'; rw [e'] at h32; simp at h32) _ rfl e
    · omega
  have hrng : w1.rangeAt bb off (secCells s) := by
    intro j v hv
    simp only [secCells, List.getElem?_map] at hv
    obtain ⟨x, hx, rfl⟩ := Option.map_eq_some_iff.1 hv
    have := hcell.range hx 0 _ rfl
    simpa using this
  have hown : ∀ k, (Value.slice A1 D.act.2.cache.length c1).ownBlock = some k → k ≠ g ∧ k ≠ bb := by
    obtain ⟨km', bm', cv', hb', _, _, _, _, _, _, n4, _⟩ := h1
    have : cv' = .slice A1 D.act.2.cache.length c1 := by
      rw [blk_cell hb'] at c2
      simpa [Dv.cells] using c2
    subst this
    exact fun k hk => ⟨(n4 k hk).1, fun e => hbF (e ▸ (n4 k hk).2.2.2)⟩
  have hgb : g ≠ bb := fun e => hbF (e ▸ h1.fg)
  have hbl1 : bb < w1.heap.size := Nat.lt_of_lt_of_le hlt ch.size
  have hgl1 := h1.glt
  have HX := Lib.hid h1
  have HOS : Hid (∀ W, Below w1.heap.size w1 W → Own Wr.enc 33 156 0 W (.slice A1 D.act.2.cache.length c1) D.act.2.cache) := fun W hW => ho.below hW
  have HS1 : Hid (∀ W, Below w1.heap.size w1 W → W.rangeAt bb off (secCells s)) := fun W hW j v hv => (hW.cell (by exact hbl1)).trans (hrng j v hv)
  have HS2 : Hid (∀ W W5, Below w1.heap.size w1 W → W.grownBy W5 (Value.slice A1 D.act.2.cache.length c1).ownBlock → W5.cell? ⟨g, 2, none⟩ = some (.slice A1 D.act.2.cache.length c1) ∧ W5.frozen? ⟨g, 2, none⟩ = false ∧ W5.rangeAt bb off (secCells s) ∧
      ∀ v, (W5.setCell ⟨g, 2, none⟩ v).rangeAt bb off (secCells s)) := fun W W5 hW hG => by
    have hs := hW.size
    have e1 := hG.block g (by omega) (fun e => (hown g e.symm).1 rfl)
    have e2 := hG.block bb (by omega) (fun e => (hown bb e.symm).2 rfl)
    have k3 : W5.rangeAt bb off (secCells s) := fun j v hv => (World.cell?_of_block e2).trans (HS1.out W hW j v hv)
    refine ⟨(World.cell?_of_block e1).trans ((hW.cell (by exact hgl1)).trans c2), (World.frozen?_of_block e1).trans ((hW.frozen (by exact hgl1)).trans (fz 2)), k3, fun v j u hu => ?_⟩
    rw [World.cell?_setCell_other _ _ _ _ (fun e => hgb (by injection e))]
    exact k3 j u hu
  have k2a : ∀ o, (w1.drew.alloc o).cell? ⟨g, 2, none⟩ = some (.slice A1 D.act.2.cache.length c1) := fun o => ((bl_alloc ((Below.refl _ w1).drew) o).cell (by exact hgl1)).trans c2
  have HFin : Hid (∀ (W w5 : World) (v : Value), Below w1.heap.size w1 W → W.grownBy w5 (Value.slice A1 D.act.2.cache.length c1).ownBlock → Own Wr.enc 33 156 0 w5 v (D.act.2.cache ++ [⟨p, s⟩]) →
      (∀ k, v.ownBlock = some k → (Value.slice A1 D.act.2.cache.length c1).ownBlock = some k ∨ w1.heap.size ≤ k) → Did F w (w5.setCell ⟨g, 2, none⟩ v) g { D.act.2 with cache := D.act.2.cache ++ [⟨p, s⟩] }) := fun W w5 v a1 a2 a3 a4 =>
    (h1.pushed c2 a1 a2 a3 a4).after ch s1
  have HL1 : Hid ((D.act.2.cache.length + 1) * 40 ≤ 140737488355328) := by show _ ≤ _; rw [(act_n D).2.1]; omega
  have HL2 : Hid (D.act.2.cache.length + 1 ≤ 140737488355328) := by show _ ≤ _; rw [(act_n D).2.1]; omega
  have hb0 : Below w1.heap.size w1 w1.drew := (Below.refl _ w1).drew
  have u1 := Tryz.underlying154
  have i1 : (Tryz.prog.info? 154).map (·.size) = some (secCells s).length := by rw [secCells_len]; exact sizeSec
  have b3 := run_arrayAt_sec (some ⟨bb, off, none⟩) 32 c (by omega)
  have HC := Lib.hid c2
  clear hdead hhas hact HD HR HA hrng hcell ho fz ch s1 hbF hown h h1 hcl hgb
  have t1 : Hid ((Value.agg (Wr.enc ⟨0, sec0⟩).toArray).cells.size = 33) := rfl
  have t3 : Hid (([⟨p, s⟩] : List Wr) ≠ []) := by show _ ≠ _; simp
  go_wp2_with fail
  have ld := run_ldSec w1.drew bb off s (HS1.out _ hb0)
  have k2b : w1.drew.cell? ⟨g, 2, none⟩ = some (.slice A1 D.act.2.cache.length c1) := (hb0.cell (by exact hgl1)).trans c2
  go_region_law
    (first
      | (refine at_step rfl (op_ownN Wr.ok _ _ _ _ _ _ rfl Tryz.underlying138 infoWr t1.out 0 (.slice A1 D.act.2.cache.length c1) D.act.2.cache _ 1 [⟨p, s⟩] 1 rfl t3.out rfl rfl (HOS.out _ (bl_alloc hb0 _)) (rd_wr ⟨p, s⟩ _) (Nat.zero_le _) HL1.out HL2.out ?_); intro g5 cap5 w5 ho5 hg5 hat5 hlt5; have k5 := (HS2.out _ _ (bl_alloc hb0 _) hg5).1; have k6 := (HS2.out _ _ (bl_alloc hb0 _) hg5).2.1))
  all_goals
    go_wp2
    go_ret
    refine ⟨ret_int (by rw [HW.out]), ?_⟩
    rw [HW.out]
    refine HFin.out _ _ _ (bl_alloc hb0 _) hg5 ho5 (fun k hk => ?_)
    simp only [Value.ownBlock, Option.some.injEq] at hk
    subst hk
    exact hat5.imp_right (fun e => by simp at e; omega)
end
end Go.Proofs.YtikgplhcadomcaaGreat

namespace Go.Proofs.YtikgplhcadomcaaGreat
open Go.RowKit
set_option linter.unusedVariables false
set_option linter.unusedSimpArgs false

def lkKept (m k : Value) : Sem Value := Instr.lookup 136 m k false
theorem fold_lkKept (m k : Value) : Instr.lookup 136 m k false = lkKept m k := rfl
def upKept (m k v : Value) : Sem Unit := Instr.mapUpdate 136 m k v
theorem fold_upKept (m k v : Value) : Instr.mapUpdate 136 m k v = upKept m k v := rfl
def dlKept (ty : TypeId) (args : Array Value) : Sem Value := Builtin.delete_ #[136, 3] ty args
theorem fold_dlKept (ty : TypeId) (args : Array Value) : Builtin.delete_ #[136, 3] ty args = dlKept ty args := rfl
def stSec (p v : Value) : Sem Unit := Instr.storeAt 154 p v
theorem fold_storeSec (p v : Value) : Instr.storeAt 154 p v = stSec p v := rfl
def cpBy (ty : TypeId) (args : Array Value) : Sem Value := Builtin.copy_ #[51, 51] ty args
theorem fold_cpBy (ty : TypeId) (args : Array Value) : Builtin.copy_ #[51, 51] ty args = cpBy ty args := rfl
def bldSec (parts : Array (Nat × Value)) : Sem Value := Instr.build 154 parts
theorem fold_bldSec (parts : Array (Nat × Value)) : Instr.build 154 parts = bldSec parts := rfl

section
variable {w : World} {b : Nat}
theorem zero_sec (w : World) : (zeroValue 154).run Tryz.prog w = .ok (secV sec0) w := by
  obtain ⟨i0, hi, hz0, hz1, hz2⟩ := info_parts infoSec
  simp [zeroValue, typeInfo, hi, hz0]
theorem run_lkKept {L : List (Int × Sec)} (h : MapI w b secV L) (k : Int) : (lkKept (.map (some b)) (.int .i64 k)).run Tryz.prog w = .ok (.agg (secCells ((look L k).getD sec0)).toArray) w := by
  unfold lkKept
  rw [run_look Tryz.underlying136 Tryz.underlying3 (secV sec0) (zero_sec w) h k]
  cases look L k <;> rfl
theorem run_upKept {L : List (Int × Sec)} (h : MapI w b secV L) (k : Int) (x : Sec) : ∃ w', (upKept (.map (some b)) (.int .i64 k) (.agg (secCells x).toArray)).run Tryz.prog w = .ok () w' ∧ MapI w' b secV (upd L k x) ∧ w.grownBy w' (some b) :=
  run_upd Tryz.underlying136 Tryz.underlying3 h k x
theorem run_dlKept {L : List (Int × Sec)} (h : MapI w b secV L) (k : Int) (ty : TypeId) : ∃ w', (dlKept ty #[.map (some b), .int .i64 k]).run Tryz.prog w = .ok (.tuple #[]) w' ∧ MapI w' b secV (del L k) ∧ w.grownBy w' (some b) :=
  run_del Tryz.underlying136 Tryz.underlying3 h k ty
theorem secSize (s : Sec) : (secCells s).toArray.size = 32 := by rw [List.size_toArray, secCells_len]
theorem run_stSec_new (w : World) (c : Array Value) (hc : c.size = 32) (s : Sec) : (stSec (.pointer (some ⟨w.heap.size, 0, none⟩)) (.agg (secCells s).toArray)).run Tryz.prog (w.alloc (.cells c 154)) = .ok () (w.alloc (.cells (secCells s).toArray 154)) := by
  unfold stSec
  simp only [Instr.storeAt, Instr.sureAddr, Sem.run_bind, Sem.run_pure, Result.andThen_ok]
  exact run_storeVar_new w _ c _ (by rw [secSize]; exact sizeSec) (by rw [secSize]; exact hc) (all_oneCell_toArray (secCells_one s))
theorem run_bldSec0 (w : World) : (bldSec #[]).run Tryz.prog w = .ok (.agg (secCells sec0).toArray) w := run_build w _ _ _ (by kernel_rfl)
/-- Sectors held against each other. -/
theorem sec_bytes (s : Sec) : ∃ xs : List UInt8, xs.length = 32 ∧ xs.map Extern.Stop.cell = secCells s ∧ xs.map (fun x => (x.toNat : Int)) = s.1 := by
  have h2 : (s.1.map (fun x => UInt8.ofNat x.toNat)).map (fun x => (x.toNat : Int)) = s.1 := by
    rw [List.map_map]
    conv => rhs; rw [← List.map_id s.1]
    refine List.map_congr_left fun x hx => ?_
    obtain ⟨h0, h1⟩ := s.2.2 x hx
    simp only [Function.comp, id, UInt8.toNat_ofNat']
    omega
  refine ⟨s.1.map (fun x => UInt8.ofNat x.toNat), by rw [List.length_map]; exact s.2.1, ?_, h2⟩
  unfold secCells
  conv => rhs; rw [← h2]
  rw [List.map_map (f := fun x : UInt8 => (x.toNat : Int))]
  rfl
theorem eqSec (d : Nat) (w : World) (a b : Sec) : (Op.equalIn (d + 2) 154 (.agg (secCells a).toArray) (.agg (secCells b).toArray)).run Tryz.prog w = .ok (decide (a = b)) w := by
  obtain ⟨xs, hx, cx, ex⟩ := sec_bytes a
  obtain ⟨ys, hy, cy, ey⟩ := sec_bytes b
  rw [← cx, ← cy, run_equalIn_bytes w d _ _ 32 Tryz.underlying154 Tryz.underlying5 (fun w => by
    obtain ⟨i0, hi, hz0, hz1, hz2⟩ := info_parts (show (Tryz.prog.info? 5).map (fun i => (i.zero, i.size, i.bytes)) = some (some (.int .u8 0), 1, 1) from by kernel_rfl)
    simp [sizeOf, typeInfo, hi, hz1]) xs ys hx hy]
  congr 1
  rw [Bool.eq_iff_iff]
  simp only [beq_iff_eq, decide_eq_true_eq]
  constructor
  · intro e
    exact Subtype.ext (by rw [← ex, ← ey, e])
  · intro e
    rw [e] at cx
    have : xs.map Extern.Stop.cell = ys.map Extern.Stop.cell := cx.trans cy.symm
    have h2 : xs.map (fun x => (x.toNat : Int)) = ys.map (fun x => (x.toNat : Int)) := by rw [ex, ey, e]
    exact (List.map_inj_right (fun x y h => by
      have : x.toNat = y.toNat := by omega
      exact UInt8.toNat_inj.1 this)).1 h2
/-- The copy of a write's first bytes over those of a sector in a block of its own. -/
theorem run_copy_sec {g6 gb : Nat} {s : Sec} {x : Wr} (n : Nat) (hn : n ≤ 32) (h6 : w.heap[g6]? = some (.cells (secCells s).toArray 154 (0, 0))) (hb : w.heap[gb]? = some (.cells x.enc.toArray 156 (0, 0))) (ty : TypeId) :
    ∃ w', (cpBy ty #[.slice (some ⟨g6, 0, none⟩) n 32, .slice (some ⟨gb, 1, none⟩) n 32]).run Tryz.prog w = .ok (.int .i64 n) w' ∧ w'.heap[g6]? = some (.cells (secCells (overS n x.b s)).toArray 154 (0, 0)) ∧ w.grownBy w' (some g6) := by
  have hl : ((secCells x.b).take n).length = n := by rw [List.length_take, secCells_len]; omega
  have h := run_copy_cells (P := Tryz.prog) w 51 51 ty 5 g6 0 n 32 ⟨gb, 1, none⟩ n 32 ((secCells x.b).take n) Tryz.underlying51 (by kernel_rfl) (by rw [hl]; exact (Nat.min_self n).symm)
    (fun j v hv => by
      rw [Addr.add_mid, blk_cell hb]
      have hj : j < n := by have := (List.getElem?_eq_some_iff.1 hv).1; omega
      rw [List.getElem?_take_of_lt hj] at hv
      rw [List.getElem?_toArray, show 1 + j = j + 1 from by omega]
      exact hv)
    (fun j hj => ((there_blk h6 (o := 0) (n := 32) (by rw [secSize]; omega)) j (by omega)).1)
    (fun j hj => ((there_blk h6 (o := 0) (n := 32) (by rw [secSize]; omega)) j (by omega)).2)
    (fun v hv => secCells_one _ _ (List.mem_of_mem_take hv))
  refine ⟨w.setCells g6 0 ((secCells x.b).take n), ?_, ?_, setCells_grown g6 _ 0 w⟩
  · unfold cpBy
    rw [h, hl]
    rfl
  · have e : (secCells s).toArray.toList.take 0 ++ (secCells x.b).take n ++ (secCells s).toArray.toList.drop (0 + n) = secCells (overS n x.b s) := by
      simp only [secCells, overS, List.map_append, List.map_take, List.map_drop, List.take_zero, List.nil_append, Nat.zero_add]
    rw [setCells_blk _ 0 w _ h6 (by rw [hl, secSize]; omega), hl, e]
/-- A map of the device's has changed. -/
theorem DevAt.keptPut {g km : Nat} {F : Nat → Prop} {D : Dv} (h : DevAt w g F D) (c1 : w.cell? ⟨g, 1, none⟩ = some (.map (some km))) {W W2 : World} (hW : Below w.heap.size w W) {K : List (Int × Sec)} (hm : MapI W2 km secV K) (hg : W.grownBy W2 (some km)) :
    Did F w W2 g { D with kept := K } := by
  have h0 := h
  obtain ⟨km', bm, cv, hb, hk, hbm, ho, n1, n2, n3, n4, f1, f2, f3, f4, b1, b2⟩ := h
  have ekm : km' = km := by
    rw [blk_cell hb] at c1
    simpa [Dv.cells] using c1
  subst ekm
  have hgl := f4 g f1
  have hml := f4 bm f3
  have hs := hW.size
  have C2 : Chg F w W2 := (Below.chg hW F).trans (Chg.grown hg (F := F) f2) (fun i _ hi => hi)
  refine h0.put _ km' bm cv ?_ hm ?_ ?_ n1 n2 n3 (fun k hk => ⟨(n4 k hk).1, (n4 k hk).2.1, (n4 k hk).2.2.1, .inl (n4 k hk).2.2.2⟩) f2 f3 C2 b1 b2
  · rw [hg.block g (by omega) (by simpa using n2), hW.block g hgl]
    exact hb
  · exact (hbm.below hW hml).grown hg (by simpa using n1.symm)
  · refine (ho.below hW).kept hg ?_
    rcases hq : cv.ownBlock with _ | k
    · exact .inl rfl
    · exact .inr (fun e => (n4 k hq).2.1 (by injection e))
end
end Go.Proofs.YtikgplhcadomcaaGreat

namespace Go.Proofs.YtikgplhcadomcaaGreat
open Go.RowKit
set_option linter.unusedVariables false
set_option linter.unusedSimpArgs false

attribute [local go_sem ↓ high] fold_lkKept fold_upKept fold_dlKept fold_storeSec fold_loadSec fold_cpBy fold_bldSec
attribute [local go_sem] run_bldSec0
attribute [local go_sem high] eqSec
section
variable {w : World} {g : Nat} {F : Nat → Prop} {D : Dv}
set_option maxRecDepth 100000 in
set_option maxHeartbeats 4000000 in
theorem keep_calls (h : DevAt w g F D) (x : Wr) (n : Nat) (hn : n ≤ 32) :
    Calls Tryz.prog 86 #[.pointer (some ⟨g, 0, none⟩), .agg x.enc.toArray, .int .i64 n] w fun e w' => e = .returned (.tuple #[]) ∧ Did F w w' g { D with kept := keepL D.kept x n } ∧ Kept w w' := by
  obtain ⟨km, bm, A, c, -, c1, -, -, -, -, -, -, hk, -, -, -, -⟩ := h.cells
  have hgl := h.glt
  have HD := Lib.hid h
  have HK := Lib.hid hk
  have HC := Lib.hid c1
  obtain ⟨W1, hW1⟩ : ∃ W, W = w.alloc (.cells x.enc.toArray 156) := ⟨_, rfl⟩
  have hb1 : Below w.heap.size w W1 := hW1 ▸ (Below.refl _ w).alloc (Nat.le_refl _) _
  have hx1 : W1.heap[w.heap.size]? = some (.cells x.enc.toArray 156 (0, 0)) := hW1 ▸ blk_new w _
  have hs1 : W1.heap.size = w.heap.size + 1 := by rw [hW1]; simp
  have k1 : W1.cell? ⟨g, 1, none⟩ = some (.map (some km)) := (hb1.cell (by exact hgl)).trans c1
  have k2 : W1.cell? ⟨w.heap.size, 0, none⟩ = some (.int .i64 x.pos) := by rw [blk_cell hx1]; rfl
  obtain ⟨r, hr⟩ : ∃ r, r = (look D.kept x.pos).getD sec0 := ⟨_, rfl⟩
  have lk1 := run_lkKept (hk.below (hb1.drew) hk.lt) x.pos
  rw [← hr] at lk1
  have HB1 := Lib.hid hb1
  have HX1 := Lib.hid hx1
  have HR := Lib.hid hr
  clear h hk c1 hb1 hx1 hr
  go_enter Tryz.func86, Tryz.ntmps86
  go_upto_region 1 with fail
  rw [← hW1]
  clear hW1
  have lk2 : ∀ c0, (lkKept (.map (some km)) (.int .i64 x.pos)).run Tryz.prog (W1.alloc (.cells c0 154)).drew = .ok (.agg (secCells r).toArray) (W1.alloc (.cells c0 154)).drew := fun c0 => by
    have := run_lkKept (HK.out.below (HB1.out.alloc (HB1.out).size (.cells c0 154)).drew HK.out.lt) x.pos
    rwa [← HR.out] at this
  have st1 : ∀ c0 : Array Value, c0.size = 32 → (stSec (.pointer (some ⟨w.heap.size + 1, 0, none⟩)) (.agg (secCells r).toArray)).run Tryz.prog (W1.alloc (.cells c0 154)).drew = .ok () (W1.alloc (.cells (secCells r).toArray 154)).drew := fun c0 hc => by
    have := run_stSec_new W1.drew c0 hc r
    rwa [show W1.drew.heap.size = w.heap.size + 1 from hs1] at this
  have k3 : ∀ o, (W1.alloc o).cell? ⟨g, 1, none⟩ = some (.map (some km)) := fun o => ((bl_alloc (Below.refl _ W1) o).cell (by show g < _; omega)).trans k1
  have k4 : ∀ o, (W1.alloc o).cell? ⟨w.heap.size, 0, none⟩ = some (.int .i64 x.pos) := fun o => ((bl_alloc (Below.refl _ W1) o).cell (by show w.heap.size < _; omega)).trans k2
  go_cut [6] (fun s6 wx => s6 = .pointer (some ⟨w.heap.size + 1, 0, none⟩) ∧ wx = (W1.alloc (.cells (secCells r).toArray 154)).drew)
  case first =>
    go_region_law (fail)
    all_goals (go_wp2_with fail; go_meet; exact ⟨rfl, rfl⟩)
  case rest =>
    obtain ⟨rfl, rfl⟩ := hcut
    clear lk1 lk2 st1 k3 k4
    obtain ⟨W2, hW2⟩ : ∃ W, W = (W1.alloc (.cells (secCells r).toArray 154)).drew := ⟨_, rfl⟩
    rw [← hW2]
    have hb12 : Below W1.heap.size W1 W2 := hW2 ▸ (bl_alloc (Below.refl _ W1) _).drew
    have h62 : W2.heap[w.heap.size + 1]? = some (.cells (secCells r).toArray 154 (0, 0)) := by
      rw [hW2, ← hs1]
      exact blk_drew (blk_new W1 _)
    clear hW2
    have hx2 := blk_below hb12 HX1.out (by omega)
    have hb2 : Below w.heap.size w W2 := bl_then HB1.out HB1.out.size hb12
    obtain ⟨W3, cp, h63, hg3⟩ := run_copy_sec (w := W2.drew) n hn (blk_drew h62) (blk_drew hx2) 3
    have hB3 : Below w.heap.size w W3 := hb2.drew.grown hg3 hb2.size (fun k e => by cases e; omega)
    have HG := Lib.hid hg3
    clear hg3
    have i0 : (0 : Int) ≤ (n : Int) := by omega
    have i1 : (n : Int) ≤ 32 := by omega
    go_upto_region 2 with fail
    go_cut [6] (fun s6 wx => s6 = .pointer (some ⟨w.heap.size + 1, 0, none⟩) ∧ wx = W3)
    case first =>
      go_region_law (fail)
      all_goals (go_wp2_with fail; go_meet; exact ⟨rfl, rfl⟩)
    case rest =>
      obtain ⟨rfl, hwx⟩ := hcut
      have hwx' := hwx.symm
      clear hwx
      subst hwx'
      have ld3 := run_ldSec W3 (w.heap.size + 1) 0 (overS n x.b r) (range_blk h63 (fun j v hv => by rw [Nat.zero_add, List.getElem?_toArray]; exact hv))
      have hx3 : W3.heap[w.heap.size]? = some (.cells x.enc.toArray 156 (0, 0)) := by
        rw [HG.out.block w.heap.size (blk_lt hx2) (by simp)]
        exact hx2
      have k5 : W3.cell? ⟨g, 1, none⟩ = some (.map (some km)) := (hB3.cell (by exact hgl)).trans HC.out
      have k6 : W3.cell? ⟨w.heap.size, 0, none⟩ = some (.int .i64 x.pos) := by rw [blk_cell hx3]; rfl
      have hkeep : Hid (keepL D.kept x n = if overS n x.b r = sec0 then del D.kept x.pos else upd D.kept x.pos (overS n x.b r)) := by
        show _ = _
        rw [HR.out]
        rfl
      rcases (Decidable.em (overS n x.b r = sec0)) with hz | hz
      · obtain ⟨W4, dl, hm4, hg4⟩ := run_dlKept (w := W3.drew) (HK.out.below hB3.drew HK.out.lt) x.pos 0
        have hfin : Hid (Did F w W4 g { D with kept := keepL D.kept x n }) := by
          show Did _ _ _ _ _
          rw [hkeep.out, if_pos hz]
          exact HD.out.keptPut HC.out hB3.drew hm4 hg4
        have hkp : Hid (Kept w W4) := kept_map HK.out hB3.drew hg4
        clear hm4 hg4 h63 hx3 hkeep hx2 h62
        go_wp2_with fail
        go_region_law (fail)
        all_goals
          go_wp2
          refine bodyPost_ret (results_none rfl _ _ _) rfl ?_
          exact ⟨rfl, hfin.out, hkp.out⟩
      · obtain ⟨W4, up, hm4, hg4⟩ := run_upKept (w := W3.drew) (HK.out.below hB3.drew HK.out.lt) x.pos (overS n x.b r)
        have hfin : Hid (Did F w W4 g { D with kept := keepL D.kept x n }) := by
          show Did _ _ _ _ _
          rw [hkeep.out, if_neg hz]
          exact HD.out.keptPut HC.out hB3.drew hm4 hg4
        have hkp : Hid (Kept w W4) := kept_map HK.out hB3.drew hg4
        have ld4 := run_ldSec W3.drew (w.heap.size + 1) 0 (overS n x.b r) (range_blk (blk_drew h63) (fun j v hv => by rw [Nat.zero_add, List.getElem?_toArray]; exact hv))
        clear hm4 hg4 h63 hx3 hkeep hx2 h62
        go_wp2_with fail
        go_region_law (fail)
        all_goals
          go_wp2
          go_end0
          exact ⟨rfl, hfin.out, hkp.out⟩
end
end Go.Proofs.YtikgplhcadomcaaGreat

namespace Go.Proofs.YtikgplhcadomcaaGreat
open Go.RowKit
set_option linter.unusedVariables false
set_option linter.unusedSimpArgs false

def stWr (p v : Value) : Sem Unit := Instr.storeAt 156 p v
theorem fold_storeWr (p v : Value) : Instr.storeAt 156 p v = stWr p v := rfl
theorem wrSize (x : Wr) : x.enc.toArray.size = 33 := by rw [List.size_toArray, Wr.len]
theorem run_stWr_new (w : World) (c : Array Value) (hc : c.size = 33) (x : Wr) : (stWr (.pointer (some ⟨w.heap.size, 0, none⟩)) (.agg x.enc.toArray)).run Tryz.prog (w.alloc (.cells c 156)) = .ok () (w.alloc (.cells x.enc.toArray 156)) := by
  unfold stWr
  simp only [Instr.storeAt, Instr.sureAddr, Sem.run_bind, Sem.run_pure, Result.andThen_ok]
  exact run_storeVar_new w _ c _ (by rw [wrSize]; exact sizeWr) (by rw [wrSize]; exact hc) (all_oneCell_toArray (Wr.ok.one x))
theorem run_ldWr_new (w : World) (x : Wr) : (ldWr (.pointer (some ⟨w.heap.size, 0, none⟩))).run Tryz.prog (w.alloc (.cells x.enc.toArray 156)) = .ok (.agg x.enc.toArray) (w.alloc (.cells x.enc.toArray 156)) :=
  run_ldWr _ _ 0 x (range_blk (blk_new w _) (fun j v hv => by rw [Nat.zero_add, List.getElem?_toArray]; exact hv))
attribute [local go_sem ↓ high] fold_storeWr fold_loadWr
attribute [local go_sem] run_stWr_new run_ldWr_new
section
variable {w : World} {g : Nat} {F : Nat → Prop} {D : Dv}
theorem keep_calls' (h : DevAt w g F D) (x : Wr) (n : Int) (hn : n.toNat ≤ 32) (h0 : 0 ≤ n) :
    Calls Tryz.prog 86 #[.pointer (some ⟨g, 0, none⟩), .agg x.enc.toArray, .int .i64 n] w fun e w' => e = .returned (.tuple #[]) ∧ Did F w w' g { D with kept := keepL D.kept x n.toNat } ∧ Kept w w' := by
  have := keep_calls h x n.toNat hn
  rwa [show ((n.toNat : Nat) : Int) = n from by omega] at this
set_option maxRecDepth 100000 in
set_option maxHeartbeats 4000000 in
theorem flush_calls (h : DevAt w g F D) : Calls Tryz.prog 170 #[.pointer (some ⟨g, 0, none⟩)] w fun e w' => e = .returned (.int .i64 D.flush.1) ∧ Did F w w' g D.flush.2 := by
  have hok := Lib.hid (ok_calls h)
  have hact := Lib.hid (act_calls h)
  clear h
  go_enter Tryz.func170, Tryz.ntmps170
  go_wp2_with fail
  refine hok.out.mono ?_
  rintro e w1 ⟨rfl, rfl⟩
  go_wp2_with fail
  refine hact.out.mono ?_
  rintro e w1 ⟨rfl, hdid⟩
  clear hok hact
  rcases ha : D.act.1 with _ | _
  case' false =>
    go_wp2
    go_ret
    exact ⟨ret_int (by simp [Dv.flush, ha]), by simpa [Dv.flush, ha] using hdid⟩
  have HW : Hid (D.flush = (0, { D.act.2 with kept := D.act.2.cache.foldl (fun K x => keepL K x 32) D.act.2.kept, cache := [] })) := by
    show _ = _
    simp [Dv.flush, ha]
  generalize hE : D.act.2 = E at *
  have h1 := hdid
  obtain ⟨F1, hd1, ch, s1⟩ := h1
  obtain ⟨km, bm, A, c, -, -, c2, -, -, -, -, -, -, -, ho, hr, hlc⟩ := hd1.cells
  have hbig := ho.len_le
  clear ho
  have HR := Lib.hid hr
  have HD := Lib.hid hdid
  clear hr hdid hd1 ch s1 hE
  go_wp2
  go_loopg [16] E.cache.length (fun m i wr => ∃ k : Nat, i = .int .i64 k ∧ k + m = E.cache.length ∧ Hid (Did F w wr g { E with kept := (E.cache.take k).foldl (fun K x => keepL K x 32) E.kept }) ∧ Hid (Kept w1 wr) ∧ Hid (w1.heap.size ≤ wr.heap.size))
  case atStart => exact ⟨0, rfl, by omega, HD.out, Kept.refl _, Nat.le_refl _⟩
  case round =>
    obtain ⟨k, rfl, hk, hd, hkp, hsz⟩ := hrel
    rcases Nat.lt_or_ge k E.cache.length with hlt | hge
    · rcases HR.out with h0 | ⟨b, off, rfl, hbl, hcell⟩
      · simp [h0] at hlt
      have hx : E.cache[k]? = some E.cache[k] := List.getElem?_eq_getElem hlt
      have ld := run_ldWr wr b (off + k * 33) E.cache[k] ((HR.out.kept hkp.out hsz.out).range hx)
      have hnx : Hid ((E.cache.take (k + 1)).foldl (fun K x => keepL K x 32) E.kept = keepL ((E.cache.take k).foldl (fun K x => keepL K x 32) E.kept) E.cache[k] 32) := by
        show _ = _
        rw [List.take_add_one, hx, List.foldl_append]
        rfl
      generalize E.cache[k] = x at *
      have i0 : (0 : Int) ≤ (k : Int) := by omega
      have i1 : (k : Int) < (E.cache.length : Int) := by omega
      obtain ⟨F2, h2, ch2, s2⟩ := hd.out
      have h3 := Lib.hid (h2.alloc (.cells x.enc.toArray 156))
      have ch3 := Lib.hid (ch2.trans (Chg.alloc wr (.cells x.enc.toArray 156) F) (fun i _ hi => hi))
      have S2 := Lib.hid s2
      have hsz2 : Hid (w1.heap.size ≤ wr.heap.size + 1) := by show _ ≤ _; have := hsz.out; omega
      clear hcell hx h2 ch2 s2 hd
      go_wp2_with fail
      refine (keep_calls' h3.out x 32 (by omega) (by omega)).mono ?_
      rintro e w3 ⟨rfl, hd3, hkp3⟩
      have hd4 : Hid (Did F w w3 g { E with kept := (E.cache.take (k + 1)).foldl (fun K x => keepL K x 32) E.kept }) := by
        show Did _ _ _ _ _
        rw [hnx.out]
        exact hd3.after ch3.out S2.out
      have hkp4 : Hid (Kept w1 w3) := (hkp.out.alloc _).trans hkp3
      have hsz4 : Hid (w1.heap.size ≤ w3.heap.size) := by
        obtain ⟨_, _, q, _⟩ := hd3
        have := q.size
        simp at this
        have := hsz.out
        show _ ≤ _
        omega
      clear hd3 hkp3 hkp hsz h3 ch3 S2 hsz2 hnx ld
      go_wp2
      go_roundg (gk - 1)
      case measure => omega
      case rel => exact ⟨k + 1, by go_num, by omega, hd4, hkp4, hsz4⟩
    · have hfin : Hid (Did F w (wr.setCell ⟨g, 2, none⟩ (.slice none 0 0)) g D.flush.2) := by
        show Did _ _ _ _ _
        rw [HW.out]
        obtain ⟨F2, h2, ch2, s2⟩ := hd.out
        have := (h2.set2).after ch2 s2
        rw [List.take_of_length_le hge] at this
        exact this
      obtain ⟨F2, h2, ch2, s2⟩ := hd.out
      obtain ⟨km, bm, A, c, -, -, e2, -, -, -, -, fz, -, -, -, hr, hlc⟩ := h2.cells
      have f2 := fz 2
      clear h2 ch2 s2 hr fz
      go_wp2
      go_ret
      exact ⟨ret_int (by rw [HW.out]), hfin.out⟩
end
end Go.Proofs.YtikgplhcadomcaaGreat

namespace Go.Proofs.YtikgplhcadomcaaGreat
open Go.RowKit
set_option linter.unusedVariables false
set_option linter.unusedSimpArgs false

def boolEnc (b : Bool) : List Value := [.bool b]
attribute [local go_sem ↓ high] fold_storeWr fold_loadWr
attribute [local go_sem] run_stWr_new run_ldWr_new
section
variable {w : World} {g : Nat} {F : Nat → Prop} {D : Dv}
end
end Go.Proofs.YtikgplhcadomcaaGreat

namespace Go.Proofs.YtikgplhcadomcaaGreat
open Go.RowKit Go.Shelf
set_option linter.unusedVariables false
set_option linter.unusedSimpArgs false
attribute [local go_sem] Oper.semAt_some
attribute [local go_sem ↓ high] fold_loadWr

def pairV (x : Nat × Wr) : Array Value := #[.int .i64 (x.1 : Int), .agg x.2.enc.toArray]
theorem rev_take (xs : List Wr) (j k : Nat) (h : j + 1 + k = xs.length) : xs.reverse.take (k + 1) = xs.reverse.take k ++ [xs[j]'(by omega)] := by
  rw [List.take_add_one, List.getElem?_eq_getElem (by simp; omega), List.getElem_reverse]
  simp only [Option.toList_some]
  congr 3
  omega

set_option maxRecDepth 100000 in
set_option maxHeartbeats 2000000 in
theorem back1_in (F : Fence) (n : Nat) (hF : F.fn 229) (hro : F.round = none) (hn : 1 ≤ n) (l Bs n₀ : Nat) (A : Option Addr) (cap : Nat) (xs : List Wr) (hBs : Bs < n₀) (hA : ∀ a, A = some a → a.block < n₀) (hbig : xs.length ≤ 9223372036854775807) (J Jx : List (Nat × Wr) → World → Prop)
    (hY : ∀ pre x W, J pre W → pre.length < xs.length → YieldAt F (n - 1) Tryz.prog l (pairV x) W fun e W' =>
      (e = .returned (.bool true) ∧ J (pre ++ [x]) W' ∧ Below n₀ W W') ∨ (e = .returned (.bool false) ∧ Jx (pre ++ [x]) W'))
    (W : World) (hB : W.cell? ⟨Bs, 0, none⟩ = some (.slice A xs.length cap)) (hr : Rd Wr.enc 33 W A xs) (h0 : J [] W) :
    CallsIn F n Tryz.prog 229 #[.func (.yield l) #[] #[], .pointer (some ⟨Bs, 0, none⟩)] W fun e W' => (∃ v, e = .returned v) ∧
      ((∃ ys, ys.map (·.2) = xs.reverse ∧ J ys W') ∨ (∃ pre, pre.map (·.2) = xs.reverse.take pre.length ∧ Jx pre W')) := by
  refine callsIn_of_wp Tryz.func229 rfl hF ?_ hro
  simp only [Tryz.ntmps229, List.size_toArray, List.length_cons, List.length_nil, Nat.reduceAdd, Nat.reduceSub, Array.replicate_succ, Array.replicate_zero, List.push_toArray, List.append_toArray, List.nil_append, List.cons_append]
  have HR := Lib.hid hr
  have HA := Lib.hid hA
  clear hr hA
  have hw : ∀ m : Nat, m ≤ xs.length → wrap64 ((m : Int) - 1) = (m : Int) - 1 := fun m hm => by unfold wrap64; omega
  have hw0 := hw xs.length (Nat.le_refl _)
  gi_wp2
  gi_loopw [3] (fun i wr => ∃ (m : Nat) (pre : List (Nat × Wr)), m + pre.length = xs.length ∧ i = .int .i64 ((m : Int) - 1) ∧ pre.map (·.2) = xs.reverse.take pre.length ∧ J pre wr ∧ Below n₀ W wr)
    (fun i _ => (intOf i + 1).toNat)
  case atStart => exact ⟨xs.length, [], by simp, rfl, by simp, h0, Below.refl _ _⟩
  case round =>
    obtain ⟨m, pre, hm, rfl, hp, hJs, hnx⟩ := hrel
    have hBx : wr.cell? ⟨Bs, 0, none⟩ = some (.slice A xs.length cap) := (hnx.cell (p := ⟨Bs, 0, none⟩) hBs).trans hB
    cases m with
    | zero =>
      gi_wp2
      go_end0
      refine ⟨⟨_, rfl⟩, .inl ⟨pre, ?_, hJs⟩⟩
      rw [hp, List.take_of_length_le (by simp; omega)]
    | succ j =>
      have hj : j < xs.length := by omega
      have hrt := rev_take xs j pre.length (by omega)
      have hx : xs[j]? = some xs[j] := List.getElem?_eq_getElem hj
      have hrw : ∃ b off, A = some ⟨b, off, none⟩ ∧ wr.rangeAt b (off + j * 33) (xs[j]).enc := by
        rcases HR.out with e | ⟨b, off, rfl, hbl, hcell⟩
        · simp [e] at hj
        · exact ⟨b, off, rfl, fun i v hv => (hnx.cell (p := ⟨b, off + j * 33 + i, none⟩) (HA.out ⟨b, off, none⟩ rfl)).trans (hcell j _ hx i v hv)⟩
      obtain ⟨b, off, rfl, hrg⟩ := hrw
      obtain ⟨fn, tmps, assign, body, hy, hR⟩ := hY pre (j, xs[j]) wr hJs (by omega)
      have hq : xs.reverse.take (pre ++ [(j, xs[j])]).length = (pre ++ [(j, xs[j])]).map (·.2) := by
        rw [List.length_append, List.length_singleton, hrt, List.map_append, hp]
        simp
      have ld := run_ldWr wr b (off + j * 33) xs[j] hrg
      simp only [pairV] at hy
      generalize xs[j] = x at *
      have i0 : (0 : Int) ≤ (j : Int) := by omega
      have i1 : (j : Int) < (xs.length : Int) := by omega
      have hwj := hw j (by omega)
      have hj1 : ((j + 1 : Nat) : Int) - 1 = (j : Int) := by omega
      rw [hj1]
      clear hrg hx hrt
      gi_wp2
      refine hR.mono ?_
      rintro e W3 (⟨rfl, hJ3, hk3⟩ | ⟨rfl, hJx3⟩)
      · gi_wp2
        go_roundw
        case rel => exact ⟨j, pre ++ [(j, x)], by simp; omega, rfl, hq.symm, hJ3, hnx.trans hk3⟩
        case measure => simp [intOf]
      · gi_wp2
        refine bodyPost_ret (results_none rfl _ _ _) rfl ?_
        exact ⟨⟨_, rfl⟩, .inr ⟨_, hq.symm, hJx3⟩⟩
set_option maxRecDepth 100000 in
set_option maxHeartbeats 1000000 in
/-- slices.Backward(s): the slice value is boxed; the function value captures the box. -/
theorem backward_in (F : Fence) (n : Nat) (hF : F.fn 225) (hro : F.round = none) (a : Option Addr) (len cap : Nat) (w : World) :
    CallsIn F n Tryz.prog 225 #[.slice a len cap] w fun e w' => e = .returned (.func (.func 229) #[] #[.pointer (some ⟨w.heap.size, 0, none⟩)]) ∧ w' = w.alloc (.cells #[.slice a len cap] 138) := by
  refine callsIn_of_wp Tryz.func225 rfl hF ?_ hro
  simp only [Tryz.ntmps225, List.size_toArray, List.length_cons, List.length_nil, Nat.reduceAdd, Nat.reduceSub, Array.replicate_succ, Array.replicate_zero, List.push_toArray, List.append_toArray, List.nil_append, List.cons_append]
  gi_wp2
  go_ret
  exact ⟨rfl, rfl⟩
theorem back_stops (F : Fence) (n : Nat) (hF : F.fn 229) (hro : F.round = none) (hn : 1 ≤ n) (Bs n₀ : Nat) (A : Option Addr) (cap : Nat) (xs : List Wr) (hBs : Bs < n₀) (hA : ∀ a, A = some a → a.block < n₀) (hbig : xs.length ≤ 9223372036854775807)
    (w : World) (hn₀ : n₀ ≤ w.heap.size) (hB : w.cell? ⟨Bs, 0, none⟩ = some (.slice A xs.length cap)) (hr : Rd Wr.enc 33 w A xs) :
    SeqStopsK F n Tryz.prog 229 #[.pointer (some ⟨Bs, 0, none⟩)] pairV (Below n₀) (fun ys => ys.map (·.2) = xs.reverse) (fun pre => pre.map (·.2) = xs.reverse.take pre.length) xs.length w := fun l J Jx W hW _ _ hY h0 =>
  back1_in F n hF hro hn l Bs n₀ A cap xs hBs hA hbig J Jx hY W ((hW.cell (p := ⟨Bs, 0, none⟩) (by show Bs < _; omega)).trans hB) (hr.below hW (Nat.le_refl _)) h0
end Go.Proofs.YtikgplhcadomcaaGreat

namespace Go.Proofs.YtikgplhcadomcaaGreat
open Go.RowKit Go.Shelf
set_option linter.unusedVariables false
set_option linter.unusedSimpArgs false
attribute [local go_sem] Oper.semAt_some
attribute [local go_sem ↓ high] fold_loadWr fold_loadSec fold_storeWr fold_storeSec fold_lkKept
attribute [local go_sem] run_stWr_new

theorem last_none (p : Int) : ∀ (l : List Wr), (∀ x ∈ l, x.pos ≠ p) → lastAt p l = none
  | [], _ => rfl
  | x :: l, h => by
    rw [lastAt, last_none p l (fun y hy => h y (List.mem_cons_of_mem _ hy)), if_neg (h x List.mem_cons_self)]
    rfl
theorem last_rev (p : Int) (l r : List Wr) (x : Wr) (hx : x.pos = p) (hr : ∀ y ∈ r, y.pos ≠ p) : lastAt p (l ++ x :: r) = some x.b := by
  induction l with
  | nil => rw [List.nil_append, lastAt, last_none p r hr, if_pos hx]; rfl
  | cons y l ih => rw [List.cons_append, lastAt, ih]; rfl
theorem last_take (p : Int) (l ini : List Wr) (x : Wr) (k : Nat) (h : ini ++ [x] = l.reverse.take k) (hx : x.pos = p) (hr : ∀ y ∈ ini, y.pos ≠ p) : lastAt p l = some x.b := by
  have h1 : l.reverse = ini ++ [x] ++ l.reverse.drop k := by rw [h, List.take_append_drop]
  have h2 : l = (l.reverse.drop k).reverse ++ x :: ini.reverse := by
    have := congrArg List.reverse h1
    simpa using this
  rw [h2]
  exact last_rev p _ _ x hx (fun y hy => hr y (by simpa using hy))

theorem blk_own {β : Type} (B b : Nat) (c : β → Array Value) (t : TypeId) : OwnFrom B (fun (s : β) W => W.heap[b]? = some (.cells (c s) t (0, 0))) := fun s X Y row hs hg hrow =>
  (hg.block b (blk_lt hs) (fun e => by
    obtain ⟨_, o, ho, hc⟩ := hrow b e.symm
    rw [hs] at ho
    cases ho
    cases hc)).trans hs
theorem run_stSec_at (W : World) (R : Nat) (c : Array Value) (hc : c.size = 32) (s : Sec) (h : W.heap[R]? = some (.cells c 154 (0, 0))) : ∃ W', (stSec (.pointer (some ⟨R, 0, none⟩)) (.agg (secCells s).toArray)).run Tryz.prog W = .ok () W' ∧ W'.heap[R]? = some (.cells (secCells s).toArray 154 (0, 0)) ∧ W.grownBy W' (some R) := by
  refine ⟨W.setRow R (secCells s).toArray, ?_, setRow_heap W R c _ _ _ h, rfl, rfl, rfl, by simp, fun k _ hk => setRow_other W R k _ (fun e => hk (by rw [e]))⟩
  unfold stSec
  simp only [Instr.storeAt, Instr.sureAddr, Sem.run_bind, Sem.run_pure, Result.andThen_ok]
  exact run_storeVar_row W R _ _ c _ h (by rw [secSize]; exact sizeSec) (by rw [secSize]; exact hc) (all_oneCell_toArray (secCells_one s))
/-- Between two rounds: none of those that came is of sector p. -/
def NowI (w w' : World) (p : Int) (pre : List (Nat × Wr)) (W : World) : Prop :=
  (W.heap[w.heap.size]? = some (.cells #[.int .i64 p] 3 (0, 0)) ∧ W.heap[w.heap.size + 1]? = some (.cells (secCells sec0).toArray 154 (0, 0))) ∧ ((∀ q ∈ pre, q.2.pos ≠ p) ∧ Below w.heap.size w' W)
/-- Left: the last is of sector p. -/
def NowX (w w' : World) (p : Int) (code : Code) (pre : List (Nat × Wr)) (W : World) : Prop :=
  (code = .ret ∧ ∃ ini last, pre = ini ++ [last] ∧ (∀ q ∈ ini, q.2.pos ≠ p) ∧ last.2.pos = p ∧ W.heap[w.heap.size + 1]? = some (.cells (secCells last.2.b).toArray 154 (0, 0))) ∧ Below w.heap.size w' W
theorem nowI_own {w w' : World} (p : Int) (h1 : w.heap.size ≤ w'.heap.size) : OwnFrom w'.heap.size (NowI w w' p) :=
  OwnFrom.and (OwnFrom.and (blk_own _ _ (fun _ => #[.int .i64 p]) _) (blk_own _ _ (fun _ => (secCells sec0).toArray) _)) (OwnFrom.and (ownFrom_pure _ _) (ownFrom_below h1 h1))
theorem nowX_own {w w' : World} (p : Int) (h1 : w.heap.size ≤ w'.heap.size) (code : Code) : OwnFrom w'.heap.size (NowX w w' p code) :=
  OwnFrom.and (fun s X Y row hs hg hr => by
      obtain ⟨e0, ini, last, e1, e2, e3, e4⟩ := hs
      exact ⟨e0, ini, last, e1, e2, e3, blk_own w'.heap.size (w.heap.size + 1) (fun (_ : Unit) => (secCells last.2.b).toArray) _ () X Y row e4 hg hr⟩) (ownFrom_below h1 h1)
section
variable {w : World} {g : Nat} {F0 : Nat → Prop} {D : Dv}
/-- The function's end, behind a loop over a function. -/
theorem now_end {W3 : World} {Df : Nat} {s r : Sec} (hK : W3.heap[Df]? = some (.deferred (some []))) (hD : w.heap.size + 1 < Df) (h3 : W3.heap[w.heap.size + 1]? = some (.cells (secCells s).toArray 154 (0, 0))) (hB : Below w.heap.size w W3)
    (a : Array Value) (ha : a.getD 4 undef = .pointer (some ⟨w.heap.size + 1, 0, none⟩)) (hs : s = r) : ∃ v, (results Tryz.f213 a).run Tryz.prog (W3.putObj Df (.deferred none)) = .ok v (W3.putObj Df (.deferred none)) ∧ Ending.returned v = .returned (.agg (secCells r).toArray) ∧ Below w.heap.size w (W3.putObj Df (.deferred none)) := by
  subst hs
  have h4 : (W3.putObj Df (.deferred none)).heap[w.heap.size + 1]? = some (.cells (secCells s).toArray 154 (0, 0)) := by
    rw [World.putObj_heap_other (by omega)]
    exact h3
  exact ⟨_, results_cell_row rfl _ _ _ _ _ _ _ ha h4 Tryz.underlying154 rfl (by rw [secSize]; exact sizeSec), rfl, hB.grown (grownBy_putObj' W3 Df (.deferred none)) hB.size (fun k ek => by cases ek; omega)⟩
set_option maxRecDepth 100000 in
set_option maxHeartbeats 4000000 in
theorem now_in (F : Fence) (n : Nat) (h92 : F.fn 213) (h114 : F.fn 225) (h119 : F.fn 229) (hro : F.round = none) (hn : 3 ≤ n) (h : DevAt w g F0 D) (p : Int) :
    CallsIn F n Tryz.prog 213 #[.pointer (some ⟨g, 0, none⟩), .int .i64 p] w fun e w' => e = .returned (.agg (secCells (D.now p)).toArray) ∧ Below w.heap.size w w' := by
  have h1 : 1 ≤ n := by omega
  obtain ⟨km, bm, A, c, -, c1, c2, -, -, -, -, -, hk, -, ho, hr, hlc⟩ := h.cells
  have hgl := h.glt
  have hbig := ho.len_le
  have HR := Lib.hid hr
  have HK := Lib.hid hk
  have HAl : Hid (∀ a, A = some a → a.block < w.heap.size) := fun a ha => by
    subst ha
    rcases ho.2 with ⟨e, _⟩ | ⟨g', cap, cur, e, _, hh, _⟩
    · cases e
    · cases e; exact blk_lt hh
  clear h ho hr hk
  refine callsIn_of_wp_marks Tryz.func213 rfl h92 ?_ hro
  simp only [Tryz.ntmps213, List.size_toArray, List.length_cons, List.length_nil, Nat.reduceAdd, Nat.reduceSub, Array.replicate_succ, Array.replicate_zero, List.push_toArray, List.append_toArray, List.nil_append, List.cons_append]
  have k2 : ∀ o o', ((w.alloc o).alloc o').cell? ⟨g, 2, none⟩ = some (.slice A D.cache.length c) := fun o o' => ((bl_alloc (bl_alloc (Below.refl _ w) o) o').cell (by exact hgl)).trans c2
  gi_wp2_with (gi_at_call 225; refine (backward_in F (n - 1) h114 hro _ _ _ _).mono ?_; rintro e w' ⟨rfl, hw'⟩)
  rw [← hw']
  have hb0 : Below w.heap.size w w' := by rw [hw']; exact bl_alloc (bl_alloc (bl_alloc (Below.refl _ w) _) _) _
  have hs0 : w'.heap.size = w.heap.size + 3 := by rw [hw']; simp
  have b0 : w'.heap[w.heap.size]? = some (.cells #[.int .i64 p] 3 (0, 0)) := by rw [hw']; exact blk_alloc (blk_alloc (blk_new w _) _) _
  have b1 : w'.heap[w.heap.size + 1]? = some (.cells (secCells sec0).toArray 154 (0, 0)) := by
    rw [hw']
    have := blk_new (w.alloc (.cells #[.int .i64 p] 3)) (.cells (secCells sec0).toArray 154)
    rw [World.size_alloc] at this
    exact blk_alloc this _
  have b2 : w'.cell? ⟨w.heap.size + 1 + 1, 0, none⟩ = some (.slice A D.cache.length c) := by
    have h2 : w'.heap[w.heap.size + 1 + 1]? = some (.cells #[.slice A D.cache.length c] 138 (0, 0)) := by
      rw [hw']
      have := blk_new ((w.alloc (.cells #[.int .i64 p] 3)).alloc (.cells (secCells sec0).toArray 154)) (.cells #[.slice A D.cache.length c] 138)
      rw [World.size_alloc, World.size_alloc] at this
      exact this
    rw [blk_cell h2]
    rfl
  clear hw' k2
  have hr0 := HR.out.below hb0 (Nat.le_refl _)
  refine wpIn_rangeFunc_ownH hro h1 (gf := 229) (lb := #[.pointer (some ⟨w.heap.size + 1 + 1, 0, none⟩)]) rfl h119 (enters_of Tryz.func229 (by kernel_rfl) rfl)
    (back_stops F (n - 1) h119 hro (by omega) (w.heap.size + 1 + 1) w'.heap.size A c D.cache (by omega) (fun a ha => by have := HAl.out a ha; omega) hbig w' (Nat.le_refl _) b2 hr0) belowK_t (belowK_b (Nat.le_refl _)) (Below.refl _ _) (fun _ => rfl)
    (NowI w w' p) (NowX w w' p) (nowI_own p hb0.size) (nowX_own p hb0.size)
    ⟨⟨b0, b1⟩, by simp, Below.refl _ _⟩
    (fun x a' W => ∃ Bx, w'.heap.size ≤ Bx ∧ W.heap[Bx]? = some (.cells x.2.enc.toArray 156 (0, 0)) ∧ a' = { tmps := #[.pointer (some ⟨g, 0, none⟩), .int .i64 p, undef, .pointer (some ⟨w.heap.size, 0, none⟩), .pointer (some ⟨w.heap.size + 1, 0, none⟩), undef, .pointer (some ⟨Bx, 0, none⟩), .pointer (some ⟨g, 0, none⟩), .pointer (some ⟨g, 0, none⟩), .pointer (some ⟨g, 2, none⟩), .slice A D.cache.length c, .func (.func 229) #[] #[.pointer (some ⟨w.heap.size + 1 + 1, 0, none⟩)], .int .i64 (x.1 : Int), .agg x.2.enc.toArray, undef, undef, undef, undef, undef, undef, undef, undef, undef, undef, undef, undef], defers := [] })
    (fun x a' s X Y row hs hg hr => by
      obtain ⟨Bx, e1, e2, e3⟩ := hs
      exact ⟨Bx, e1, blk_own w'.heap.size Bx (fun (_ : Unit) => x.2.enc.toArray) _ () X Y row e2 hg hr, e3⟩)
    ?assign ?body ?done ?stop
  case assign =>
    rintro l pre x W K ⟨⟨hp, hq⟩, hn, hB⟩ hK
    obtain ⟨ix, x⟩ := x
    unfold pairV
    gi_wp2
    have hsz := hB.size
    exact hK _ _ ((KeepsOthers.alloc _ _).from _) ((Below.refl _ W).alloc hsz _) ⟨⟨blk_alloc hp _, blk_alloc hq _⟩, hn, hB.alloc (by omega) _⟩ ⟨W.heap.size, hsz, blk_new W _, rfl⟩
  case body =>
    rintro l pre x a' W hl ⟨r, hr⟩ ⟨⟨hp, hq⟩, hn, hB⟩ ⟨Bx, hBx, bX, rfl⟩ hlt
    obtain ⟨ix, x⟩ := x
    have x0 := blk_cell bX 0
    have y0 := blk_cell hp 0
    have e0 : x.enc.toArray[0]? = some (.int .i64 x.pos) := rfl
    rw [e0] at x0
    simp at y0
    have ld := run_ldSec W Bx 1 x.b (range_blk bX (fun j v hv => by
      rw [List.getElem?_toArray, show 1 + j = j + 1 from by omega]
      exact hv))
    obtain ⟨W3, st, h3, hg3⟩ := run_stSec_at W (w.heap.size + 1) _ (secSize _) x.b hq
    have HN := Lib.hid hn
    clear hn
    dsimp only at x0 ld st e0 ⊢
    rcases (Decidable.em (x.pos = p)) with he | he
    · have HE := Lib.hid he
      have heb : (x.pos == p) = true := by simpa using he
      clear he
      gi_wp2
      exact ⟨(KeepsOthers.of_grownBy hg3 (fun j o ej ho => by cases ej; rw [hq] at ho; cases ho; rfl)).from _, ⟨rfl, pre, (ix, x), rfl, HN.out, HE.out, h3⟩, hB.grown hg3 (by have := hB.size; omega) (fun k ek => by cases ek; omega)⟩
    · have heb : (x.pos == p) = false := by simpa using he
      have HE := Lib.hid he
      clear he
      gi_wp2
      refine ⟨KeepsFrom.refl _ _, Below.refl _ _, ⟨hp, hq⟩, fun q hm => ?_, hB⟩
      rcases List.mem_append.1 hm with hm | hm
      · exact HN.out q hm
      · simp at hm
        subst hm
        exact HE.out
  case done =>
    rintro Df ys W hD hys ⟨⟨hp, hq⟩, hn, hB⟩ hKd
    have hnow : Hid (D.now p = (look D.kept p).getD sec0) := by
      show _ = _
      unfold Dv.now Dv.base
      rw [last_none p D.cache (fun x hx => ?_)]
      · rfl
      · have hm : x ∈ ys.map (·.2) := by rw [hys]; simpa using hx
        obtain ⟨q, hq1, rfl⟩ := List.mem_map.1 hm
        exact hn q hq1
    have hBW : Hid (Below w.heap.size w W) := hb0.trans hB
    have y0 := blk_cell hp 0
    simp at y0
    have z1 : W.cell? ⟨g, 1, none⟩ = some (.map (some km)) := (hBW.out.cell (by exact hgl)).trans c1
    have lk := run_lkKept (w := W.drew) (HK.out.below hBW.out.drew HK.out.lt) p
    obtain ⟨W3, st, h3, hg3⟩ := run_stSec_at W.drew (w.heap.size + 1) _ (secSize _) ((look D.kept p).getD sec0) (blk_drew hq)
    have hK3 : Hid (W3.heap[Df]? = some (.deferred (some []))) := by
      show _ = _
      rw [hg3.block Df (blk_lt hKd) (fun e => by
        have e' : Df = w.heap.size + 1 := by injection e
        omega)]
      exact hKd
    have hB3 : Hid (Below w.heap.size w W3) := hBW.out.drew.grown hg3 hBW.out.size (fun k ek => by cases ek; omega)
    have hD3 : Hid (w.heap.size + 1 < Df) := by show _ < _; omega
    clear hn hys
    gi_wp2
    gi_region
    all_goals
      gi_wp2
      refine ⟨by simp, .inl ⟨_, _, rfl, run_takeDeferred hK3.out, ?_⟩⟩
      exact now_end hK3.out hD3.out h3 hB3.out _ rfl hnow.out.symm
  case stop =>
    rintro Df code pre W hD hpre ⟨⟨rfl, ini, last, e1, e2, e3, e4⟩, hB⟩ hKd
    have hnow : Hid (last.2.b = D.now p) := by
      show _ = _
      unfold Dv.now
      subst e1
      rw [last_take p D.cache (ini.map (·.2)) last.2 _ (by rw [← hpre]; simp) e3 (fun y hy => by
        obtain ⟨q, hq1, rfl⟩ := List.mem_map.1 hy
        exact e2 q hq1)]
      rfl
    have hB3 : Hid (Below w.heap.size w W) := hb0.trans hB
    have hD3 : Hid (w.heap.size + 1 < Df) := by show _ < _; omega
    clear hpre e1 e2 e3
    gi_wp2
    refine ⟨by simp, .inl ⟨_, _, rfl, run_takeDeferred hKd, ?_⟩⟩
    exact now_end hKd hD3.out e4 hB3.out _ rfl hnow.out
end
end Go.Proofs.YtikgplhcadomcaaGreat

namespace Go.Proofs.YtikgplhcadomcaaGreat
open Go.RowKit
set_option linter.unusedVariables false
set_option linter.unusedSimpArgs false
def lkBad (m k : Value) : Sem Value := Instr.lookup 137 m k false
theorem fold_lkBad (m k : Value) : Instr.lookup 137 m k false = lkBad m k := rfl
def upBad (m k v : Value) : Sem Unit := Instr.mapUpdate 137 m k v
theorem fold_upBad (m k v : Value) : Instr.mapUpdate 137 m k v = upBad m k v := rfl
def dlBad (ty : TypeId) (args : Array Value) : Sem Value := Builtin.delete_ #[137, 3] ty args
theorem fold_dlBad (ty : TypeId) (args : Array Value) : Builtin.delete_ #[137, 3] ty args = dlBad ty args := rfl
theorem run_lkBad {w : World} {b : Nat} {L : List (Int × Bool)} (h : MapI w b Value.bool L) (k : Int) : (lkBad (.map (some b)) (.int .i64 k)).run Tryz.prog w = .ok (.bool ((look L k).getD false)) w := by
  unfold lkBad
  rw [run_look Tryz.underlying137 Tryz.underlying3 (.bool false) (by
    obtain ⟨i0, hi, hz0, hz1, hz2⟩ := info_parts (show (Tryz.prog.info? 4).map (fun i => (i.zero, i.size, i.bytes)) = some (some (.bool false), 1, 1) from by kernel_rfl)
    simp [zeroValue, typeInfo, hi, hz0]) h k]
  cases look L k <;> rfl
def Dv.readE (D : Dv) (p : Int) : Int := if D.dead then 40 else if D.has p = false then 1 else if D.badAt p then 41 else 0
def Dv.readB (D : Dv) (p : Int) : List Int := if D.readE p = 0 then (D.now p).1 else []
attribute [local go_sem ↓ high] fold_storeSec fold_lkBad fold_upBad fold_dlBad
attribute [local go_sem] run_stSec_new
section
variable {w : World} {g : Nat} {F : Nat → Prop} {D : Dv}
theorem now_calls (h : DevAt w g F D) (p : Int) : Calls Tryz.prog 213 #[.pointer (some ⟨g, 0, none⟩), .int .i64 p] w fun e w' => e = .returned (.agg (secCells (D.now p)).toArray) ∧ Below w.heap.size w w' :=
  callsIn_wide.1 (now_in Fence.wide 3 trivial trivial trivial rfl (Nat.le_refl _) h p)
theorem readB_none {p : Int} (h : D.readE p ≠ 0) : D.readB p = [] := by unfold Dv.readB; rw [if_neg h]
theorem readB_now {p : Int} (h : D.readE p = 0) : D.readB p = (D.now p).1 := by unfold Dv.readB; rw [if_pos h]
theorem rd_sec {W : World} {b : Nat} {s : Sec} {t : TypeId} {fr : Nat × Nat} (h : W.heap[b]? = some (.cells (secCells s).toArray t fr)) : Rd by1 1 W (some ⟨b, 0, none⟩) s.1 := by
  refine .inr ⟨b, 0, rfl, blk_lt h, fun i x hx j v hv => ?_⟩
  rw [blk_cell h, List.getElem?_toArray, Nat.zero_add, Nat.mul_one]
  unfold secCells
  rw [List.getElem?_map]
  cases j with
  | zero => simp [by1] at hv; subst hv; rw [Nat.add_zero, hx]; rfl
  | succ j => simp [by1] at hv
/-- What Read hands back. -/
def ReadR (w w' : World) (b : List Int) (n : Int) (e : Ending) : Prop := ∃ A c, e = .returned (.tuple #[.slice A b.length c, .int .i64 n]) ∧ b.length ≤ c ∧ Rd by1 1 w' A b ∧ (∀ a, A = some a → w.heap.size ≤ a.block) ∧ Below w.heap.size w w'
set_option maxRecDepth 100000 in
set_option maxHeartbeats 4000000 in
theorem read_calls (h : DevAt w g F D) (p : Int) : Calls Tryz.prog 189 #[.pointer (some ⟨g, 0, none⟩), .int .i64 p] w fun e w' => ReadR w w' (D.readB p) (D.readE p) e := by
  have hdead := Lib.hid (dead_calls h)
  have hhas := Lib.hid (has_calls h p)
  have hnow := Lib.hid (now_calls h p)
  obtain ⟨km, bm, A, c, -, -, -, c3, -, -, -, -, -, hm, -, -, -⟩ := h.cells
  have lk := run_lkBad hm p
  have HN : Hid (∀ n, D.readE p = n → n ≠ 0 → ReadR w w (D.readB p) (D.readE p) (.returned (.tuple #[.slice none 0 0, .int .i64 n]))) := fun n e hn => by
    subst e
    refine ⟨none, 0, ?_, ?_, .inl (readB_none hn), (fun a ha => by cases ha), Below.refl _ _⟩ <;> rw [readB_none hn]
    · rfl
    · exact Nat.le_refl _
  clear h hm
  go_enter Tryz.func189, Tryz.ntmps189
  go_wp2_with fail
  refine hdead.out.mono ?_
  rintro e w1 ⟨rfl, rfl⟩
  rcases hd : D.dead with _ | _
  case' true =>
    go_wp2
    go_ret2
    exact HN.out 40 (by simp [Dv.readE, hd]) (by decide)
  go_wp2_with fail
  refine hhas.out.mono ?_
  rintro e w1 ⟨rfl, rfl⟩
  rcases hp : D.has p with _ | _
  case' false =>
    go_wp2
    go_ret2
    exact HN.out 1 (by simp [Dv.readE, hd, hp]) (by decide)
  rcases hb : (look D.bad p).getD false with _ | _
  case' true =>
    rw [hb] at lk
    go_wp2
    go_ret2
    exact HN.out 41 (by simp [Dv.readE, Dv.badAt, hd, hp, hb]) (by decide)
  rw [hb] at lk
  have hE : Hid (D.readE p = 0) := by show _ = _; simp [Dv.readE, Dv.badAt, hd, hp, hb]
  go_wp2_with fail
  refine hnow.out.mono ?_
  rintro e w1 ⟨rfl, hb1⟩
  have st := run_stSec_new w1
  have HB := Lib.hid hb1
  clear hb1
  go_wp2
  go_ret2
  refine ⟨some ⟨w1.heap.size, 0, none⟩, 32, ?_, ?_, ?_, (fun a ha => by cases ha; exact HB.out.size), HB.out.alloc HB.out.size _⟩
  · rw [readB_now hE.out, (D.now p).2.1, hE.out]
    rfl
  · rw [readB_now hE.out, (D.now p).2.1]
    exact Nat.le_refl _
  · rw [readB_now hE.out]
    exact rd_sec (blk_new _ _)
end
end Go.Proofs.YtikgplhcadomcaaGreat

namespace Go.Proofs.YtikgplhcadomcaaGreat
open Go.RowKit Go.ChangeShapes Go.WideShapes Go.Deep
set_option linter.unusedVariables false
set_option linter.unusedSimpArgs false

structure Deed where
  kind : Int
  pos : Int
  A : Option Addr
  b : List Int
  cb : Nat
  n : Int
  K : Option Addr
  keep : List Bool
  ck : Nat
  torn : Int
  bytes : Int
def Deed.enc (x : Deed) : List Value := [.int .i64 x.kind, .int .i64 x.pos, .slice x.A x.b.length x.cb, .int .i64 x.n, .slice x.K x.keep.length x.ck, .int .i64 x.torn, .int .i64 x.bytes]
theorem Deed.ok : Enc Deed.enc 7 := ⟨fun _ => rfl, fun x u hu => by
  simp only [Deed.enc, List.mem_cons, List.not_mem_nil, or_false] at hu
  rcases hu with rfl | rfl | rfl | rfl | rfl | rfl | rfl <;> rfl, by omega⟩
def Deed.good (W : World) (x : Deed) : Prop :=
  (x.b.length ≤ x.cb ∧ byteL x.b ∧ Rd by1 1 W x.A x.b) ∧ Rd boolEnc 1 W x.K x.keep ∧ x.n ≤ 9223372036854775807

section
variable {H : Type} {he : TypeId × Value → H} {P : Program} {W : World} {base : Nat} {spare : Nat → Bool} {held : Bool}
end
section
variable {H : Type} {he : TypeId × Value → H} {W : World} {base : Nat} {spare : Nat → Bool} {held : Bool}
end
end Go.Proofs.YtikgplhcadomcaaGreat

namespace Go.Proofs.YtikgplhcadomcaaGreat
open Go.RowKit
set_option linter.unusedVariables false
set_option linter.unusedSimpArgs false

/-- An element's cells, for a walk. -/
theorem Deed.cells {W : World} {b off k : Nat} {l : List Deed} {x : Deed} (h : Rd Deed.enc 7 W (some ⟨b, off, none⟩) l) (hx : l[k]? = some x) :
    W.cell? ⟨b, off + k * 7, none⟩ = some (.int .i64 x.kind) ∧ W.cell? ⟨b, off + k * 7 + 1, none⟩ = some (.int .i64 x.pos) ∧ W.cell? ⟨b, off + k * 7 + 2, none⟩ = some (.slice x.A x.b.length x.cb) ∧ W.cell? ⟨b, off + k * 7 + 3, none⟩ = some (.int .i64 x.n) ∧
    W.cell? ⟨b, off + k * 7 + 4, none⟩ = some (.slice x.K x.keep.length x.ck) ∧ W.cell? ⟨b, off + k * 7 + 5, none⟩ = some (.int .i64 x.torn) ∧ W.cell? ⟨b, off + k * 7 + 6, none⟩ = some (.int .i64 x.bytes) := by
  have hr := h.range hx
  exact ⟨hr 0 _ rfl, hr 1 _ rfl, hr 2 _ rfl, hr 3 _ rfl, hr 4 _ rfl, hr 5 _ rfl, hr 6 _ rfl⟩
theorem bl_chg {B : Nat} {F : Nat → Prop} {w w1 w2 : World} (h : Below B w w1) (hB : B ≤ w1.heap.size) (c : Chg F w1 w2) (hF : ∀ i, F i → B ≤ i) : Below B w w2 := h.trans (c.below hB hF)
/-! ### awake -/
theorem write_calls' {w : World} {g : Nat} {F : Nat → Prop} {D : Dv} (h : DevAt w g F D) (p : Int) (A : Option Addr) (n c : Nat) (b : List Int) (hn : b.length = n) (hb : Rd by1 1 w A b) (hbb : byteL b) (hbl : n ≤ c) (hA : b ≠ [] → ∀ a, A = some a → ¬ F a.block) (hcl : D.cache.length ≤ 1000000000000) :
    Calls Tryz.prog 43 #[.pointer (some ⟨g, 0, none⟩), .int .i64 p, .slice A n c] w fun e w' => e = .returned (.int .i64 (D.write p b).1) ∧ Did F w w' g (D.write p b).2 := by
  subst hn
  exact write_calls h p A c b hb hbb hbl hA hcl
theorem run_make32 (w : World) : (Instr.makeSlice 51 (.int .i64 32) (.int .i64 32)).run Tryz.prog w = .ok (.slice (some ⟨w.heap.size, 0, none⟩) 32 32) (w.alloc (.cells (secCells sec0).toArray 5)) := by
  obtain ⟨i0, hi, hz0, hz1, hz2⟩ := info_parts (show (Tryz.prog.info? 5).map (fun i => (i.zero, i.size, i.bytes)) = some (some (.int .u8 0), 1, 1) from by kernel_rfl)
  rw [run_makeSlice w _ _ i0 _ Tryz.underlying51 hi hz0 _ _ 32 32 (by decide) (by decide) (by rw [hz1]; decide) (by rw [hz2]; decide) (by decide), hz1, show madeCells (Value.int .u8 0).cells (Int.toNat 32 * 1) = (secCells sec0).toArray from by kernel_rfl]
  rfl
/-! ### The device as a law holds it -/
/-- The device at g, in blocks from W1 on. -/
def DevB (W1 wr : World) (g : Nat) (D : Dv) : Prop := ∃ F, DevAt wr g F D ∧ (∀ i, F i → W1.heap.size ≤ i) ∧ Below W1.heap.size W1 wr
section
variable {W1 wr w3 : World} {g : Nat} {D D' : Dv} {F : Nat → Prop}
theorem DevB.alloc (h : DevB W1 wr g D) (o : Obj) : DevB W1 (wr.alloc o) g D := by
  obtain ⟨F, h1, h2, h3⟩ := h
  exact ⟨F, h1.alloc o, h2, h3.alloc h3.size o⟩
theorem DevB.below (h : DevB W1 wr g D) (hb : Below wr.heap.size wr w3) : DevB W1 w3 g D := by
  obtain ⟨F, h1, h2, h3⟩ := h
  exact ⟨F, h1.below hb, h2, bl_then h3 h3.size hb⟩
theorem DevB.bl (h : DevB W1 wr g D) : Below W1.heap.size W1 wr := by obtain ⟨F, h1, h2, h3⟩ := h; exact h3
theorem devB_new (h : Below W1.heap.size W1 wr) (n : Int) : Calls Tryz.prog 30 #[.int .i64 n] wr fun e w' => ∃ g, e = .returned (.pointer (some ⟨g, 0, none⟩)) ∧ DevB W1 w' g (Dv.new n) :=
  (new_calls wr n).mono fun e w' hh => by
    obtain ⟨g, F, e1, h1, h2, h3⟩ := hh
    exact ⟨g, e1, F, h1, fun i hi => Nat.le_trans h.size (h2 i hi), bl_then h h.size h3⟩
end
end Go.Proofs.YtikgplhcadomcaaGreat

namespace Go.Proofs.YtikgplhcadomcaaGreat
open Go.RowKit
set_option linter.unusedVariables false
set_option linter.unusedSimpArgs false

theorem run_typeAssert_map {P : Program} (w : World) (t xT k e : TypeId) (v : Value) (h : P.underlying t = some (.map k e)) : (Instr.typeAssert (.iface t v) xT t false).run P w = .ok v w := by
  simp [Instr.typeAssert, run_underlying h, go_sem, Result.andThen]
theorem run_mapsClone {P : Program} (w : World) {r : Nat} {es : Array MapEntry} {clock : Nat} (t : TypeId) (hb : w.heap[r]? = some (.map es clock)) :
    (Extern.MapsClone.clone #[.iface t (.map (some r))]).run P w = .ok (.iface t (.map (some w.heap.size))) (w.alloc (.map es clock)) := by
  have e : Extern.MapsClone.clone #[.iface t (.map (some r))] = (getObj r >>= fun o => match o with
      | .map entries clock => (newObj (.map entries clock) >>= fun n => pure (.iface t (.map (some n))))
      | _ => stuck "maps.clone: a map expected") := rfl
  rw [e]
  simp [MapKept.run_getObj_map hb, Result.andThen, go_sem]
section
variable {w : World} {b : Nat}
end
section
variable {w : World} {g : Nat} {F : Nat → Prop} {D : Dv}
end
end Go.Proofs.YtikgplhcadomcaaGreat

namespace Go.Proofs.YtikgplhcadomcaaGreat
open Go.RowKit
set_option linter.unusedVariables false
set_option linter.unusedSimpArgs false

section
variable (w : World)
end

/-! ### Two devices -/
/-- Two devices, each in blocks of its own, from W1 on. -/
def Dev2 (W1 wr : World) (g : Nat) (D : Dv) (g2 : Nat) (D2 : Dv) : Prop := ∃ F F2, DevAt wr g F D ∧ DevAt wr g2 F2 D2 ∧ (∀ i, F i → W1.heap.size ≤ i) ∧ (∀ i, F2 i → W1.heap.size ≤ i) ∧ (∀ i, F i → ¬ F2 i) ∧ Below W1.heap.size W1 wr
section
variable {W1 wr w3 : World} {g g2 : Nat} {D D' D2 : Dv}
theorem Dev2.fst (h : Dev2 W1 wr g D g2 D2) : DevB W1 wr g D := by obtain ⟨F, F2, a, b, c, d, e, f⟩ := h; exact ⟨F, a, c, f⟩
theorem Dev2.snd (h : Dev2 W1 wr g D g2 D2) : DevB W1 wr g2 D2 := by obtain ⟨F, F2, a, b, c, d, e, f⟩ := h; exact ⟨F2, b, d, f⟩
theorem Dev2.bl (h : Dev2 W1 wr g D g2 D2) : Below W1.heap.size W1 wr := h.fst.bl
theorem Dev2.below (h : Dev2 W1 wr g D g2 D2) (hb : Below wr.heap.size wr w3) : Dev2 W1 w3 g D g2 D2 := by
  obtain ⟨F, F2, a, b, c, d, e, f⟩ := h
  exact ⟨F, F2, a.below hb, b.below hb, c, d, e, bl_then f f.size hb⟩
theorem Dev2.alloc (h : Dev2 W1 wr g D g2 D2) (o : Obj) : Dev2 W1 (wr.alloc o) g D g2 D2 := h.below (bl_alloc (Below.refl _ wr) o)
end

/-! ### Texts of bytes -/
def strB (xs : List Int) : Str := strOfNums xs
theorem strB_nil : strB [] = ByteArray.empty := rfl
theorem strB_inj {xs ys : List Int} (hx : byteL xs) (hy : byteL ys) (h : strB xs = strB ys) : xs = ys := by
  have e : xs.map (fun n => UInt8.ofNat n.toNat) = ys.map (fun n => UInt8.ofNat n.toNat) := by
    have := congrArg (fun s : ByteArray => s.data.toList) h
    simpa [strB, strOfNums] using this
  have hl : xs.length = ys.length := by have := congrArg List.length e; simpa using this
  apply List.ext_getElem hl
  intro i h1 h2
  have e1 : UInt8.ofNat (xs[i]).toNat = UInt8.ofNat (ys[i]).toNat := by
    have := congrArg (fun l => l[i]?) e
    simpa [List.getElem?_map, List.getElem?_eq_getElem h1, List.getElem?_eq_getElem h2] using this
  have e2 := congrArg UInt8.toNat e1
  have a := hx xs[i] (List.getElem_mem _)
  have b := hy ys[i] (List.getElem_mem _)
  simp only [UInt8.toNat_ofNat'] at e2
  omega
theorem strB_beq {xs ys : List Int} (hx : byteL xs) (hy : byteL ys) : ((strB xs).toList == (strB ys).toList) = decide (xs = ys) := by
  rw [toList_beq]
  by_cases h : xs = ys
  · subst h; simp
  · have : ¬ strB xs = strB ys := fun e => h (strB_inj hx hy e)
    simp [h, this]
/-- string(b), whatever b's address where it is empty. -/
theorem run_strB {W : World} {A : Option Addr} {xs : List Int} (n c : Nat) (hn : xs.length = n) (h : Rd by1 1 W A xs) : (convert 51 9 (.slice A n c)).run Tryz.prog W = .ok (.string (strB xs)) W := by
  subst hn
  by_cases h0 : xs = []
  · subst h0
    show (convert 51 9 (.slice A 0 c)).run Tryz.prog W = _
    rw [run_convert_bytes_string W 51 9 5 A 0 c Tryz.underlying51 Tryz.underlying5 Tryz.underlying9]
    cases A with
    | none => simp [Conv.bytesToString, strB_nil]
    | some a =>
      have hl : (loadCells a 0).run Tryz.prog W = .ok #[] W := by simpa using run_loadCells_list (P := Tryz.prog) W a [] (by simp)
      simp [Conv.bytesToString, hl, strB_nil]
  · rcases h with e | ⟨b, off, rfl, hlt, hc⟩
    · exact absurd e h0
    · refine run_convert_bytes_arg W 51 5 Tryz.underlying51 Tryz.underlying5 b off xs.length c xs rfl (fun i hi => ?_) 9 Tryz.underlying9
      have := hc i (xs.getD i 0) (by simp [hi]) 0 _ rfl
      simpa using this
end Go.Proofs.YtikgplhcadomcaaGreat
