/- A device: what it is in this claim's own words, how it lies in memory. -/
import Derived.Test.YtglpckdmiohciaaChg
import Derived.Test.YtglpckdmiohciaaAppendS
import Derived.Test.YtglpckdmiohciaaOpenSup
namespace Go.Proofs.Ytglpckdmiohciaa
open Go.RowKit
set_option linter.unusedVariables false
set_option linter.unusedSimpArgs false

/-- A sector: 32 bytes. -/
abbrev Sec := {l : List Int // l.length = 32 ∧ ∀ x ∈ l, 0 ≤ x ∧ x ≤ 255}
def secCells (s : Sec) : List Value := s.1.map (Value.int .u8)
def secV (s : Sec) : Value := .agg (secCells s).toArray
def sec0 : Sec := ⟨List.replicate 32 0, by simp, fun x hx => by rw [List.eq_of_mem_replicate hx]; omega⟩
theorem secCells_len (s : Sec) : (secCells s).length = 32 := by simp [secCells, s.2.1]
theorem secCells_one (s : Sec) : ∀ v ∈ secCells s, v.oneCell' = true := fun v hv => by
  obtain ⟨x, _, rfl⟩ := List.mem_map.1 hv
  rfl
/-- A sector that was written. -/
structure Wr where
  pos : Int
  b : Sec
deriving DecidableEq
def Wr.enc (x : Wr) : List Value := .int .i64 x.pos :: secCells x.b
def Wr.v (x : Wr) : Value := .agg x.enc.toArray
theorem Wr.len (x : Wr) : x.enc.length = 33 := by simp [Wr.enc, secCells_len]
theorem Wr.ok : Enc Wr.enc 33 := ⟨Wr.len, fun x u hu => by
  rcases List.mem_cons.1 hu with rfl | hu
  · rfl
  · exact secCells_one _ _ hu, by omega⟩

structure Dv where
  n : Nat
  kept : List (Int × Sec)
  cache : List Wr
  bad : List (Int × Bool)
  left : Int
  armed : Bool
  dead : Bool

def Dv.cells (D : Dv) (km bm : Nat) (cv : Value) : Array Value := #[.int .i64 D.n, .map (some km), cv, .map (some bm), .int .i64 D.left, .bool D.armed, .bool D.dead]
/-- The device D lies at block g; all its blocks are in F. -/
def DevAt (w : World) (g : Nat) (F : Nat → Prop) (D : Dv) : Prop :=
  ∃ km bm cv, w.heap[g]? = some (.cells (D.cells km bm cv) 137 (0, 0)) ∧ MapI w km secV D.kept ∧ MapI w bm Value.bool D.bad ∧ Own Wr.enc 33 141 0 w cv D.cache ∧
    km ≠ bm ∧ g ≠ km ∧ g ≠ bm ∧ (∀ k, cv.ownBlock = some k → k ≠ g ∧ k ≠ km ∧ k ≠ bm ∧ F k) ∧ F g ∧ F km ∧ F bm ∧ (∀ i, F i → i < w.heap.size) ∧ D.n ≤ 65536 ∧ 0 ≤ D.left ∧ D.left ≤ 9223372036854775807

/-- What a call made of the device at g. -/
def Did (F : Nat → Prop) (w w' : World) (g : Nat) (D : Dv) : Prop := ∃ F', DevAt w' g F' D ∧ Chg F w w' ∧ ∀ i, F' i → F i ∨ w.heap.size ≤ i

section
variable {w w' w'' : World} {g : Nat} {F G : Nat → Prop} {D D' : Dv}
theorem DevAt.chg (h : DevAt w g F D) (hc : Chg G w w') (hG : ∀ i, F i → ¬ G i) : DevAt w' g F D := by
  obtain ⟨km, bm, cv, hb, hk, hm, ho, n1, n2, n3, n4, f1, f2, f3, f4, b1, b2⟩ := h
  exact ⟨km, bm, cv, hc.blk hb (hG _ f1), hk.chg hc (hG _ f2), hm.chg hc (hG _ f3), ho.chg hc (fun k hk => hG _ (n4 k hk).2.2.2), n1, n2, n3, n4, f1, f2, f3, fun i hi => Nat.lt_of_lt_of_le (f4 i hi) hc.size, b1, b2⟩
theorem DevAt.below (h : DevAt w g F D) (hb : Below w.heap.size w w') : DevAt w' g F D := h.chg (Below.chg hb fun _ => False) (fun _ _ h => h)
theorem DevAt.alloc (h : DevAt w g F D) (o : Obj) : DevAt (w.alloc o) g F D := h.below ((Below.refl _ w).alloc (Nat.le_refl _) o)
theorem DevAt.drew (h : DevAt w g F D) : DevAt w.drew g F D := h.below (Below.refl _ w).drew
theorem DevAt.drewN (h : DevAt w g F D) (n : Nat) : DevAt (w.drewN n) g F D := h.below (bl_drewN (Below.refl _ w) n)
theorem DevAt.lt (h : DevAt w g F D) : ∀ i, F i → i < w.heap.size := by obtain ⟨km, bm, cv, hb, hk, hm, ho, n1, n2, n3, n4, f1, f2, f3, f4, b1, b2⟩ := h; exact f4
theorem DevAt.n_le (h : DevAt w g F D) : D.n ≤ 65536 := by obtain ⟨km, bm, cv, hb, hk, hm, ho, n1, n2, n3, n4, f1, f2, f3, f4, b1, b2⟩ := h; exact b1
theorem DevAt.fg (h : DevAt w g F D) : F g := by obtain ⟨km, bm, cv, hb, hk, hm, ho, n1, n2, n3, n4, f1, f2, f3, f4, b1, b2⟩ := h; exact f1
theorem DevAt.glt (h : DevAt w g F D) : g < w.heap.size := h.lt g h.fg
theorem DevAt.left0 (h : DevAt w g F D) : 0 ≤ D.left ∧ D.left ≤ 9223372036854775807 := by obtain ⟨km, bm, cv, hb, hk, hm, ho, n1, n2, n3, n4, f1, f2, f3, f4, b1, b2⟩ := h; exact b2
/-- Its cells, for a walk. -/
theorem DevAt.cells (h : DevAt w g F D) : ∃ (km bm : Nat) (A : Option Addr) (c : Nat), w.cell? ⟨g, 0, none⟩ = some (.int .i64 D.n) ∧ w.cell? ⟨g, 1, none⟩ = some (.map (some km)) ∧ w.cell? ⟨g, 2, none⟩ = some (.slice A D.cache.length c) ∧ w.cell? ⟨g, 3, none⟩ = some (.map (some bm)) ∧
    w.cell? ⟨g, 4, none⟩ = some (.int .i64 D.left) ∧ w.cell? ⟨g, 5, none⟩ = some (.bool D.armed) ∧ w.cell? ⟨g, 6, none⟩ = some (.bool D.dead) ∧ (∀ i, w.frozen? ⟨g, i, none⟩ = false) ∧ MapI w km secV D.kept ∧ MapI w bm Value.bool D.bad ∧
    Own Wr.enc 33 141 0 w (.slice A D.cache.length c) D.cache ∧ Rd Wr.enc 33 w A D.cache ∧ D.cache.length ≤ c := by
  obtain ⟨km, bm, cv, hb, hk, hm, ho, n1, n2, n3, n4, f1, f2, f3, f4, b1, b2⟩ := h
  obtain ⟨A, c, rfl, h1, h2, h3, _⟩ := ho.rd Wr.ok
  refine ⟨km, bm, A, c, ?_, ?_, ?_, ?_, ?_, ?_, ?_, fun i => blk_free hb i, hk, hm, ho, h3, h1⟩ <;> rw [blk_cell hb] <;> rfl
theorem Did.refl (h : DevAt w g F D) : Did F w w g D := ⟨F, h, Chg.refl _ _, fun i hi => .inl hi⟩
theorem Did.of_below (h : DevAt w g F D) (hb : Below w.heap.size w w') : Did F w w' g D := ⟨F, h.below hb, Below.chg hb F, fun i hi => .inl hi⟩
theorem Did.trans (h : ∀ F', DevAt w' g F' D → Did F' w' w'' g D') (k : Did F w w' g D) : Did F w w'' g D' := by
  obtain ⟨F1, h1, c1, s1⟩ := k
  obtain ⟨F2, h2, c2, s2⟩ := h F1 h1
  refine ⟨F2, h2, c1.trans c2 (fun i hi hf => ?_), fun i hi => ?_⟩
  · rcases s1 i hf with e | e
    · exact e
    · omega
  · rcases s2 i hi with e | e
    · exact s1 i e
    · exact .inr (Nat.le_trans c1.size e)
theorem Did.after {F1 : Nat → Prop} (k : Did F1 w' w'' g D') (c1 : Chg F w w') (s1 : ∀ i, F1 i → F i ∨ w.heap.size ≤ i) : Did F w w'' g D' := by
  obtain ⟨F2, h2, c2, s2⟩ := k
  refine ⟨F2, h2, c1.trans c2 (fun i hi hf => ?_), fun i hi => ?_⟩
  · rcases s1 i hf with e | e
    · exact e
    · omega
  · rcases s2 i hi with e | e
    · exact s1 i e
    · exact .inr (Nat.le_trans c1.size e)
/-- Of a device that stands, a device whose cells are told anew: in place. -/
theorem DevAt.put (h : DevAt w g F D) (w' : World) (km bm : Nat) (cv : Value) (hb : w'.heap[g]? = some (.cells (D'.cells km bm cv) 137 (0, 0))) (hk : MapI w' km secV D'.kept) (hm : MapI w' bm Value.bool D'.bad) (ho : Own Wr.enc 33 141 0 w' cv D'.cache)
    (n1 : km ≠ bm) (n2 : g ≠ km) (n3 : g ≠ bm) (n4 : ∀ k, cv.ownBlock = some k → k ≠ g ∧ k ≠ km ∧ k ≠ bm ∧ (F k ∨ w.heap.size ≤ k)) (f2 : F km) (f3 : F bm) (hc : Chg F w w') (b1 : D'.n ≤ 65536) (b2 : 0 ≤ D'.left ∧ D'.left ≤ 9223372036854775807) : Did F w w' g D' := by
  refine ⟨fun i => F i ∨ (w.heap.size ≤ i ∧ i < w'.heap.size), ⟨km, bm, cv, hb, hk, hm, ho, n1, n2, n3, fun k hk => ⟨(n4 k hk).1, (n4 k hk).2.1, (n4 k hk).2.2.1, ?_⟩, .inl h.fg, .inl f2, .inl f3, ?_, b1, b2⟩, hc, fun i hi => hi.imp_right And.left⟩
  · rcases (n4 k hk).2.2.2 with e | e
    · exact .inl e
    · exact .inr ⟨e, (ho.lt k hk).2⟩
  · rintro i (hi | hi)
    · exact Nat.lt_of_lt_of_le (h.lt i hi) hc.size
    · exact hi.2
/-- Stores into its own flat cells. -/
theorem DevAt.flat (h : DevAt w g F D) (hg : w.grownBy w' (some g)) (hD : D'.kept = D.kept ∧ D'.bad = D.bad ∧ D'.n = D.n) (b2 : 0 ≤ D'.left ∧ D'.left ≤ 9223372036854775807)
    (hb : ∀ km bm cv, w.heap[g]? = some (.cells (D.cells km bm cv) 137 (0, 0)) → (D'.cache = D.cache ∧ w'.heap[g]? = some (.cells (D'.cells km bm cv) 137 (0, 0))) ∨ (D'.cache = [] ∧ w'.heap[g]? = some (.cells (D'.cells km bm (.slice none 0 0)) 137 (0, 0)))) : Did F w w' g D' := by
  have h0 := h
  obtain ⟨km, bm, cv, hb0, hk, hm, ho, n1, n2, n3, n4, f1, f2, f3, f4, b1, _⟩ := h
  obtain ⟨e1, e2, e3⟩ := hD
  have hc : Chg F w w' := Chg.grown hg f1
  rcases hb km bm cv hb0 with ⟨e4, hb⟩ | ⟨e4, hb⟩
  · refine h0.put w' km bm cv hb (by rw [e1]; exact hk.grown hg (by simpa using n2.symm)) (by rw [e2]; exact hm.grown hg (by simpa using n3.symm)) ?_ n1 n2 n3 (fun k hk => ⟨(n4 k hk).1, (n4 k hk).2.1, (n4 k hk).2.2.1, .inl (n4 k hk).2.2.2⟩) f2 f3 hc (by omega) b2
    rw [e4]
    refine ho.kept hg ?_
    rcases hq : cv.ownBlock with _ | k
    · exact .inl rfl
    · exact .inr (fun e => (n4 k hq).1 (by injection e))
  · refine h0.put w' km bm _ hb (by rw [e1]; exact hk.grown hg (by simpa using n2.symm)) (by rw [e2]; exact hm.grown hg (by simpa using n3.symm)) (by rw [e4]; exact Own.nil) n1 n2 n3 (fun k hk => by cases hk) f2 f3 hc (by omega) b2
end

/-! ### What is done with it -/
def Dv.act (D : Dv) : Bool × Dv := if D.dead then (false, D) else if !D.armed then (true, D) else if D.left = 0 then (false, { D with dead := true }) else (true, { D with left := D.left - 1 })
def Dv.has (D : Dv) (p : Int) : Bool := decide (0 ≤ p ∧ p < D.n)
def Dv.write (D : Dv) (p : Int) (b : List Int) : Int × Dv :=
  if D.dead then (40, D) else if h : D.has p = true ∧ (b.length = 32 ∧ ∀ x ∈ b, 0 ≤ x ∧ x ≤ 255) then (if D.act.1 then (0, { D.act.2 with cache := D.act.2.cache ++ [⟨p, ⟨b, h.2⟩⟩] }) else (40, D.act.2)) else (1, D)
def Dv.base (D : Dv) (p : Int) : Sec := (look D.kept p).getD sec0
/-- What was written last, the newest first. -/
def lastAt (p : Int) : List Wr → Option Sec
  | [] => none
  | x :: l => (lastAt p l).orElse fun _ => if x.pos = p then some x.b else none
def Dv.now (D : Dv) (p : Int) : Sec := (lastAt p D.cache).getD (D.base p)
/-- The first n bytes of a over those of b. -/
def overS (n : Nat) (a b : Sec) : Sec := ⟨a.1.take n ++ b.1.drop n, by have := a.2.1; have := b.2.1; simp only [List.length_append, List.length_take, List.length_drop]; omega, fun x hx => by
  rcases List.mem_append.1 hx with h | h
  · exact a.2.2 x (List.mem_of_mem_take h)
  · exact b.2.2 x (List.mem_of_mem_drop h)⟩
def keepL (K : List (Int × Sec)) (x : Wr) (n : Nat) : List (Int × Sec) := if overS n x.b ((look K x.pos).getD sec0) = sec0 then del K x.pos else upd K x.pos (overS n x.b ((look K x.pos).getD sec0))
def Dv.flush (D : Dv) : Int × Dv := if D.act.1 then (0, { D.act.2 with kept := D.act.2.cache.foldl (fun K x => keepL K x 32) D.act.2.kept, cache := [] }) else (40, D.act.2)
def Dv.arm (D : Dv) (n : Int) : Dv := { D with armed := decide (0 ≤ n), left := max n 0 }
structure Fate where
  keep : List Bool
  torn : Int
  bytes : Int
/-- What a crash makes of the writes from number i on. -/
def crashL (f : Fate) : Nat → List (Int × Sec) → List Wr → List (Int × Sec)
  | _, K, [] => K
  | i, K, x :: l => crashL f (i + 1) (if (i : Int) = f.torn then keepL K x (min (max f.bytes 0) 32).toNat else if f.keep[i]? = some true then keepL K x 32 else K) l
def Dv.crash (D : Dv) (f : Fate) : Dv := { D with kept := crashL f 0 D.kept D.cache, cache := [], dead := false, armed := false, left := 0 }
def Dv.fault (D : Dv) (p : Int) (on : Bool) : Dv := if D.has p then (if on then { D with bad := upd D.bad p true } else { D with bad := del D.bad p }) else D
def Dv.badAt (D : Dv) (p : Int) : Bool := (look D.bad p).getD false
def Dv.new (n : Int) : Dv := ⟨(min (max n 0) 65536).toNat, [], [], [], 0, false, false⟩
end Go.Proofs.Ytglpckdmiohciaa
