/- The reference's device: what it is in this claim's own words, how it lies in memory. -/
import Derived.Test.YtglpckdmiohciaaLawDevKeeps
namespace Go.Proofs.Ytglpckdmiohciaa
open Go.RowKit
set_option linter.unusedVariables false
set_option linter.unusedSimpArgs false

/-- A sector behind a slice. -/
structure SV where
  A : Option Addr
  c : Nat
  s : Sec
def SV.enc (x : SV) : List Value := [.slice x.A 32 x.c]
theorem SV.ok : Enc SV.enc 1 := ⟨fun _ => rfl, fun x u hu => by simp [SV.enc] at hu; subst hu; rfl, by omega⟩
/-- A write of the reference's. -/
structure CV where
  pos : Int
  A : Option Addr
  c : Nat
  s : Sec
def CV.enc (x : CV) : List Value := [.int .i64 x.pos, .slice x.A 32 x.c]
theorem CV.ok : Enc CV.enc 2 := ⟨fun _ => rfl, fun x u hu => by simp [CV.enc] at hu; rcases hu with rfl | rfl <;> rfl, by omega⟩
def CV.wr (x : CV) : Wr := ⟨x.pos, x.s⟩
/-- The bytes behind a slice: they are written no more. -/
def Inn (w : World) (F G : Nat → Prop) (A : Option Addr) (c : Nat) (s : Sec) : Prop := ∃ b off, A = some ⟨b, off, none⟩ ∧ b < w.heap.size ∧ Rd by1 1 w (some ⟨b, off, none⟩) s.1 ∧ ¬ F b ∧ G b ∧ 32 ≤ c
structure Rv where
  S : List Sec
  cache : List Wr
  bad : List Bool
  left : Int
  dead : Bool
def Rv.cells (X : Rv) (sv cv bv : Value) : Array Value := #[sv, cv, bv, .int .i64 X.left, .bool X.dead]
/-- The device X lies at block g, its rows being these; its own blocks are in F, all that it reads in G. -/
structure RefIn (w : World) (g : Nat) (F G : Nat → Prop) (X : Rv) (sv cv bv : Value) (xs : List SV) (cs : List CV) : Prop where
  blk : w.heap[g]? = some (.cells (X.cells sv cv bv) 74 (0, 0))
  o1 : Own SV.enc 1 38 0 w sv xs
  o2 : Own CV.enc 2 148 0 w cv cs
  o3 : Own boolEnc 1 4 0 w bv X.bad
  e1 : xs.map (·.s) = X.S
  e2 : cs.map CV.wr = X.cache
  i1 : ∀ x ∈ xs, Inn w F G x.A x.c x.s
  i2 : ∀ x ∈ cs, Inn w F G x.A x.c x.s
  f1 : ∀ k, sv.ownBlock = some k → F k
  f2 : ∀ k, cv.ownBlock = some k → F k
  f3 : ∀ k, bv.ownBlock = some k → F k
  f4 : F g
  f5 : ∀ i, F i → G i
  f6 : ∀ i, G i → i < w.heap.size
  f7 : -1 ≤ X.left ∧ X.left ≤ 9223372036854775807
def RefAt (w : World) (g : Nat) (F G : Nat → Prop) (X : Rv) : Prop := ∃ sv cv bv xs cs, RefIn w g F G X sv cv bv xs cs
def RefDid (F G : Nat → Prop) (w w' : World) (g : Nat) (X : Rv) : Prop := ∃ F' G', RefAt w' g F' G' X ∧ Chg F w w' ∧ (∀ i, F' i → F i ∨ w.heap.size ≤ i) ∧ (∀ i, G' i → G i ∨ w.heap.size ≤ i)

theorem own_elem {α : Type} {enc : α → List Value} {sz e base : Nat} {w : World} {v : Value} {xs : List α} (h : Own enc sz e base w v xs) : ∀ k, v.ownBlock = some k → ∃ cs, w.heap[k]? = some (.cells cs e (0, 0)) := by
  rcases h.2 with ⟨rfl, _⟩ | ⟨g, cap, cur, rfl, _, hh, _⟩
  · intro k hk; cases hk
  · intro k hk; cases hk; exact ⟨cur, hh⟩
section
variable {w w' w'' : World} {g : Nat} {F G H : Nat → Prop} {X X' : Rv}
theorem Inn.chg {A : Option Addr} {c : Nat} {s : Sec} (h : Inn w F G A c s) (hc : Chg H w w') (hH : ∀ i, G i → ¬ H i) : Inn w' F G A c s := by
  obtain ⟨b, off, rfl, h1, h2, h3, h4, h5⟩ := h
  exact ⟨b, off, rfl, Nat.lt_of_lt_of_le h1 hc.size, h2.chg hc (fun a ha => by cases ha; exact hH b h4), h3, h4, h5⟩
/-- A change of the device's own rows. -/
theorem Inn.own {A : Option Addr} {c : Nat} {s : Sec} (h : Inn w F G A c s) (hc : Chg F w w') {F' G' : Nat → Prop} (hF : ∀ i, i < w.heap.size → F' i → F i) (hG : ∀ i, G i → G' i) : Inn w' F' G' A c s := by
  obtain ⟨b, off, rfl, h1, h2, h3, h4, h5⟩ := h
  exact ⟨b, off, rfl, Nat.lt_of_lt_of_le h1 hc.size, h2.chg hc (fun a ha => by cases ha; exact h3), fun q => h3 (hF b h1 q), hG b h4, h5⟩
theorem RefIn.chg {sv cv bv : Value} {xs : List SV} {cs : List CV} (h : RefIn w g F G X sv cv bv xs cs) (hc : Chg H w w') (hH : ∀ i, G i → ¬ H i) : RefIn w' g F G X sv cv bv xs cs :=
  ⟨hc.blk h.blk (hH g (h.f5 g h.f4)), h.o1.chg hc (fun k hk => hH k (h.f5 k (h.f1 k hk))), h.o2.chg hc (fun k hk => hH k (h.f5 k (h.f2 k hk))), h.o3.chg hc (fun k hk => hH k (h.f5 k (h.f3 k hk))), h.e1, h.e2, fun x hx => (h.i1 x hx).chg hc hH, fun x hx => (h.i2 x hx).chg hc hH, h.f1, h.f2, h.f3, h.f4, h.f5, fun i hi => Nat.lt_of_lt_of_le (h.f6 i hi) hc.size, h.f7⟩
theorem RefIn.below {sv cv bv : Value} {xs : List SV} {cs : List CV} (h : RefIn w g F G X sv cv bv xs cs) (hb : Below w.heap.size w w') : RefIn w' g F G X sv cv bv xs cs := h.chg (Below.chg hb fun _ => False) (fun _ _ h => h)
theorem RefAt.chg (h : RefAt w g F G X) (hc : Chg H w w') (hH : ∀ i, G i → ¬ H i) : RefAt w' g F G X := by
  obtain ⟨sv, cv, bv, xs, cs, h⟩ := h
  exact ⟨sv, cv, bv, xs, cs, h.chg hc hH⟩
theorem RefAt.below (h : RefAt w g F G X) (hb : Below w.heap.size w w') : RefAt w' g F G X := h.chg (Below.chg hb fun _ => False) (fun _ _ h => h)
theorem RefAt.alloc (h : RefAt w g F G X) (o : Obj) : RefAt (w.alloc o) g F G X := h.below (bl_alloc (Below.refl _ w) o)
theorem RefAt.drew (h : RefAt w g F G X) : RefAt w.drew g F G X := h.below (Below.refl _ w).drew
theorem RefAt.lt (h : RefAt w g F G X) : ∀ i, G i → i < w.heap.size := by
  obtain ⟨sv, cv, bv, xs, cs, h⟩ := h
  exact h.f6
theorem RefAt.sub (h : RefAt w g F G X) : ∀ i, F i → G i := by
  obtain ⟨sv, cv, bv, xs, cs, h⟩ := h
  exact h.f5
theorem RefAt.left (h : RefAt w g F G X) : -1 ≤ X.left ∧ X.left ≤ 9223372036854775807 := by
  obtain ⟨sv, cv, bv, xs, cs, h⟩ := h
  exact h.f7
theorem RefAt.fg (h : RefAt w g F G X) : F g := by
  obtain ⟨sv, cv, bv, xs, cs, h⟩ := h
  exact h.f4
theorem RefAt.glt (h : RefAt w g F G X) : g < w.heap.size := h.lt g (h.sub g h.fg)
/-- Its cells, for a walk. -/
theorem RefAt.cells (h : RefAt w g F G X) : ∃ (A : Option Addr) (a : Nat) (B : Option Addr) (b : Nat) (C : Option Addr) (c : Nat) (xs : List SV) (cs : List CV), w.cell? ⟨g, 0, none⟩ = some (.slice A X.S.length a) ∧ w.cell? ⟨g, 1, none⟩ = some (.slice B X.cache.length b) ∧ w.cell? ⟨g, 2, none⟩ = some (.slice C X.bad.length c) ∧
    w.cell? ⟨g, 3, none⟩ = some (.int .i64 X.left) ∧ w.cell? ⟨g, 4, none⟩ = some (.bool X.dead) ∧ (∀ i, w.frozen? ⟨g, i, none⟩ = false) ∧ Own SV.enc 1 38 0 w (.slice A X.S.length a) xs ∧ Own CV.enc 2 148 0 w (.slice B X.cache.length b) cs ∧ Own boolEnc 1 4 0 w (.slice C X.bad.length c) X.bad ∧
    xs.map (·.s) = X.S ∧ cs.map CV.wr = X.cache ∧ (∀ x ∈ xs, Inn w F G x.A x.c x.s) ∧ (∀ x ∈ cs, Inn w F G x.A x.c x.s) := by
  obtain ⟨sv, cv, bv, xs, cs, ⟨hb, o1, o2, o3, e1, e2, i1, i2, f1, f2, f3, f4, f5, f6, f7⟩⟩ := h
  obtain ⟨A, a, rfl, _⟩ := o1.rd SV.ok
  obtain ⟨B, b, rfl, _⟩ := o2.rd CV.ok
  obtain ⟨C, c, rfl, _⟩ := o3.rd boolOk
  have l1 : xs.length = X.S.length := by rw [← e1, List.length_map]
  have l2 : cs.length = X.cache.length := by rw [← e2, List.length_map]
  rw [l1] at hb o1
  rw [l2] at hb o2
  refine ⟨A, a, B, b, C, c, xs, cs, ?_, ?_, ?_, ?_, ?_, fun i => blk_free hb i, o1, o2, o3, e1, e2, i1, i2⟩ <;> rw [blk_cell hb] <;> rfl
/-- The device's cells told anew, with rows of the call's own or those that there were. -/
theorem RefAt.put (h : RefAt w g F G X) (w' : World) {F' G' : Nat → Prop} (sv cv bv : Value) (xs : List SV) (cs : List CV) (hb : w'.heap[g]? = some (.cells (X'.cells sv cv bv) 74 (0, 0))) (o1 : Own SV.enc 1 38 0 w' sv xs) (o2 : Own CV.enc 2 148 0 w' cv cs) (o3 : Own boolEnc 1 4 0 w' bv X'.bad)
    (e1 : xs.map (·.s) = X'.S) (e2 : cs.map CV.wr = X'.cache) (i1 : ∀ x ∈ xs, Inn w' F' G' x.A x.c x.s) (i2 : ∀ x ∈ cs, Inn w' F' G' x.A x.c x.s) (f1 : ∀ k, sv.ownBlock = some k → F' k) (f2 : ∀ k, cv.ownBlock = some k → F' k) (f3 : ∀ k, bv.ownBlock = some k → F' k) (f4 : F' g)
    (f5 : ∀ i, F' i → G' i) (f6 : ∀ i, G' i → i < w'.heap.size) (f7 : -1 ≤ X'.left ∧ X'.left ≤ 9223372036854775807) (hc : Chg F w w') (s1 : ∀ i, F' i → F i ∨ w.heap.size ≤ i) (s2 : ∀ i, G' i → G i ∨ w.heap.size ≤ i) : RefDid F G w w' g X' :=
  ⟨F', G', ⟨sv, cv, bv, xs, cs, ⟨hb, o1, o2, o3, e1, e2, i1, i2, f1, f2, f3, f4, f5, f6, f7⟩⟩, hc, s1, s2⟩
theorem RefDid.refl (h : RefAt w g F G X) : RefDid F G w w g X := ⟨F, G, h, Chg.refl _ _, fun _ h => .inl h, fun _ h => .inl h⟩
theorem RefDid.of_below (h : RefAt w g F G X) (hb : Below w.heap.size w w') : RefDid F G w w' g X := ⟨F, G, h.below hb, Below.chg hb F, fun _ h => .inl h, fun _ h => .inl h⟩
theorem RefDid.after {F1 G1 : Nat → Prop} (k : RefDid F1 G1 w' w'' g X') (c1 : Chg F w w') (s1 : ∀ i, F1 i → F i ∨ w.heap.size ≤ i) (t1 : ∀ i, G1 i → G i ∨ w.heap.size ≤ i) : RefDid F G w w'' g X' := by
  obtain ⟨F2, G2, h2, c2, s2, t2⟩ := k
  refine ⟨F2, G2, h2, c1.trans c2 (fun i hi hf => ?_), fun i hi => ?_, fun i hi => ?_⟩
  · rcases s1 i hf with e | e
    · exact e
    · omega
  · rcases s2 i hi with e | e
    · exact s1 i e
    · exact .inr (Nat.le_trans c1.size e)
  · rcases t2 i hi with e | e
    · exact t1 i e
    · exact .inr (Nat.le_trans c1.size e)
/-- Stores into the flat cells (the cache may be emptied). -/
theorem RefAt.flat (h : RefAt w g F G X) (hg : w.grownBy w' (some g)) (hX : X'.S = X.S ∧ X'.bad = X.bad) (b2 : -1 ≤ X'.left ∧ X'.left ≤ 9223372036854775807)
    (hb : ∀ sv cv bv, w.heap[g]? = some (.cells (X.cells sv cv bv) 74 (0, 0)) → (X'.cache = X.cache ∧ w'.heap[g]? = some (.cells (X'.cells sv cv bv) 74 (0, 0))) ∨ (X'.cache = [] ∧ w'.heap[g]? = some (.cells (X'.cells sv (.slice none 0 0) bv) 74 (0, 0)))) : RefDid F G w w' g X' := by
  have h0 := h
  obtain ⟨sv, cv, bv, xs, cs, ⟨hb0, o1, o2, o3, e1, e2, i1, i2, f1, f2, f3, f4, f5, f6, f7⟩⟩ := h
  have hc : Chg F w w' := Chg.grown hg f4
  have ne : ∀ v : Value, (∀ k, v.ownBlock = some k → ∃ cs e, e ≠ 74 ∧ w.heap[k]? = some (.cells cs e (0, 0))) → v.ownBlock = none ∨ v.ownBlock ≠ some g := fun v hv => by
    rcases hq : v.ownBlock with _ | k
    · exact .inl rfl
    · right
      intro e
      injection e with e
      obtain ⟨cs', e', he, hh⟩ := hv k hq
      rw [e, hb0] at hh
      cases hh
      exact he rfl
  have n1 := ne sv (fun k hk => by obtain ⟨c, hh⟩ := own_elem o1 k hk; exact ⟨c, _, by decide, hh⟩)
  have n2 := ne cv (fun k hk => by obtain ⟨c, hh⟩ := own_elem o2 k hk; exact ⟨c, _, by decide, hh⟩)
  have n3 := ne bv (fun k hk => by obtain ⟨c, hh⟩ := own_elem o3 k hk; exact ⟨c, _, by decide, hh⟩)
  obtain ⟨hS, hB⟩ := hX
  rcases hb sv cv bv hb0 with ⟨hC, hb⟩ | ⟨hC, hb⟩
  · exact h0.put w' sv cv bv xs cs hb (o1.kept hg n1) (o2.kept hg n2) (by rw [hB]; exact o3.kept hg n3) (by rw [hS]; exact e1) (by rw [hC]; exact e2) (fun x hx => (i1 x hx).own hc (fun i _ hi => hi) (fun _ h => h)) (fun x hx => (i2 x hx).own hc (fun i _ hi => hi) (fun _ h => h)) f1 f2 f3 f4 f5 (fun i hi => Nat.lt_of_lt_of_le (f6 i hi) hc.size) b2 hc (fun _ h => .inl h) (fun _ h => .inl h)
  · exact h0.put w' sv _ bv xs [] hb (o1.kept hg n1) Own.nil (by rw [hB]; exact o3.kept hg n3) (by rw [hS]; exact e1) (by rw [hC]; rfl) (fun x hx => (i1 x hx).own hc (fun i _ hi => hi) (fun _ h => h)) (fun x hx => by cases hx) f1 (fun k hk => by cases hk) f3 f4 f5 (fun i hi => Nat.lt_of_lt_of_le (f6 i hi) hc.size) b2 hc (fun _ h => .inl h) (fun _ h => .inl h)
end
/-! ### A store into a row of one cell an element -/
theorem flat_set {α : Type} {enc : α → List Value} (he : Enc enc 1) (y : α) {u : Value} (hy : enc y = [u]) : ∀ (xs : List α) (k : Nat), (xs.set k y).flatMap enc = (xs.flatMap enc).set k u
  | [], k => by simp
  | x :: xs, 0 => by
    obtain ⟨v, hv⟩ : ∃ v, enc x = [v] := by
      have := he.len x
      match hx : enc x, this with
      | [v], _ => exact ⟨v, rfl⟩
    simp [hy, hv]
  | x :: xs, k + 1 => by
    obtain ⟨v, hv⟩ : ∃ v, enc x = [v] := by
      have := he.len x
      match hx : enc x, this with
      | [v], _ => exact ⟨v, rfl⟩
    simp [hv, flat_set he y hy xs k]
theorem Own.set {α : Type} {enc : α → List Value} (he : Enc enc 1) {e base : Nat} {w : World} {v : Value} {xs : List α} (h : Own enc 1 e base w v xs) {b : Nat} (hv : v.ownBlock = some b) (k : Nat) (y : α) {u : Value} (hy : enc y = [u]) : Own enc 1 e base (w.setCell ⟨b, k, none⟩ u) v (xs.set k y) := by
  refine ⟨by simp [flat_len he], ?_⟩
  rcases h.2 with ⟨rfl, _⟩ | ⟨g, cap, cur, rfl, hb, hh, h1, h2, h3, h4⟩
  · cases hv
  · cases hv
    refine .inr ⟨g, cap, cur.setIfInBounds k u, by rw [List.length_set], hb, blk_set hh k u, by rw [List.length_set]; exact h1, h2, by simpa using h3, ?_⟩
    rw [flat_set he y hy, ← h4]
    simp only [Array.toList_setIfInBounds, List.length_set]
    rw [List.take_set]
theorem Own.at {α : Type} {enc : α → List Value} (he : Enc enc 1) {e base : Nat} {w : World} {n c b : Nat} {xs : List α} (h : Own enc 1 e base w (.slice (some ⟨b, 0, none⟩) n c) xs) {k : Nat} {x : α} (hx : xs[k]? = some x) {u : Value} (hy : enc x = [u]) : w.cell? ⟨b, k, none⟩ = some u ∧ w.frozen? ⟨b, k, none⟩ = false := by
  obtain ⟨_, _, _, hr, _⟩ := h.rd' he
  have := hr.range hx 0 u (by rw [hy]; rfl)
  obtain ⟨cs, hh⟩ := own_elem h b rfl
  exact ⟨by simpa using this, blk_free hh k⟩
theorem Own.head {α : Type} {enc : α → List Value} {sz e base : Nat} {w : World} {A : Option Addr} {n c : Nat} {xs : List α} (h : Own enc sz e base w (.slice A n c) xs) : A = none ∧ xs = [] ∨ ∃ b, A = some ⟨b, 0, none⟩ := by
  rcases h.2 with ⟨e, h0⟩ | ⟨g, cap, cur, e, _⟩
  · cases e
    exact .inl ⟨rfl, List.eq_nil_of_length_eq_zero h0⟩
  · cases e
    exact .inr ⟨g, rfl⟩
/-! ### What is done with it -/
def Rv.act (X : Rv) : Bool × Rv := if X.dead = true ∨ X.left = 0 then (false, { X with dead := true }) else if 0 < X.left then (true, { X with left := X.left - 1 }) else (true, X)
def Rv.has (X : Rv) (p : Int) : Bool := decide (0 ≤ p ∧ p < X.S.length)
def Rv.write (X : Rv) (p : Int) (b : List Int) : Int × Rv :=
  if X.dead then (40, X) else if h : X.has p = true ∧ (b.length = 32 ∧ ∀ x ∈ b, 0 ≤ x ∧ x ≤ 255) then (if X.act.1 then (0, { X.act.2 with cache := X.act.2.cache ++ [⟨p, ⟨b, h.2⟩⟩] }) else (40, X.act.2)) else (1, X)
def Rv.flush (X : Rv) : Int × Rv := if X.act.1 then (0, { X.act.2 with S := X.act.2.cache.foldl (fun S x => S.set x.pos.toNat x.b) X.act.2.S, cache := [] }) else (40, X.act.2)
def Rv.arm (X : Rv) (n : Int) : Rv := { X with left := if 0 ≤ n then n else -1 }
def crashS (f : Fate) : Nat → List Sec → List Wr → List Sec
  | _, S, [] => S
  | i, S, x :: l => crashS f (i + 1) (if (i : Int) = f.torn then S.set x.pos.toNat (overS (min (max f.bytes 0) 32).toNat x.b (S[x.pos.toNat]?.getD sec0)) else if f.keep[i]? = some true then S.set x.pos.toNat x.b else S) l
def Rv.crash (X : Rv) (f : Fate) : Rv := { X with S := crashS f 0 X.S X.cache, cache := [], dead := false, left := -1 }
def Rv.fault (X : Rv) (p : Int) (on : Bool) : Rv := if X.has p then { X with bad := X.bad.set p.toNat on } else X
def Rv.readE (X : Rv) (p : Int) : Int := if X.dead then 40 else if X.has p = false then 1 else if X.bad[p.toNat]?.getD false then 41 else 0
def Rv.readB (X : Rv) (p : Int) : List Int := if X.readE p = 0 then ((lastAt p X.cache).getD (X.S[p.toNat]?.getD sec0)).1 else []
end Go.Proofs.Ytglpckdmiohciaa
