/- Words that the other texts share: rows of flat elements in memory, and small lemmas on worlds. No program is named here. Rows that a call makes: 'Own'; append to them; what they read as. No program is named here. What the arguments of a law read as, in this claim's own words. append in general: a slice that has no room; nothing appended; a row of the call's own onto which another is appended. No program is named here. super's sink: put, long, short, text. super.Put. super.number, the reference's number. What more arguments read as: a super, bytes, a number. Maps whose keys are ints, in this claim's own words. No program is named here. What a call may change, told by a set of blocks. No program is named here. append of whatever source (a text too) onto a row of the call's own. No program is named here. -/
import Derived.Below
import Derived.Deep.Draws
import Derived.OwnWalk
import Derived.WalkKit
import Derived.KernelRfl
import Derived.Lib.Hide
import Derived.WalkLawsBesides
import Derived.WalkSpells
import Derived.WalkSmall
import Derived.Carry
import Derived.Deep.LoopGhost
import Derived.Deep.QuietTactic
import Derived.BigQuiet
import Derived.Lib.SmallJoins
import Derived.Deep.AppendLies
import Derived.Deep.RegionHeld3
import Derived.Test.YtikgplhcadomcaaGreatRows
import Derived.ProofKit
import Derived.OpenShut
import Derived.ShutString
import Derived.Deep.Slices
import Derived.Deep.AppendSrc
import Derived.Deep.Upon
import Derived.Test.YtikgplhcadomcaaGreatProg
import Derived.RegionTactic
import Derived.BigRegion
import Derived.Laws.IdiomCopy
import Derived.Laws.Bits64b
import Derived.MapKept
import Derived.Deep.MidRow
namespace Go.Proofs.YtikgplhcadomcaaGreat
open Go.RowKit
set_option linter.unusedVariables false
set_option linter.unusedSimpArgs false

/-- Texts. -/
abbrev Str := ByteArray

/-- Elements of 'sz' cells each, at an address; nothing is said of an empty row. -/
def Rd {α : Type} (enc : α → List Value) (sz : Nat) (w : World) (A : Option Addr) (xs : List α) : Prop :=
  xs = [] ∨ ∃ b off, A = some ⟨b, off, none⟩ ∧ b < w.heap.size ∧ ∀ (i : Nat) (x : α), xs[i]? = some x → ∀ (j : Nat) (v : Value), (enc x)[j]? = some v → w.cell? ⟨b, off + i * sz + j, none⟩ = some v

theorem Rd.below {α : Type} {enc : α → List Value} {sz : Nat} {w w' : World} {A : Option Addr} {xs : List α} {B : Nat} (h : Rd enc sz w A xs) (hb : Below B w w') (hB : w.heap.size ≤ B) : Rd enc sz w' A xs := by
  rcases h with h | ⟨b, off, rfl, hlt, hc⟩
  · exact .inl h
  · refine .inr ⟨b, off, rfl, Nat.lt_of_lt_of_le hlt hb.size, fun i x hx j v hv => ?_⟩
    rw [hb.cell (by show b < B; omega)]
    exact hc i x hx j v hv

/-! ### Texts held against each other, as the walk writes it -/
theorem toList_inj {a b : Str} (h : a.toList = b.toList) : a = b := by
  rw [ByteArray.toList_eq, ByteArray.toList_eq] at h
  cases a; cases b; simp_all
theorem str_eq {a b : Str} (h : a = b) : (a.toList == b.toList) = true := by subst h; simp
theorem str_ne {a b : Str} (h : ¬ a = b) : (a.toList == b.toList) = false := by
  rw [beq_eq_false_iff_ne]
  exact fun e => h (toList_inj e)

/-! ### 'Below' from the call's begin -/
theorem bl_alloc {w W : World} (h : Below w.heap.size w W) (o : Obj) : Below w.heap.size w (W.alloc o) := h.alloc h.size o
theorem bl_set {B g i : Nat} {w W : World} (h : Below B w W) (hg : B ≤ g) (v : Value) : Below B w (W.setCell ⟨g, i, none⟩ v) := h.setCell hg v
theorem bl_drewN {B : Nat} {w W : World} (h : Below B w W) (n : Nat) : Below B w (W.drewN n) := ⟨h.os, h.tape, h.output, h.size, h.block⟩
theorem bl_then {B : Nat} {w w1 w2 : World} (h : Below B w w1) (hB : B ≤ w1.heap.size) (k : Below w1.heap.size w1 w2) : Below B w w2 :=
  h.trans ⟨k.os, k.tape, k.output, k.size, fun i hi => k.block i (Nat.lt_of_lt_of_le hi hB)⟩

/-! ### A block that is known whole -/
section
variable {w : World} {g : Nat} {cs : Array Value} {t : TypeId} {fr : Nat × Nat}
theorem blk_lt {o : Obj} (h : w.heap[g]? = some o) : g < w.heap.size := (Array.getElem?_eq_some_iff.1 h).1
theorem blk_cell (h : w.heap[g]? = some (.cells cs t fr)) (i : Nat) : w.cell? ⟨g, i, none⟩ = cs[i]? := by simp [World.cell?, h]
theorem blk_free (h : w.heap[g]? = some (.cells cs t (0, 0))) (i : Nat) : w.frozen? ⟨g, i, none⟩ = false := by simp [World.frozen?, h]
theorem blk_new (w : World) (o : Obj) : (w.alloc o).heap[w.heap.size]? = some o := (Array.getElem?_push_size : (w.heap.push _)[w.heap.size]? = _)
theorem blk_alloc {o : Obj} (h : w.heap[g]? = some o) (o' : Obj) : (w.alloc o').heap[g]? = some o := by rw [Below.heap_alloc _ _ _ (blk_lt h)]; exact h
theorem blk_drew {o : Obj} (h : w.heap[g]? = some o) : w.drew.heap[g]? = some o := h
theorem blk_drewN {o : Obj} (h : w.heap[g]? = some o) (n : Nat) : (w.drewN n).heap[g]? = some o := h
theorem blk_below {o : Obj} {B : Nat} {w' : World} (hb : Below B w w') (h : w.heap[g]? = some o) (hg : g < B) : w'.heap[g]? = some o := by rw [hb.block g hg]; exact h
theorem blk_set (h : w.heap[g]? = some (.cells cs t fr)) (i : Nat) (v : Value) : (w.setCell ⟨g, i, none⟩ v).heap[g]? = some (.cells (cs.setIfInBounds i v) t fr) := by
  simp only [World.setCell, Array.getElem?_modify, if_true, h, Option.map_some]
  simp
theorem blk_set' {cs' : Array Value} (h : w.heap[g]? = some (.cells cs t fr)) (i : Nat) (v : Value) (e : cs.setIfInBounds i v = cs') : (w.setCell ⟨g, i, none⟩ v).heap[g]? = some (.cells cs' t fr) := e ▸ blk_set h i v
theorem blk_far {o : Obj} (h : w.heap[g]? = some o) {p : Addr} (hp : g ≠ p.block) (v : Value) : (w.setCell p v).heap[g]? = some o := by rw [Below.heap_setCell _ _ _ _ hp]; exact h
end

theorem ret_bool {a b : Bool} (h : a = b) : Ending.returned (.bool a) = Ending.returned (.bool b) := by rw [h]
theorem ret_int {k : IntKind} {a b : Int} (h : a = b) : Ending.returned (.int k a) = .returned (.int k b) := by rw [h]
/-- The cells of a block. -/
def rowOf (w : World) (g : Nat) : Option (Array Value) := match w.heap[g]? with | some (.cells cs _ _) => some cs | _ => none
section
variable {w : World} {g : Nat}
theorem rowOf_blk {cs : Array Value} {t : TypeId} {fr : Nat × Nat} (h : w.heap[g]? = some (.cells cs t fr)) : rowOf w g = some cs := by simp [rowOf, h]
theorem rowOf_new (w : World) (cs : Array Value) (t : TypeId) (fr : Nat × Nat) : rowOf (w.alloc (.cells cs t fr)) w.heap.size = some cs := rowOf_blk (blk_new _ _)
end
/-- A function's end whose one result lies in a block. -/
theorem ret_row {P : Program} {fn : Func} {R : Ending → World → Prop} {a : Act} {w : World} {p : Tmp} {ty : TypeId} {g : Nat} (cs : Array Value) {d : TypeDesc} (h : fn.results = #[.cell p ty])
    (hp : a.tmps.getD p undef = .pointer (some ⟨g, 0, none⟩)) (hu : P.underlying ty = some d) (hd : (match d with | .struct _ | .array _ _ => true | _ => false) = true) (hdf : a.defers = [])
    (hi : (P.info? ty).map (·.size) = some cs.size) (hg : rowOf w g = some cs) (hR : R (.returned (.agg cs)) w) : bodyPost P fn R .ret a w := by
  unfold rowOf at hg
  split at hg
  · rename_i c t fr hh
    injection hg with hg
    subst hg
    exact bodyPost_ret (results_cell_row h _ _ g t c fr d hp hh hu hd hi) hdf hR
  · cases hg

theorem Rd.drop {α : Type} {enc : α → List Value} {sz : Nat} {w : World} {b off : Nat} : ∀ {l : List α} (j : Nat), Rd enc sz w (some ⟨b, off, none⟩) l → Rd enc sz w (some ⟨b, off + j * sz, none⟩) (l.drop j) := by
  intro l j h
  rcases h with h | ⟨b', off', he, hlt, hc⟩
  · subst h; exact .inl (by simp)
  · cases he
    refine .inr ⟨_, _, rfl, hlt, fun i y hy k v hv => ?_⟩
    have := hc (j + i) y (by simpa using hy) k v hv
    rw [Nat.add_mul] at this
    rw [show off + j * sz + i * sz + k = off + (j * sz + i * sz) + k from by omega]
    exact this
theorem Rd.take {α : Type} {enc : α → List Value} {sz : Nat} {w : World} {A : Option Addr} {l : List α} (j : Nat) (h : Rd enc sz w A l) : Rd enc sz w A (l.take j) := by
  rcases h with h | ⟨b', off', he, hlt, hc⟩
  · subst h; exact .inl (by simp)
  · refine .inr ⟨_, _, he, hlt, fun i y hy k v hv => hc i y ?_ k v hv⟩
    rw [List.getElem?_take] at hy
    split at hy
    · exact hy
    · cases hy
theorem Rd.lit {α : Type} {enc : α → List Value} {sz : Nat} {w : World} {g : Nat} {cs : Array Value} {t : TypeId} {fr : Nat × Nat} {x : α} (hb : w.heap[g]? = some (.cells cs t fr)) (h : cs.toList = enc x) : Rd enc sz w (some ⟨g, 0, none⟩) [x] := by
  refine .inr ⟨g, 0, rfl, blk_lt hb, fun i y hy k v hv => ?_⟩
  cases i with
  | zero =>
    simp at hy
    subst hy
    rw [blk_cell hb]
    rw [← h] at hv
    simpa using hv
  | succ i => simp at hy
theorem Rd.far {α : Type} {enc : α → List Value} {sz : Nat} {w : World} {A : Option Addr} {xs : List α} (h : Rd enc sz w A xs) {g i : Nat} (hA : ∀ a, A = some a → a.block ≠ g) (u : Value) : Rd enc sz (w.setCell ⟨g, i, none⟩ u) A xs := by
  rcases h with h | ⟨b, off, rfl, hlt, hc⟩
  · exact .inl h
  · refine .inr ⟨b, off, rfl, by simpa [World.setCell] using hlt, fun k x hx j v hv => ?_⟩
    rw [World.cell?_of_block (w := w) (Below.heap_setCell _ _ _ _ (hA _ rfl))]
    exact hc k x hx j v hv
theorem Rd.grown {α : Type} {enc : α → List Value} {sz : Nat} {w w' : World} {A : Option Addr} {xs : List α} (h : Rd enc sz w A xs) {row : Option Nat} (hg : w.grownBy w' row) (hA : ∀ a, A = some a → some a.block ≠ row) : Rd enc sz w' A xs := by
  rcases h with h | ⟨b, off, rfl, hlt, hc⟩
  · exact .inl h
  · refine .inr ⟨b, off, rfl, Nat.lt_of_lt_of_le hlt hg.size, fun k x hx j v hv => ?_⟩
    have e := World.cell?_of_block (w := w) (w' := w') (a := ⟨b, off + k * sz + j, none⟩) (hg.block b hlt (hA _ rfl))
    rw [e]
    exact hc k x hx j v hv
/-- An empty row is read wherever it lies. -/
theorem Rd.grown' {α : Type} {enc : α → List Value} {sz : Nat} {w w' : World} {A : Option Addr} {xs : List α} (h : Rd enc sz w A xs) {row : Option Nat} (hg : w.grownBy w' row) (hA : xs ≠ [] → ∀ a, A = some a → some a.block ≠ row) : Rd enc sz w' A xs := by
  by_cases hx : xs = []
  · exact .inl hx
  · exact h.grown hg (hA hx)
theorem grown_set (w : World) (g i : Nat) (v : Value) : w.grownBy (w.setCell ⟨g, i, none⟩ v) (some g) :=
  ⟨rfl, rfl, rfl, by simp [World.setCell], fun k hk hne => Below.heap_setCell _ _ _ _ (fun e => hne (by rw [e]))⟩
theorem grown_refl (w : World) (row : Option Nat) : w.grownBy w row := ⟨rfl, rfl, rfl, Nat.le_refl _, fun _ _ _ => rfl⟩
theorem grown_trans {a b c : World} {row : Option Nat} (h : a.grownBy b row) (k : b.grownBy c row) : a.grownBy c row :=
  ⟨k.os.trans h.os, k.tape.trans h.tape, k.output.trans h.output, Nat.le_trans h.size k.size, fun i hi hne => (k.block i (Nat.lt_of_lt_of_le hi h.size) hne).trans (h.block i hi hne)⟩
/-! ### '==' of structs, field by field -/
section
variable {P : Program} {d : Nat} {xs ys : Array Value} {f : Field} {fs : List Field} {a b : Value} {r s : Bool} {w : World}
theorem eqf_more (hn : f.name ≠ "_") (ha : (part f.type xs f.offset).run P w = .ok a w) (hb : (part f.type ys f.offset).run P w = .ok b w) (he : (Op.equalIn d f.type a b).run P w = .ok r w)
    (hr : (Op.eqFields d xs ys fs).run P w = .ok s w) : (Op.eqFields d xs ys (f :: fs)).run P w = .ok (r && s) w := by
  unfold Op.eqFields
  rw [if_pos hn]
  simp only [Sem.run_bind, ha, hb, he, Result.andThen_ok]
  cases r
  · simp
  · simpa using hr
theorem eqf_none : (Op.eqFields d xs ys []).run P w = .ok true w := by simp [Op.eqFields]
theorem eq_struct {t : TypeId} {fs : Array Field} (hu : P.underlying t = some (.struct fs)) (hp : P.stoodInHeld t = false) (h : (Op.eqFields d xs ys fs.toList).run P w = .ok r w) :
    (Op.equalIn (d + 1) t (.agg xs) (.agg ys)).run P w = .ok r w := by
  have hf : P.fieldsOf t = fs := by simp [Program.fieldsOf, hu]
  rw [run_equalIn_struct (P := P) w d t xs ys (by rw [hf]; exact hu) hp, hf]
  exact h
end
theorem toList_beq (a b : Str) : (a.toList == b.toList) = decide (a = b) := by
  by_cases h : a = b
  · simp [str_eq h, h]
  · simp [str_ne h, h]

/-- A text is less than another one, byte by byte. -/
def slt (a b : Str) : Bool := Op.bytesLess a.toList b.toList
def sle (a b : Str) : Bool := slt a b || decide (a = b)
theorem run_min_str {P : Program} {w : World} (ts : Array TypeId) (t : TypeId) (x y : Str) : (Builtin.min_ ts t #[.string x, .string y]).run P w = .ok (.string (if sle x y then x else y)) w := by
  have e : (Op.bytesLess x.toList y.toList || x.toList == y.toList) = sle x y := by unfold sle slt; rw [toList_beq]
  simp [Builtin.min_, Builtin.min2, Op.stringOp, asBool, ← e]
attribute [go_sem] run_min_str

structure Change where
  key : Str
  had : Bool
  was : Str
  has : Bool
  now : Str
deriving DecidableEq, Inhabited
def Change.enc (x : Change) : List Value := [.string x.key, .bool x.had, .string x.was, .bool x.has, .string x.now]

structure Entry where
  key : Str
  val : Str
deriving DecidableEq, Inhabited
def Entry.enc (x : Entry) : List Value := [.string x.key, .string x.val]

structure Side where
  has : Bool
  val : Str
deriving DecidableEq, Inhabited
def Side.cells (s : Side) : Array Value := #[.bool s.has, .string s.val]
def Side.v (s : Side) : Value := .agg s.cells

def Side.enc (s : Side) : List Value := [.bool s.has, .string s.val]
/-- ref09.Get -/
def get : List Entry → Str → Side
  | [], _ => ⟨false, ⟨#[]⟩⟩
  | x :: l, k => if x.key = k then ⟨true, x.val⟩ else get l k

/-- What a law is told of a map that came in. -/
def Came (W : World) (v : Value) (l : List Entry) : Prop :=
  ∃ A c, v = .slice A l.length c ∧ l.length ≤ c ∧ c ≤ 9223372036854775807 ∧ Rd Entry.enc 2 W A l ∧ (∀ x ∈ l, x.key.size ≤ 9223372036854775807 ∧ x.val.size ≤ 9223372036854775807) ∧ (l ≠ [] → ∀ a, A = some a → a.block < W.heap.size)

end Go.Proofs.YtikgplhcadomcaaGreat

namespace Go.Proofs.YtikgplhcadomcaaGreat
open Go.RowKit
set_option linter.unusedVariables false
set_option linter.unusedSimpArgs false

/-- An encoding of elements in 'sz' cells, each the value of one cell. -/
structure Enc {α : Type} (enc : α → List Value) (sz : Nat) : Prop where
  len : ∀ x, (enc x).length = sz
  one : ∀ x, ∀ u ∈ enc x, u.oneCell' = true
  pos : 0 < sz

theorem flat_len {α : Type} {enc : α → List Value} {sz : Nat} (he : Enc enc sz) (xs : List α) : (xs.flatMap enc).length = xs.length * sz := by
  induction xs with
  | nil => simp
  | cons x xs ih => simp [ih, he.len, Nat.succ_mul, Nat.add_comm]

theorem flat_get {α : Type} {enc : α → List Value} {sz : Nat} (he : Enc enc sz) : ∀ (xs : List α) (i : Nat) (x : α), xs[i]? = some x → ∀ (j : Nat) (v : Value), (enc x)[j]? = some v → (xs.flatMap enc)[i * sz + j]? = some v
  | [], i, x, hx, _, _, _ => by simp at hx
  | y :: xs, 0, x, hx, j, v, hv => by
    simp at hx
    subst hx
    have hj : j < (enc y).length := (List.getElem?_eq_some_iff.1 hv).1
    simp only [List.flatMap_cons, Nat.zero_mul, Nat.zero_add]
    rw [List.getElem?_append_left hj]
    exact hv
  | y :: xs, i + 1, x, hx, j, v, hv => by
    simp only [List.flatMap_cons]
    rw [List.getElem?_append_right (by rw [he.len, Nat.succ_mul]; omega), he.len, show (i + 1) * sz + j - sz = i * sz + j from by rw [Nat.succ_mul]; omega]
    exact flat_get he xs i x (by simpa using hx) j v hv

/-- A slice value whose row the call made (from block 'base' on): its elements are xs. -/
def Own {α : Type} (enc : α → List Value) (sz e base : Nat) (w : World) (v : Value) (xs : List α) : Prop := w.ownsRow base e sz v xs.length (xs.flatMap enc)

section
variable {α : Type} {enc : α → List Value} {sz e base : Nat} {w w' : World} {v : Value} {xs : List α}
theorem Own.nil : Own enc sz e base w (.slice none 0 0) ([] : List α) := World.ownsRow_nil _ _ _ _
theorem Own.kept (h : Own enc sz e base w v xs) {row : Option Nat} (hg : w.grownBy w' row) (hne : v.ownBlock = none ∨ v.ownBlock ≠ row) : Own enc sz e base w' v xs := World.ownsRow.kept h hg hne
theorem Own.lt (h : Own enc sz e base w v xs) : ∀ k, v.ownBlock = some k → base ≤ k ∧ k < w.heap.size := World.ownsRow.lt h
theorem Own.below (h : Own enc sz e base w v xs) (hb : Below w.heap.size w w') : Own enc sz e base w' v xs :=
  h.kept (row := none) ⟨hb.os, hb.tape, hb.output, hb.size, fun k hk _ => hb.block k hk⟩ (by cases v.ownBlock <;> simp)
theorem Own.alloc (h : Own enc sz e base w v xs) (o : Obj) : Own enc sz e base (w.alloc o) v xs := h.below ((Below.refl _ _).alloc (Nat.le_refl _) o)
theorem Own.drewN (h : Own enc sz e base w v xs) (n : Nat) : Own enc sz e base (w.drewN n) v xs := h.below (bl_drewN (Below.refl _ _) n)
theorem Own.drew (h : Own enc sz e base w v xs) : Own enc sz e base w.drew v xs := h.below (Below.refl _ _).drew
theorem Own.mono (h : Own enc sz e base w v xs) {base' : Nat} (hb : base' ≤ base) : Own enc sz e base' w v xs :=
  ⟨h.1, h.2.elim Or.inl (fun ⟨g, cap, cur, hv, hg, r⟩ => Or.inr ⟨g, cap, cur, hv, Nat.le_trans hb hg, r⟩)⟩
/-- A store elsewhere. -/
theorem Own.far (h : Own enc sz e base w v xs) {p : Addr} (hp : v.ownBlock ≠ some p.block) (u : Value) : Own enc sz e base (w.setCell p u) v xs := by
  refine h.kept (row := some p.block) ⟨rfl, rfl, rfl, by simp [World.setCell], fun k hk hne => Below.heap_setCell _ _ _ _ (fun e => hne (by rw [e]))⟩ (.inr hp)
/-- What it reads as. -/
theorem Own.rd (he : Enc enc sz) (h : Own enc sz e base w v xs) : ∃ A c, v = .slice A xs.length c ∧ xs.length ≤ c ∧ c ≤ 9223372036854775807 ∧ Rd enc sz w A xs ∧ (∀ a, A = some a → base ≤ a.block) := by
  rcases h.2 with ⟨rfl, h0⟩ | ⟨g, cap, cur, rfl, hb, hh, h1, h2, h3, h4⟩
  · have : xs = [] := List.eq_nil_of_length_eq_zero h0
    subst this
    exact ⟨none, 0, rfl, Nat.le_refl _, by omega, .inl rfl, fun a ha => by cases ha⟩
  · refine ⟨_, cap, rfl, h1, by simpa [maxLen] using h2, .inr ⟨g, 0, rfl, blk_lt hh, fun i x hx j u hu => ?_⟩, fun a ha => by cases ha; exact hb⟩
    have hf := flat_get he xs i x hx j u hu
    rw [blk_cell hh, Nat.zero_add]
    rw [← h4] at hf
    have hlt := (List.getElem?_eq_some_iff.1 hf).1
    rw [List.getElem?_take_of_lt (by rw [List.length_take] at hlt; omega)] at hf
    simpa using hf
theorem Own.rd' (he : Enc enc sz) {A : Option Addr} {n c : Nat} (h : Own enc sz e base w (.slice A n c) xs) : n = xs.length ∧ xs.length ≤ c ∧ c ≤ 9223372036854775807 ∧ Rd enc sz w A xs ∧ (∀ a, A = some a → base ≤ a.block) := by
  obtain ⟨A', c', hv, h1, h2, h3, h4⟩ := h.rd he
  injection hv with e1 e2 e3
  subst e1 e3
  exact ⟨e2, h1, h2, h3, h4⟩
theorem Own.len_le (h : Own enc sz e base w v xs) : xs.length ≤ 9223372036854775807 := by
  rcases h.2 with ⟨rfl, h0⟩ | ⟨g, cap, cur, rfl, hb, hh, h1, h2, h3, h4⟩
  · omega
  · simp only [maxLen] at h2; omega
end

/-- append(v, y): in a plain region; the world is that behind the variadic's box. -/
theorem ap_own {α : Type} {enc : α → List Value} {sz : Nat} {P : Program} {ops : Array Oper} {rest : List Oper} {o : Oper} {a : Act} {W : World} {Q : Exit → Act → World → Prop} (he : Enc enc sz) (hgd : o.guard = none) (s x : Operand) (t e : TypeId) (z : Value) (bytes : Nat)
    (ho : o.op = .call { callee := .builtin .append, args := #[s, x], argTypes := #[t, t] }) (ht : P.underlying t = some (.slice e))
    (hinfo : (P.info? e).map (fun i => (i.zero, i.size, i.bytes)) = some (some z, sz, bytes)) (hz : z.cells.size = sz)
    (base : Nat) (v : Value) (xs : List α) (y : α) (cs : Array Value) (hcs : cs.toList = enc y) (hs : a.eval s = v) (H : Nat) (hH : W.heap.size = H) (hx : a.eval x = .slice (some ⟨H, 0, none⟩) 1 1)
    (HO : Own enc sz e base W v xs) (hbase : base ≤ W.heap.size) (hl : (xs.length + 1) * bytes ≤ 140737488355328) (hl' : xs.length + 1 ≤ 140737488355328)
    (h : ∀ g cap w', Own enc sz e base w' (.slice (some ⟨g, 0, none⟩) (xs.length + 1) cap) (xs ++ [y]) → W.grownBy w' v.ownBlock → (v.ownBlock = some g ∨ W.heap.size ≤ g) → g < w'.heap.size → wpList P ops Q rest (a.put o.dst (.slice (some ⟨g, 0, none⟩) (xs.length + 1) cap)) w') :
    wpList P ops Q (o :: rest) a (W.alloc (.cells cs e)) := by
  subst hH
  obtain ⟨i0, hi, hz0, hz1, hz2⟩ := info_parts hinfo
  refine wpList_append_lies (W.alloc (.cells cs e)) hgd s x t ho base e i0 z sz bytes ht hi hz0 hz1 hz2 hz he.pos v xs.length (xs.flatMap enc) hs (World.ownsRow.alloc HO _) ⟨W.heap.size, 0, none⟩ 1 1 (enc y) hx (by rw [he.len]; simp)
    (by rw [← hcs]; exact World.news_of_block (blk_new W _)) (he.one y) (by omega) (by simp only [maxLen]; omega) hl (by simp; omega) (W.heap.size + 1) (by simp) ?_
  intro g cap w' hown hg hat hlt
  refine h g cap w' (by simpa [Own] using hown) ?_ ?_ hlt
  · exact ⟨hg.os, hg.tape, hg.output, by have := hg.size; simp at this; omega, fun k hk hne => (hg.block k (by simp; omega) hne).trans (Below.heap_alloc _ _ _ hk)⟩
  · rcases hat with hat | hat
    · exact .inl hat
    · exact .inr (by omega)

theorem Entry.ok : Enc Entry.enc 2 := ⟨fun _ => rfl, fun x u hu => by simp [Entry.enc] at hu; rcases hu with rfl | rfl <;> rfl, by omega⟩
theorem Change.ok : Enc Change.enc 5 := ⟨fun _ => rfl, fun x u hu => by simp [Change.enc] at hu; rcases hu with rfl | rfl | rfl | rfl | rfl <;> rfl, by omega⟩
def strEnc (s : Str) : List Value := [.string s]
theorem strOk : Enc strEnc 1 := ⟨fun _ => rfl, fun x u hu => by simp [strEnc] at hu; subst hu; rfl, by omega⟩
end Go.Proofs.YtikgplhcadomcaaGreat

namespace Go.Proofs.YtikgplhcadomcaaGreat
open Go.RowKit Go.ChangeShapes Go.WideShapes Go.Deep
set_option linter.unusedVariables false
set_option linter.unusedSimpArgs false

theorem build_list {α : Type} : ∀ (n : Nat) (p : Nat → α → Prop), (∀ i, i < n → ∃ x, p i x) → ∃ xs : List α, xs.length = n ∧ ∀ i x, xs[i]? = some x → p i x
  | 0, _, _ => ⟨[], rfl, fun i x h => by simp at h⟩
  | n + 1, p, h => by
    obtain ⟨xs, hl, hx⟩ := build_list n p (fun i hi => h i (by omega))
    obtain ⟨y, hy⟩ := h n (by omega)
    refine ⟨xs ++ [y], by simp [hl], fun i x hi => ?_⟩
    by_cases e : i < n
    · rw [List.getElem?_append_left (by omega)] at hi
      exact hx i x hi
    · rw [List.getElem?_append_right (by omega)] at hi
      have : i = n := by
        have := (List.getElem?_eq_some_iff.1 hi).1
        simp at this
        omega
      subst this
      rw [hl, Nat.sub_self] at hi
      simp at hi
      exact hi ▸ hy

section
variable {H : Type} {he : TypeId × Value → H} {P : Program} {W : World} {base : Nat} {spare : Nat → Bool} {held : Bool}

/-- A slice of elements of 'sz' cells each that came in. -/
theorem open_rows {α : Type} {enc : α → List Value} {sz : Nat} {t e : TypeId} (hpos : 0 < sz) (ht : P.underlying t = some (.slice e)) (hC : P.cellsOf e = sz) {good : α → Prop}
    (hdec : ∀ (fuel : Nat) (cs : List Value) (y : DataW H × List MemPlace), cs.length = sz → DataW.trod he P W base spare held fuel e cs = some y → ∃ x : α, cs = enc x ∧ good x)
    {r : Reach} {b0 : Nat} {v : Value} {d : DataW H} {ps : List MemPlace} (hv : Value.okWide P W r b0 t v) (h : DataW.Trod he P W base spare held t v d ps) :
    ∃ (xs : List α) (A : Option Addr) (c : Nat), v = .slice A xs.length c ∧ xs.length ≤ c ∧ c ≤ 9223372036854775807 ∧ Rd enc sz W A xs ∧ (∀ x ∈ xs, good x) ∧ (xs ≠ [] → ∀ a, A = some a → a.block < W.heap.size) := by
  obtain ⟨A, len, cap, rfl⟩ := okWide_slice ht hv
  obtain ⟨fuel, hf⟩ := h
  rcases open_slice ht hf with ⟨hcs, _⟩ | ⟨a, len', cap', m, n, D, Pl, hcs, hb, hl, hm, hmm, hx, hel⟩
  · simp [Value.cells] at hcs
    obtain ⟨rfl, rfl, rfl⟩ := hcs
    exact ⟨[], none, 0, rfl, Nat.le_refl _, by omega, .inl rfl, (fun x hx => by cases hx), fun h => absurd rfl h⟩
  · simp [Value.cells] at hcs
    obtain ⟨rfl, rfl, rfl⟩ := hcs
    have hlm : len ≤ m := by rw [hmm]; split <;> omega
    by_cases h0 : len = 0
    · subst h0
      exact ⟨[], some a, cap, rfl, hl, by simpa [maxLen] using hm, .inl rfl, (fun x hx => by cases hx), fun h => absurd rfl h⟩
    · have hsp : a.spot = none := by
        obtain ⟨cs0, k1, k2⟩ := hel 0 (by omega)
        obtain ⟨_, l0, k3⟩ := World.cells?_some k1
        have k4 := k3 0 (by rw [hC]; exact hpos)
        have hv1 : cs0[0]? = some (cs0[0]'(by rw [l0, hC]; exact hpos)) := List.getElem?_eq_getElem _
        have k5 := World.cell?_spot (k4.trans hv1)
        simpa [Addr.add] using k5
      obtain ⟨ab, ao, asp⟩ := a
      simp only at hsp
      subst hsp
      have hadd : ∀ k, (⟨ab, ao, none⟩ : Addr).add k = ⟨ab, ao + k, none⟩ := fun k => by unfold Addr.add; split <;> simp_all
      have hadd2 : ∀ i k, ((⟨ab, ao, none⟩ : Addr).add i).add k = ⟨ab, ao + i + k, none⟩ := fun i k => by rw [hadd]; unfold Addr.add; split <;> simp_all
      have hch : ∀ i, i < len → ∃ x : α, good x ∧ (enc x).length = sz ∧ ∀ j v, (enc x)[j]? = some v → W.cell? ⟨ab, ao + i * sz + j, none⟩ = some v := by
        intro i hi
        obtain ⟨cs', h1, h2⟩ := hel i (by omega)
        obtain ⟨_, hlen, hcell⟩ := World.cells?_some h1
        rw [hC] at hlen hcell
        obtain ⟨x, hx, hg⟩ := hdec n cs' _ hlen h2
        refine ⟨x, hg, by rw [← hx]; exact hlen, fun j v hv => ?_⟩
        rw [← hx] at hv
        have hj : j < sz := by have := (List.getElem?_eq_some_iff.1 hv).1; omega
        have hc := (hcell j hj).trans hv
        rwa [hadd2] at hc
      obtain ⟨xs, hxl, hxs⟩ := build_list len (fun i x => good x ∧ (enc x).length = sz ∧ ∀ j v, (enc x)[j]? = some v → W.cell? ⟨ab, ao + i * sz + j, none⟩ = some v) hch
      have hblk : ab < W.heap.size := by
        obtain ⟨x, hx⟩ : ∃ x, xs[0]? = some x := ⟨xs[0]'(by omega), List.getElem?_eq_getElem _⟩
        obtain ⟨_, g2, g3⟩ := hxs 0 x hx
        have hv1 : (enc x)[0]? = some ((enc x)[0]'(by omega)) := List.getElem?_eq_getElem _
        exact World.block_lt_of_cell? W _ (g3 0 _ hv1)
      refine ⟨xs, some ⟨ab, ao, none⟩, cap, by rw [hxl], by omega, by simpa [maxLen] using hm, .inr ⟨ab, ao, rfl, hblk, fun i x hx j v hv => (hxs i x hx).2.2 j v hv⟩, fun x hx => ?_, fun _ a ha => by cases ha; exact hblk⟩
      obtain ⟨i, hi⟩ := List.getElem?_of_mem hx
      exact (hxs i x hi).1

/-- A field of a struct that is read. -/
theorem open_field {t : TypeId} {fs : Array Field} {fuel : Nat} {cs : List Value} {x : DataW H × List MemPlace} (ht : P.underlying t = some (.struct fs)) (h : DataW.trod he P W base spare held fuel t cs = some x) (i : Nat) (f : Field) (hf : fs[i]? = some f) :
    ∃ n y, DataW.trod he P W base spare held n f.type ((cs.drop f.offset).take (P.cellsOf f.type)) = some y := by
  obtain ⟨xs, n, rfl, _, _, hl, hx⟩ := DataW.trod_struct ht h
  have hi : i < xs.length := by rw [hl]; exact (Array.getElem?_eq_some_iff.1 hf).1
  exact ⟨n, xs[i], (hx i f hf).trans (List.getElem?_eq_getElem hi)⟩
theorem list2 {l : List Value} (h : l.length = 2) : ∃ a b, l = [a, b] := by match l, h with | [a, b], _ => exact ⟨a, b, rfl⟩
def Entry.good (x : Entry) : Prop := x.key.size ≤ 9223372036854775807 ∧ x.val.size ≤ 9223372036854775807
end

section
variable {H : Type} {he : TypeId × Value → H} {W : World} {base : Nat} {spare : Nat → Bool} {held : Bool}
theorem dec_string {fuel : Nat} {c : Value} {y : DataW H × List MemPlace} (h : DataW.trod he Tryz.prog W base spare held fuel 9 [c] = some y) : ∃ s : Str, c = .string s ∧ s.size ≤ 9223372036854775807 := by
  obtain ⟨s, e, _, hs⟩ := DataW.trod_string Tryz.underlying9 h
  simp only [List.cons.injEq, and_true] at e
  exact ⟨s, e, by simpa [maxLen] using hs⟩
set_option maxRecDepth 100000 in
theorem dec_entry (fuel : Nat) (cs : List Value) (y : DataW H × List MemPlace) (hl : cs.length = 2) (h : DataW.trod he Tryz.prog W base spare held fuel 113 cs = some y) : ∃ x : Entry, cs = x.enc ∧ x.good := by
  obtain ⟨a, b, rfl⟩ := list2 hl
  obtain ⟨n0, y0, h0⟩ := open_field Tryz.underlying113 h 0 _ rfl
  obtain ⟨n1, y1, h1⟩ := open_field Tryz.underlying113 h 1 _ rfl
  obtain ⟨s0, rfl, g0⟩ := dec_string h0
  obtain ⟨s1, rfl, g1⟩ := dec_string h1
  exact ⟨⟨s0, s1⟩, rfl, g0, g1⟩
set_option maxRecDepth 100000 in
theorem open_map {r : Reach} {b0 : Nat} {v : Value} {d : DataW H} {ps : List MemPlace} (hv : Value.okWide Tryz.prog W r b0 22 v) (h : DataW.Trod he Tryz.prog W base spare held 22 v d ps) : ∃ l, Came W v l := by
  obtain ⟨l, A, c, h1, h2, h3, h4, h5, h6⟩ := open_rows (enc := Entry.enc) (sz := 2) (good := Entry.good) (by omega) Tryz.underlying22 (by kernel_rfl) dec_entry hv h
  exact ⟨l, A, c, h1, h2, h3, h4, h5, h6⟩
end
end Go.Proofs.YtikgplhcadomcaaGreat

namespace Go.Proofs.YtikgplhcadomcaaGreat
open Go.RowKit
set_option linter.unusedVariables false
set_option linter.unusedSimpArgs false

section
variable {α : Type} {enc : α → List Value} {sz : Nat} {P : Program}

/-- The cells of a row that is read. -/
theorem Rd.cells (he : Enc enc sz) {w : World} {b off : Nat} {xs : List α} (h : Rd enc sz w (some ⟨b, off, none⟩) xs) : ∀ j u, (xs.flatMap enc)[j]? = some u → w.cell? ((⟨b, off, none⟩ : Addr).add j) = some u := by
  intro j u hu
  have hadd : (⟨b, off, none⟩ : Addr).add j = ⟨b, off + j, none⟩ := by unfold Addr.add; split <;> simp_all
  rw [hadd]
  rcases h with h | ⟨b', off', heq, hlt, hc⟩
  · subst h; simp at hu
  · cases heq
    have hj := (List.getElem?_eq_some_iff.1 hu).1
    rw [flat_len he] at hj
    have hi : j / sz < xs.length := Nat.div_lt_of_lt_mul (by rw [Nat.mul_comm]; exact hj)
    have hm : j % sz < sz := Nat.mod_lt _ he.pos
    have hx : xs[j / sz]? = some xs[j / sz] := List.getElem?_eq_getElem hi
    have hv : (enc xs[j / sz])[j % sz]? = some ((enc xs[j / sz])[j % sz]'(by rw [he.len]; exact hm)) := List.getElem?_eq_getElem _
    have hf := flat_get he xs _ _ hx _ _ hv
    have hdm : j / sz * sz + j % sz = j := by rw [Nat.mul_comm]; exact Nat.div_add_mod j sz
    rw [hdm, hu] at hf
    have := hc _ _ hx _ _ hv
    rw [Nat.add_assoc, hdm] at this
    rw [this, hf]

theorem flat_one (he : Enc enc sz) (xs : List α) : ∀ u ∈ xs.flatMap enc, u.oneCell' = true := by
  intro u hu
  obtain ⟨x, _, hx⟩ := List.mem_flatMap.1 hu
  exact he.one x u hx

/-- What is appended, as the library's laws take it. -/
theorem Rd.src (he : Enc enc sz) {t e : TypeId} (ht : P.underlying t = some (.slice e)) {w : World} {A : Option Addr} {xs : List α} (c : Nat) (h : Rd enc sz w A xs) : Src P sz t (.slice A xs.length c) xs.length (xs.flatMap enc) w := by
  cases A with
  | none =>
    rcases h with h | ⟨b, off, heq, _⟩
    · subst h; exact Src.ofNil w ht c
    · cases heq
  | some a =>
    by_cases hx : xs = []
    · subst hx
      exact Src.ofSlice w ht a 0 c [] (by simp) (by simp) (by simp)
    · rcases h with h | ⟨b, off, heq, hlt, hc⟩
      · exact absurd h hx
      · cases heq
        exact Src.ofSlice w ht _ _ c _ (flat_len he xs) (Rd.cells he (.inr ⟨b, off, rfl, hlt, hc⟩)) (flat_one he xs)

theorem op_append {o : Oper} {a : Act} {W w' : World} {K : Act → World → Prop} {Q : Exit → Act → World → Prop} (s x : Operand) (t : TypeId)
    (ho : o.op = .call { callee := .builtin .append, args := #[s, x], argTypes := #[t, t] }) {v u r : Value} (hs : a.eval s = v) (hx : a.eval x = u)
    (hr : (Builtin.append_ #[t, t] o.type #[v, u]).run P W = .ok r w') (h : K (a.put o.dst r) w') : Oper.wp P o a W K Q := by
  unfold Oper.wp execOp
  simp only [ho, resolve, invoke, builtin, Sem.run_bind, Sem.run_pure, Result.andThen_ok, List.map_toArray, List.map_cons, List.map_nil, hs, hx, hr]
  exact h

theorem op_nothing {o : Oper} {a : Act} {W : World} {K : Act → World → Prop} {Q : Exit → Act → World → Prop} (s x : Operand) (t e : TypeId) (z : Value) (bytes : Nat)
    (ho : o.op = .call { callee := .builtin .append, args := #[s, x], argTypes := #[t, t] }) (ht : P.underlying t = some (.slice e))
    (hinfo : (P.info? e).map (fun i => (i.zero, i.size, i.bytes)) = some (some z, sz, bytes))
    (A B : Option Addr) (n sCap c : Nat) (hle : n ≤ sCap) (hs : a.eval s = .slice A n sCap) (hx : a.eval x = .slice B 0 c)
    (h : K (a.put o.dst (.slice A n sCap)) W) : Oper.wp P o a W K Q := by
  obtain ⟨i0, hi, hz0, hz1, hz2⟩ := info_parts hinfo
  have hsrc : Src P i0.size t (.slice B 0 c) 0 [] W := by
    cases B with
    | none => exact Src.ofNil W ht c
    | some b => exact Src.ofSlice W ht b 0 c [] (by simp) (by simp) (by simp)
  exact op_append s x t ho hs hx (run_append_nothing W t t o.type e i0 ht hi A n sCap hle _ hsrc) h

/-- append(v, xs...), v a row of the call's own, xs whatever is read and not empty. -/
theorem op_ownN (he : Enc enc sz) {o : Oper} {a : Act} {W : World} {K : Act → World → Prop} {Q : Exit → Act → World → Prop} (s x : Operand) (t e : TypeId) (z : Value) (bytes : Nat)
    (ho : o.op = .call { callee := .builtin .append, args := #[s, x], argTypes := #[t, t] }) (ht : P.underlying t = some (.slice e))
    (hinfo : (P.info? e).map (fun i => (i.zero, i.size, i.bytes)) = some (some z, sz, bytes)) (hz : z.cells.size = sz)
    (base : Nat) (v : Value) (xs : List α) (B : Option Addr) (c : Nat) (news : List α) (m : Nat) (hm : news.length = m) (hpos : news ≠ []) (hs : a.eval s = v) (hx : a.eval x = .slice B m c)
    (HO : Own enc sz e base W v xs) (hrn : Rd enc sz W B news) (hbase : base ≤ W.heap.size) (hl : (xs.length + m) * bytes ≤ 140737488355328) (hl' : xs.length + m ≤ 140737488355328)
    (h : ∀ g cap w', Own enc sz e base w' (.slice (some ⟨g, 0, none⟩) (xs.length + m) cap) (xs ++ news) → W.grownBy w' v.ownBlock → (v.ownBlock = some g ∨ W.heap.size ≤ g) → g < w'.heap.size → K (a.put o.dst (.slice (some ⟨g, 0, none⟩) (xs.length + m) cap)) w') : Oper.wp P o a W K Q := by
  subst hm
  obtain ⟨i0, hi, hz0, hz1, hz2⟩ := info_parts hinfo
  rcases hrn with h0 | ⟨b, off, rfl, hlt, hc⟩
  · exact absurd h0 hpos
  have hm0 : 0 < news.length := by cases news with | nil => exact absurd rfl hpos | cons y l => simp
  refine wp_append_lies W s x t ho base e i0 z sz bytes ht hi hz0 hz1 hz2 hz he.pos v xs.length (xs.flatMap enc) hs HO ⟨b, off, none⟩ news.length c (news.flatMap enc) hx (flat_len he news)
    (Rd.cells he (.inr ⟨b, off, rfl, hlt, hc⟩)) (flat_one he news) hm0 (by simp only [maxLen]; omega) hl hbase W.heap.size rfl ?_
  intro g cap w' hown hg hat hlt
  exact h g cap w' (by simpa [Own] using hown) hg (hat.imp_right (fun e => by omega)) hlt
end

/-- A law at the operation, in a plain region and at a step of one that draws its order. -/
theorem at_list {P : Program} {ops : Array Oper} {rest : List Oper} {o : Oper} {a : Act} {W : World} {Q : Exit → Act → World → Prop} (hgd : o.guard = none) (h : ∀ K : Act → World → Prop, (∀ a w, wpList P ops Q rest a w → K a w) → Oper.wp P o a W K Q) : wpList P ops Q (o :: rest) a W := wpList_plain hgd h
theorem at_step {P : Program} {ops : Array Oper} {o : Oper} {a : Act} {W : World} {K : Act → World → Prop} {Q : Exit → Act → World → Prop} {E : Prop} (hgd : o.guard = none) (h : Oper.wp P o a W K Q) :
    if Region.wanted o (yielded ops a.tmps) = true then Oper.wp P o a W K Q else E := by
  rw [if_pos (by simp [Region.wanted, hgd])]
  exact h
end Go.Proofs.YtikgplhcadomcaaGreat

namespace Go.Proofs.YtikgplhcadomcaaGreat
open Go.RowKit
set_option linter.unusedVariables false
set_option linter.unusedSimpArgs false

/-- Bytes as numbers, one cell each. -/
def by1 (n : Int) : List Value := [.int .u8 n]
theorem by1ok : Enc by1 1 := ⟨fun _ => rfl, fun x u hu => by simp [by1] at hu; subst hu; rfl, by omega⟩

/-- A sink at block g: 32 bytes, of which 'at_' are written. -/
def Snk (w : World) (g : Nat) (bs : List Int) (at_ : Nat) : Prop :=
  bs.length = 32 ∧ ∃ cs, w.heap[g]? = some (.cells cs 272 (0, 0)) ∧ cs.toList = bs.map (Value.int .u8) ++ [.int .i64 at_]

/-- A number in so many bytes, the highest first. -/
def be (n : Int) : Nat → List Int
  | 0 => []
  | k + 1 => (n / 2 ^ (8 * k) % 256) :: be n k
theorem be_len (n : Int) : ∀ k, (be n k).length = k
  | 0 => rfl
  | k + 1 => by simp [be, be_len n k]
theorem be_get (n : Int) : ∀ (k t : Nat), t < k → (be n k)[t]? = some (n / 2 ^ (8 * (k - (t + 1))) % 256)
  | 0, t, h => by omega
  | k + 1, 0, h => by simp [be]
  | k + 1, t + 1, h => by
    simp only [be, List.getElem?_cons_succ]
    rw [be_get n k t (by omega)]
    congr 4
    omega
theorem be_rng (n : Int) : ∀ (k : Nat), ∀ x ∈ be n k, 0 ≤ x ∧ x ≤ 255
  | 0, x, h => by simp [be] at h
  | k + 1, x, h => by
    simp only [be, List.mem_cons] at h
    rcases h with h | h
    · subst h; generalize n / 2 ^ (8 * k) = y; omega
    · exact be_rng n k x h
/-- bs, from 'at_' on written over. -/
def over (bs : List Int) (at_ : Nat) (l : List Int) : List Int := bs.take at_ ++ l ++ bs.drop (at_ + l.length)
theorem over_nil (bs : List Int) (a : Nat) : over bs a [] = bs := by simp [over]
theorem over_len (bs : List Int) (a : Nat) (l : List Int) (h : a + l.length ≤ bs.length) : (over bs a l).length = bs.length := by simp [over]; omega
theorem over_get (bs l : List Int) (a i : Nat) (h : a ≤ bs.length) : (over bs a l)[i]? = if i < a then bs[i]? else if i - a < l.length then l[i - a]? else bs[i]? := by
  have l3 : (bs.take a).length = a := by simp; omega
  unfold over
  by_cases h1 : i < a
  · rw [if_pos h1, List.append_assoc, List.getElem?_append_left (by omega), List.getElem?_take_of_lt h1]
  · rw [if_neg h1, List.append_assoc, List.getElem?_append_right (by omega), l3]
    by_cases h2 : i - a < l.length
    · rw [if_pos h2, List.getElem?_append_left h2]
    · rw [if_neg h2, List.getElem?_append_right (by omega), List.getElem?_drop]
      congr 1
      omega
theorem over_step (bs l : List Int) (a t : Nat) (x : Int) (hx : l[t]? = some x) (h : a + l.length ≤ bs.length) : (over bs a (l.take t)).set (a + t) x = over bs a (l.take (t + 1)) := by
  have ht : t < l.length := (List.getElem?_eq_some_iff.1 hx).1
  have l1 : (l.take t).length = t := by simp; omega
  have l2 : (l.take (t + 1)).length = t + 1 := by simp; omega
  apply List.ext_getElem?
  intro i
  by_cases hi : i = a + t
  · subst hi
    rw [List.getElem?_set_self (by rw [over_len _ _ _ (by rw [l1]; omega)]; omega), over_get _ _ _ _ (by omega), if_neg (by omega), if_pos (by rw [l2]; omega), List.getElem?_take_of_lt (by omega), show a + t - a = t from by omega, hx]
  · rw [List.getElem?_set_ne (fun e => hi e.symm), over_get _ _ _ _ (by omega), over_get _ _ _ _ (by omega), l1, l2]
    by_cases h1 : i < a
    · rw [if_pos h1, if_pos h1]
    · rw [if_neg h1, if_neg h1]
      by_cases h2 : i - a < t
      · rw [if_pos h2, if_pos (by omega), List.getElem?_take_of_lt h2, List.getElem?_take_of_lt (by omega)]
      · rw [if_neg h2, if_neg (by omega)]

theorem snk_cells {w : World} {g : Nat} {bs : List Int} {p : Nat} (h : Snk w g bs p) : w.cell? ⟨g, 32, none⟩ = some (.int .i64 p) ∧ (p < 32 → w.cell? ⟨g, p, none⟩ = some (.int .u8 (bs.getD p 0))) ∧ (∀ i, w.frozen? ⟨g, i, none⟩ = false) ∧ g < w.heap.size := by
  obtain ⟨hl, cs, hb, hcs⟩ := h
  have e : ∀ i, cs[i]? = (bs.map (Value.int .u8) ++ [.int .i64 p])[i]? := fun i => by rw [← hcs, Array.getElem?_toList]
  refine ⟨?_, fun hp => ?_, fun i => blk_free hb i, blk_lt hb⟩
  · rw [blk_cell hb, e, List.getElem?_append_right (by simp [hl])]; simp [hl]
  · rw [blk_cell hb, e, List.getElem?_append_left (by simp [hl]; exact hp), List.getElem?_map, List.getElem?_eq_getElem (by omega)]
    simp [List.getElem?_eq_getElem (show p < bs.length from by omega)]
theorem snk_step {w : World} {g : Nat} {bs : List Int} {p : Nat} (h : Snk w g bs p) (hp : p < 32) (x : Int) (n : Nat) : Snk ((w.setCell ⟨g, p, none⟩ (.int .u8 x)).setCell ⟨g, 32, none⟩ (.int .i64 n)) g (bs.set p x) n := by
  obtain ⟨hl, cs, hb, hcs⟩ := h
  refine ⟨by simp [hl], _, blk_set (blk_set hb p _) 32 _, ?_⟩
  simp only [Array.toList_setIfInBounds, hcs]
  rw [List.set_append_left _ _ (by simp [hl]; exact hp), List.set_append_right _ _ (by simp [hl])]
  simp [hl, List.map_set]

theorem grown_drew {w w' : World} {row : Option Nat} (h : w.grownBy w' row) : w.grownBy w'.drew row := ⟨h.os, h.tape, h.output, h.size, h.block⟩
theorem snk_drew {w : World} {g : Nat} {bs : List Int} {p : Nat} (h : Snk w g bs p) : Snk w.drew g bs p := h

set_option maxRecDepth 100000 in
theorem sinkPut_calls (w : World) (g : Nat) (bs : List Int) (at_ : Nat) (n : Int) (size : Nat) (hn0 : 0 ≤ n) (hn1 : n < 18446744073709551616) (hs : size ≤ 8) (ha : at_ + size ≤ 32) (h : Snk w g bs at_) :
    Calls Tryz.prog 217 #[.pointer (some ⟨g, 0, none⟩), .int .u64 n, .int .i64 size] w fun e w' => e = .returned (.tuple #[]) ∧ Snk w' g (over bs at_ (be n size)) (at_ + size) ∧ w.grownBy w' (some g) := by
  have hbl := h.1
  have H0 := Lib.hid h
  clear h
  go_enter Tryz.func217, Tryz.ntmps217
  go_wp2
  go_loopg [6] size (fun k i wr => ∃ j : Nat, i = .int .i64 ((j : Int) - 1) ∧ j = k ∧ j ≤ size ∧ Hid (Snk wr g (over bs at_ ((be n size).take (size - j))) (at_ + (size - j))) ∧ Hid (w.grownBy wr (some g)))
  case atStart => exact ⟨size, rfl, rfl, Nat.le_refl _, by show Snk _ _ _ _; simpa [over_nil] using H0.out, grown_refl _ _⟩
  case round =>
    obtain ⟨j, rfl, rfl, hj, hsn, hg⟩ := hrel
    cases j with
    | zero =>
      have hfin : Hid (Snk wr g (over bs at_ (be n size)) (at_ + size)) := by
        show Snk _ _ _ _
        have := hsn.out
        rw [List.take_of_length_le (by rw [be_len]; omega)] at this
        simpa using this
      go_wp2
      go_end0
      exact ⟨rfl, hfin.out, hg.out⟩
    | succ j =>
      obtain ⟨c32, cat, hfr, hlt⟩ := snk_cells hsn.out
      have hnext : Hid (Snk ((wr.setCell ⟨g, at_ + (size - (j + 1)), none⟩ (.int .u8 (n / 2 ^ (8 * j) % 256))).setCell ⟨g, 32, none⟩ (.int .i64 ((at_ + (size - (j + 1)) + 1 : Nat) : Int))) g (over bs at_ ((be n size).take (size - j))) (at_ + (size - j))) := by
        show Snk _ _ _ _
        have := snk_step hsn.out (by omega) (n / 2 ^ (8 * j) % 256) (at_ + (size - (j + 1)) + 1)
        rw [over_step bs (be n size) at_ (size - (j + 1)) _ (by rw [be_get n size _ (by omega), show size - (size - (j + 1) + 1) = j from by omega]) (by rw [be_len]; omega)] at this
        rw [show at_ + (size - (j + 1)) + 1 = at_ + (size - j) from by omega, show size - (j + 1) + 1 = size - j from by omega] at this
        rw [show at_ + (size - (j + 1)) + 1 = at_ + (size - j) from by omega]
        exact this
      have cat' := cat (by omega)
      have fat := hfr (at_ + (size - (j + 1)))
      have f32 := hfr 32
      generalize hp : at_ + (size - (j + 1)) = p at *
      have hp32 : (p : Int) < 32 := by omega
      have hpn : ¬ p = 32 := by omega
      generalize (over bs at_ ((be n size).take (size - (j + 1)))).getD p 0 = old at *
      clear hp hsn hfr cat
      go_wp2
      go_region
      go_wp2
      go_roundg j
      case measure => omega
      case rel =>
        refine ⟨j, by go_num, rfl, by omega, ?_, ?_⟩
        · exact snk_drew (by have := hnext.out; rwa [Int.natCast_add] at this)
        · exact grown_drew (grown_trans hg.out (grown_trans (grown_set _ _ _ _) (grown_set _ _ _ _)))

theorem sinkLong_calls (w : World) (g : Nat) (bs : List Int) (at_ : Nat) (n : Int) (hn0 : 0 ≤ n) (hn1 : n < 18446744073709551616) (ha : at_ + 8 ≤ 32) (h : Snk w g bs at_) :
    Calls Tryz.prog 196 #[.pointer (some ⟨g, 0, none⟩), .int .u64 n] w fun e w' => e = .returned (.tuple #[]) ∧ Snk w' g (over bs at_ (be n 8)) (at_ + 8) ∧ w.grownBy w' (some g) := by
  have H0 := Lib.hid h
  clear h
  go_enter Tryz.func196, Tryz.ntmps196
  go_wp2_with fail
  refine (sinkPut_calls _ g bs at_ n 8 hn0 hn1 (by omega) ha H0.out).mono ?_
  rintro e w1 ⟨rfl, hs, hg⟩
  go_wp2_with fail
  go_end0
  exact ⟨rfl, hs, hg⟩
theorem sinkShort_calls (w : World) (g : Nat) (bs : List Int) (at_ : Nat) (n : Int) (hn0 : 0 ≤ n) (hn1 : n < 18446744073709551616) (ha : at_ + 4 ≤ 32) (h : Snk w g bs at_) :
    Calls Tryz.prog 197 #[.pointer (some ⟨g, 0, none⟩), .int .u64 n] w fun e w' => e = .returned (.tuple #[]) ∧ Snk w' g (over bs at_ (be n 4)) (at_ + 4) ∧ w.grownBy w' (some g) := by
  have H0 := Lib.hid h
  clear h
  go_enter Tryz.func197, Tryz.ntmps197
  go_wp2_with fail
  refine (sinkPut_calls _ g bs at_ n 4 hn0 hn1 (by omega) ha H0.out).mono ?_
  rintro e w1 ⟨rfl, hs, hg⟩
  go_wp2_with fail
  go_end0
  exact ⟨rfl, hs, hg⟩
def magic : List Int := [97, 112, 111, 103]
theorem over_magic (bs : List Int) (h : bs.length = 32) : (((bs.set 20 97).set 21 112).set 22 111).set 23 103 = over bs 20 magic := by
  have h0 := over_nil bs 20
  have h1 := over_step bs magic 20 0 97 rfl (by simp [magic, h])
  have h2 := over_step bs magic 20 1 112 rfl (by simp [magic, h])
  have h3 := over_step bs magic 20 2 111 rfl (by simp [magic, h])
  have h4 := over_step bs magic 20 3 103 rfl (by simp [magic, h])
  simp only [List.take_zero, Nat.add_zero, Nat.zero_add, Nat.reduceAdd] at h1 h2 h3 h4
  rw [h0] at h1
  rw [h1, h2, h3, h4]
  rfl
theorem snk_magic {w : World} {g : Nat} {bs : List Int} {p : Nat} (h : Snk w g bs p) :
    Snk (((((w.setCell ⟨g, 20, none⟩ (.int .u8 97)).setCell ⟨g, 21, none⟩ (.int .u8 112)).setCell ⟨g, 22, none⟩ (.int .u8 111)).setCell ⟨g, 23, none⟩ (.int .u8 103)).setCell ⟨g, 32, none⟩ (.int .i64 24)).drew g (over bs 20 magic) 24 := by
  have l := h.1
  obtain ⟨hl, cs, hb, hcs⟩ := h
  refine snk_drew ⟨by rw [over_len]; exact l; simp [magic, l], _, blk_set (blk_set (blk_set (blk_set (blk_set hb 20 _) 21 _) 22 _) 23 _) 32 _, ?_⟩
  rw [← over_magic bs l]
  simp only [Array.toList_setIfInBounds, hcs]
  simp [List.set_append, hl, List.map_set]
theorem run_copy_magic {P : Program} (w : World) (g : Nat) (dT sT ty e : TypeId) (hu : P.underlying dT = some (.slice e)) (hs : (P.info? e).map (·.size) = some 1)
    (hc : ∀ j, j < 4 → (w.cell? ⟨g, 20 + j, none⟩).isSome = true) (hf : ∀ j, w.frozen? ⟨g, j, none⟩ = false) :
    (Builtin.copy_ #[dT, sT] ty #[.slice (some ⟨g, 20, none⟩) 12 12, .string ⟨#[97, 112, 111, 103]⟩]).run P w = .ok (.int .i64 4)
      ((((w.setCell ⟨g, 20, none⟩ (.int .u8 97)).setCell ⟨g, 21, none⟩ (.int .u8 112)).setCell ⟨g, 22, none⟩ (.int .u8 111)).setCell ⟨g, 23, none⟩ (.int .u8 103)) := by
  have hst := run_storeCells_cells (P := P) g 20 [.int .u8 97, .int .u8 112, .int .u8 111, .int .u8 103] 0 w (fun j hj => hc j hj) (fun j hj => hf _) (by simp [Value.oneCell'])
  cases hq : P.info? e with
  | none => simp [hq] at hs
  | some i =>
    have hi : i.size = 1 := by simpa [hq] using hs
    have hm : Nat.min (ByteArray.mk #[97, 112, 111, 103]).size 12 = 4 := by rfl
    simp only [Builtin.copy_]
    simp [run_underlying hu, Builtin.lenOf, Builtin.firstCells, sizeOf, typeInfo, hq, hi, hm]
    simp [hst, World.setCells, goInt]
set_option maxRecDepth 100000 in
theorem sinkText_calls (w : World) (g : Nat) (bs : List Int) (n : Int) (h : Snk w g bs 20) :
    Calls Tryz.prog 198 #[.pointer (some ⟨g, 0, none⟩), .int .u64 n] w fun e w' => e = .returned (.tuple #[]) ∧ Snk w' g (over bs 20 magic) 24 ∧ w.grownBy w' (some g) := by
  obtain ⟨c32, cat, hfr, hlt⟩ := snk_cells h
  have H0 := Lib.hid h
  have f32 := hfr 32
  have hcp : ∀ ty, (Builtin.copy_ #[51, 9] ty #[.slice (some ⟨g, 20, none⟩) 12 12, .string ⟨#[97, 112, 111, 103]⟩]).run Tryz.prog w.drew = .ok (.int .i64 4)
      ((((w.drew.setCell ⟨g, 20, none⟩ (.int .u8 97)).setCell ⟨g, 21, none⟩ (.int .u8 112)).setCell ⟨g, 22, none⟩ (.int .u8 111)).setCell ⟨g, 23, none⟩ (.int .u8 103)) := fun ty =>
    run_copy_magic w.drew g _ _ ty 5 (by rfl) (by rfl) (fun j hj => by
      obtain ⟨hl, cs, hb, hcs⟩ := h
      rw [blk_cell (blk_drew hb), ← Array.getElem?_toList, hcs]
      simp; omega) (fun j => hfr j)
  clear h hfr cat
  go_enter Tryz.func198, Tryz.ntmps198
  go_wp2
  go_region
  go_end0
  exact ⟨rfl, snk_magic H0.out, grown_drew (grown_trans (grown_trans (grown_trans (grown_trans (grown_set _ _ _ _) (grown_set _ _ _ _)) (grown_set _ _ _ _)) (grown_set _ _ _ _)) (grown_set _ _ _ _))⟩
end Go.Proofs.YtikgplhcadomcaaGreat

namespace Go.Proofs.YtikgplhcadomcaaGreat
open Go.RowKit
set_option linter.unusedVariables false
set_option linter.unusedSimpArgs false

structure Sup where
  epoch : Int
  start : Int
  pages : Int
  size : Int
def supV (s : Sup) : Value := .agg #[.int .u64 s.epoch, .int .u32 s.start, .int .u32 s.pages, .int .u32 s.size]
def Sup.ok (s : Sup) : Prop := (0 ≤ s.epoch ∧ s.epoch < 18446744073709551616) ∧ (0 ≤ s.start ∧ s.start < 4294967296) ∧ (0 ≤ s.pages ∧ s.pages < 4294967296) ∧ (0 ≤ s.size ∧ s.size < 4294967296)
def pieces (s : Sup) : List (List Int) := [be s.epoch 8, be s.start 4, be s.pages 4, be s.size 4, magic, be s.epoch 8]
def putAt (s : Sup) (k : Nat) : List Int := ((pieces s).take k).flatten
def put (s : Sup) : List Int := be s.epoch 8 ++ be s.start 4 ++ be s.pages 4 ++ be s.size 4 ++ magic ++ be s.epoch 8
def fnAt (k : Nat) : Nat := [196, 197, 197, 197, 198, 196].getD k 0
def numAt (s : Sup) (k : Nat) : Int := [s.epoch, s.start, s.pages, s.size, 0, s.epoch].getD k 0
def lenAt (k : Nat) : Nat := [0, 8, 12, 16, 20, 24, 32].getD k 0
def zeros : List Int := List.replicate 32 0
theorem over_over (bs l m : List Int) (a b : Nat) (h : a + l.length + m.length ≤ bs.length) (hb : b = a + l.length) : over (over bs a l) b m = over bs a (l ++ m) := by
  subst hb
  apply List.ext_getElem?
  intro i
  rw [over_get _ _ _ _ (by rw [over_len _ _ _ (by omega)]; omega), over_get _ _ _ _ (by omega), over_get _ _ _ _ (by omega)]
  by_cases h1 : i < a
  · simp [h1, show i < a + l.length from by omega]
  · by_cases h2 : i < a + l.length
    · rw [if_pos h2, if_neg h1, if_pos (by omega), if_neg h1, if_pos (by simp; omega), List.getElem?_append_left (by omega)]
    · rw [if_neg h2, if_neg h1, if_neg h1]
      by_cases h3 : i - (a + l.length) < m.length
      · rw [if_pos h3, if_pos (by simp; omega), List.getElem?_append_right (by omega)]
        congr 1; omega
      · rw [if_neg h3, if_neg (by omega), if_neg (by simp; omega)]
theorem over_all (bs l : List Int) (h : l.length = bs.length) : over bs 0 l = l := by simp [over, h]
theorem put_all (s : Sup) : putAt s 6 = put s := by simp [putAt, pieces, put, List.append_assoc]
theorem put_len (s : Sup) : (put s).length = 32 := by simp [put, be_len, magic]
theorem putAt_len (s : Sup) : ∀ k, k ≤ 6 → (putAt s k).length = lenAt k
  | 0, _ => rfl
  | 1, _ => by simp [putAt, pieces, be_len, lenAt]
  | 2, _ => by simp [putAt, pieces, be_len, lenAt]
  | 3, _ => by simp [putAt, pieces, be_len, lenAt]
  | 4, _ => by simp [putAt, pieces, be_len, lenAt]
  | 5, _ => by simp [putAt, pieces, be_len, lenAt, magic]
  | 6, _ => by simp [putAt, pieces, be_len, lenAt, magic]
  | k + 7, h => by omega
def SnkP (w : World) (g : Nat) (s : Sup) (k : Nat) : Prop := Snk w g (over zeros 0 (putAt s k)) (lenAt k)
theorem over_put (s : Sup) (k : Nat) (l : List Int) (hk : k < 6) (hl : (pieces s)[k]? = some l) : over (over zeros 0 (putAt s k)) (lenAt k) l = over zeros 0 (putAt s (k + 1)) ∧ lenAt k + l.length = lenAt (k + 1) := by
  have e : putAt s (k + 1) = putAt s k ++ l := by
    unfold putAt
    rw [List.take_add_one, hl]; simp
  have h1 := putAt_len s k (by omega)
  have h2 := putAt_len s (k + 1) (by omega)
  rw [e, List.length_append, h1] at h2
  have h3 : lenAt (k + 1) ≤ 32 := by
    rcases (show k = 0 ∨ k = 1 ∨ k = 2 ∨ k = 3 ∨ k = 4 ∨ k = 5 by omega) with rfl | rfl | rfl | rfl | rfl | rfl <;> simp [lenAt]
  exact ⟨by rw [over_over zeros _ l 0 _ (by simp [zeros]; omega) (by omega), e], h2⟩
theorem part_calls (s : Sup) (hs : s.ok) (k : Nat) (hk : k < 6) (g : Nat) (w : World) (h : SnkP w g s k) :
    Calls Tryz.prog (fnAt k) #[.pointer (some ⟨g, 0, none⟩), .int .u64 (numAt s k)] w fun e w' => e = .returned (.tuple #[]) ∧ SnkP w' g s (k + 1) ∧ w.grownBy w' (some g) := by
  obtain ⟨⟨a0, a1⟩, ⟨b0, b1⟩, ⟨c0, c1⟩, ⟨d0, d1⟩⟩ := hs
  rcases (show k = 0 ∨ k = 1 ∨ k = 2 ∨ k = 3 ∨ k = 4 ∨ k = 5 by omega) with rfl | rfl | rfl | rfl | rfl | rfl
  · refine (sinkLong_calls w g _ _ s.epoch a0 a1 (by decide) h).mono ?_
    rintro e w' ⟨rfl, h', hg⟩
    obtain ⟨e1, e2⟩ := over_put s 0 _ (by omega) rfl
    rw [e1, show lenAt 0 + 8 = lenAt 1 from rfl] at h'
    exact ⟨rfl, h', hg⟩
  · refine (sinkShort_calls w g _ _ s.start b0 (by omega) (by decide) h).mono ?_
    rintro e w' ⟨rfl, h', hg⟩
    obtain ⟨e1, e2⟩ := over_put s 1 _ (by omega) rfl
    rw [e1, show lenAt 1 + 4 = lenAt 2 from rfl] at h'
    exact ⟨rfl, h', hg⟩
  · refine (sinkShort_calls w g _ _ s.pages c0 (by omega) (by decide) h).mono ?_
    rintro e w' ⟨rfl, h', hg⟩
    obtain ⟨e1, e2⟩ := over_put s 2 _ (by omega) rfl
    rw [e1, show lenAt 2 + 4 = lenAt 3 from rfl] at h'
    exact ⟨rfl, h', hg⟩
  · refine (sinkShort_calls w g _ _ s.size d0 (by omega) (by decide) h).mono ?_
    rintro e w' ⟨rfl, h', hg⟩
    obtain ⟨e1, e2⟩ := over_put s 3 _ (by omega) rfl
    rw [e1, show lenAt 3 + 4 = lenAt 4 from rfl] at h'
    exact ⟨rfl, h', hg⟩
  · refine (sinkText_calls w g _ 0 h).mono ?_
    rintro e w' ⟨rfl, h', hg⟩
    obtain ⟨e1, e2⟩ := over_put s 4 _ (by omega) rfl
    rw [show (20 : Nat) = lenAt 4 from rfl, e1, show (24 : Nat) = lenAt 5 from rfl] at h'
    exact ⟨rfl, h', hg⟩
  · refine (sinkLong_calls w g _ _ s.epoch a0 a1 (by decide) h).mono ?_
    rintro e w' ⟨rfl, h', hg⟩
    obtain ⟨e1, e2⟩ := over_put s 5 _ (by omega) rfl
    rw [e1, show lenAt 5 + 8 = lenAt 6 from rfl] at h'
    exact ⟨rfl, h', hg⟩

theorem blk_new' {w : World} {g : Nat} {o : Obj} (h : g = w.heap.size) : (w.alloc o).heap[g]? = some o := by subst h; exact blk_new _ _
theorem bl_alloc' {B : Nat} {w W : World} (h : Below B w W) (hB : B ≤ W.heap.size) (o : Obj) : Below B w (W.alloc o) := h.alloc hB o
def Parts (w : World) (h : Nat) (s : Sup) : Prop := ∃ cs t, w.heap[h]? = some (.cells cs t (0, 0)) ∧ ∀ k, k < 6 → cs[k * 2]? = some (.func (.func (fnAt k)) #[] #[]) ∧ cs[k * 2 + 1]? = some (.int .u64 (numAt s k))
theorem parts_cells {w : World} {h : Nat} {s : Sup} (hp : Parts w h s) (k : Nat) (hk : k < 6) : w.cell? ⟨h, k * 2, none⟩ = some (.func (.func (fnAt k)) #[] #[]) ∧ w.cell? ⟨h, k * 2 + 1, none⟩ = some (.int .u64 (numAt s k)) := by
  obtain ⟨cs, t, hb, hc⟩ := hp
  exact ⟨by rw [blk_cell hb]; exact (hc k hk).1, by rw [blk_cell hb]; exact (hc k hk).2⟩
theorem SnkP.below {w w' : World} {g k B : Nat} {s : Sup} (h : SnkP w g s k) (hb : Below B w w') (hg : g < B) : SnkP w' g s k := by
  obtain ⟨hl, cs, hc, he⟩ := h
  exact ⟨hl, cs, blk_below hb hc hg, he⟩
theorem Parts.below {w w' : World} {h B : Nat} {s : Sup} (hp : Parts w h s) (hb : Below B w w') (hg : h < B) : Parts w' h s := by
  obtain ⟨cs, t, hc, he⟩ := hp
  exact ⟨cs, t, blk_below hb hc hg, he⟩
theorem Parts.grown {w w' : World} {h g : Nat} {s : Sup} (hp : Parts w h s) (hb : w.grownBy w' (some g)) (hg : h ≠ g) : Parts w' h s := by
  obtain ⟨cs, t, hc, he⟩ := hp
  exact ⟨cs, t, by rw [hb.block h (blk_lt hc) (fun e => hg (Option.some.inj e))]; exact hc, he⟩
theorem below_grown {B g : Nat} {w w1 w2 : World} (h : Below B w w1) (hg : w1.grownBy w2 (some g)) (hB : B ≤ g) (hw : B ≤ w1.heap.size) : Below B w w2 :=
  ⟨hg.os.trans h.os, hg.tape.trans h.tape, hg.output.trans h.output, Nat.le_trans h.size hg.size, fun i hi => (hg.block i (by omega) (fun e => by have := Option.some.inj e; omega)).trans (h.block i hi)⟩

theorem run_callFunc {P : Program} {f : FuncId} {fn : Func} (hf : P.funcs[f]? = some fn) (hn : (fn.name == "runtime.NumGoroutine") = false) (hb : fn.body.isNone = false) (args : Array Value) (W : World) :
    (callFunc f args).run P W = .ok (.enter f args) W := by
  have hn' : ¬ fn.name = "runtime.NumGoroutine" := by simpa using hn
  have hb' : ¬ fn.body = none := by intro e; simp [e] at hb
  simp [callFunc, hf, go_sem, hn', hb']
theorem callFn (k : Nat) (hk : k < 6) : ∀ (args : Array Value) (W : World), (callFunc (fnAt k) args).run Tryz.prog W = .ok (.enter (fnAt k) args) W := by
  intro args W
  rcases (show k = 0 ∨ k = 1 ∨ k = 2 ∨ k = 3 ∨ k = 4 ∨ k = 5 by omega) with rfl | rfl | rfl | rfl | rfl | rfl 
  · exact run_callFunc Tryz.func196 (by rfl) (by rfl) _ _
  · exact run_callFunc Tryz.func197 (by rfl) (by rfl) _ _
  · exact run_callFunc Tryz.func197 (by rfl) (by rfl) _ _
  · exact run_callFunc Tryz.func197 (by rfl) (by rfl) _ _
  · exact run_callFunc Tryz.func198 (by rfl) (by rfl) _ _
  · exact run_callFunc Tryz.func196 (by rfl) (by rfl) _ _
set_option maxRecDepth 100000 in
theorem put_calls (w : World) (s : Sup) (hs : s.ok) :
    Calls Tryz.prog 171 #[supV s] w fun e w' => ∃ g, e = .returned (.slice (some ⟨g, 0, none⟩) 32 32) ∧ Rd by1 1 w' (some ⟨g, 0, none⟩) (put s) ∧ w.heap.size ≤ g ∧ Below w.heap.size w w' := by
  have HS := Lib.hid hs
  obtain ⟨⟨a0, a1⟩, ⟨b0, b1⟩, ⟨c0, c1⟩, ⟨d0, d1⟩⟩ := hs
  unfold supV
  go_enter Tryz.func171, Tryz.ntmps171
  go_wp2
  go_loopg [31] 6 (fun n i wr => ∃ k : Nat, i = .int .i64 k ∧ k + n = 6 ∧ Hid (SnkP wr (w.heap.size + 1) s k) ∧ Hid (Parts wr (w.heap.size + 1 + 1) s) ∧ Hid (Below w.heap.size w wr) ∧ Hid (w.heap.size + 1 + 1 < wr.heap.size))
  case atStart =>
    refine ⟨0, rfl, rfl, ?_, ?_, ?_, ?_⟩
    · show SnkP _ _ _ _
      refine ⟨by simp [putAt, over_nil, zeros], _, blk_alloc (blk_new' (by simp)) _, ?_⟩
      simp only [putAt, List.take_zero, List.flatten_nil, over_nil]
      rfl
    · show Parts _ _ _
      refine ⟨_, _, blk_new' (by simp), fun k hk => ?_⟩
      rcases (show k = 0 ∨ k = 1 ∨ k = 2 ∨ k = 3 ∨ k = 4 ∨ k = 5 by omega) with rfl | rfl | rfl | rfl | rfl | rfl <;> exact ⟨rfl, rfl⟩
    · show Below _ _ _
      exact bl_alloc (bl_alloc (bl_alloc (Below.refl _ _) _) _) _
    · show _ < _
      simp
  case round =>
    obtain ⟨k, rfl, hk, hsn, hpa, hb, hlt⟩ := hrel
    rcases Nat.lt_or_ge k 6 with hk6 | hk6
    · obtain ⟨p0, p1⟩ := parts_cells hpa.out k hk6
      have k6 : (k : Int) < 6 := by omega
      have hcall := Lib.hid (fun W h => part_calls s HS.out k hk6 (w.heap.size + 1) W h)
      have hcf := callFn k hk6
      generalize hfn : fnAt k = fk at *
      generalize hnm : numAt s k = nk at *
      have hst : (store ⟨wr.heap.size, 0, none⟩ (Value.func (Fn.func fk) #[] #[])).run Tryz.prog (wr.alloc (Obj.cells #[Value.nilFunc, Value.int IntKind.u64 0] 274)) = .ok () ((wr.alloc (Obj.cells #[Value.nilFunc, Value.int IntKind.u64 0] 274)).setCell ⟨wr.heap.size, 0, none⟩ (Value.func (Fn.func fk) #[] #[])) := by
        rw [run_store _ _ _ _ .plain rfl, blk_cell (blk_new _ _)]
        simp [blk_free (blk_new _ _)]
      go_wp2_with fail
      have hb1 : Hid (Below w.heap.size w (wr.alloc (Obj.cells #[Value.func (Fn.func fk) #[] #[], Value.int IntKind.u64 nk] 274))) := by show Below _ _ _; exact bl_alloc' hb.out hb.out.size _
      have hg1 : w.heap.size + 1 < wr.heap.size := by have := hlt.out; omega
      have bl1 := Lib.hid ((Below.refl wr.heap.size wr).alloc (Nat.le_refl _) (Obj.cells #[Value.func (Fn.func fk) #[] #[], Value.int IntKind.u64 nk] 274))
      refine (hcall.out _ (hsn.out.below bl1.out hg1)).mono ?_
      rintro e w1 ⟨rfl, hsn1, hgr1⟩
      have H1 := Lib.hid hsn1
      have H2 := Lib.hid hgr1
      have H3 := Lib.hid ((hpa.out.below bl1.out hlt.out).grown hgr1 (by omega))
      have H4 := Lib.hid (below_grown hb1.out hgr1 (by omega) hb1.out.size)
      have H5 : Hid (w.heap.size + 1 + 1 < w1.heap.size) := Nat.lt_of_lt_of_le (Nat.lt_of_lt_of_le hlt.out bl1.out.size) hgr1.size
      clear hsn1 hgr1 hst p0 p1 hcf
      go_wp2
      go_roundg (gk - 1)
      case measure => omega
      case rel => exact ⟨k + 1, by go_num, by omega, H1, H3, H4, H5⟩
    · obtain rfl : k = 6 := by omega
      go_wp2
      go_ret
      refine ⟨_, rfl, ?_, by omega, hb.out⟩
      have h := hsn.out
      obtain ⟨hl, cs, hc, he⟩ := h
      rw [put_all, over_all _ _ (by rw [put_len]; rfl)] at he
      refine .inr ⟨_, _, rfl, blk_lt hc, fun i x hx j v hv => ?_⟩
      cases j with
      | succ j => simp [by1] at hv
      | zero =>
        simp [by1] at hv
        subst hv
        have hi := (List.getElem?_eq_some_iff.1 hx).1
        rw [blk_cell hc, ← Array.getElem?_toList, he, List.getElem?_append_left (by simp; omega), List.getElem?_map]
        simp [hx]
end Go.Proofs.YtikgplhcadomcaaGreat

namespace Go.Proofs.YtikgplhcadomcaaGreat
open Go.RowKit
set_option linter.unusedVariables false
set_option linter.unusedSimpArgs false

/-- The number of some bytes. -/
def num (xs : List Int) : Int := xs.foldl (fun n x => n * 256 + x) 0
def byteL (xs : List Int) : Prop := ∀ x ∈ xs, 0 ≤ x ∧ x ≤ 255
theorem num_snoc (xs : List Int) (x : Int) : num (xs ++ [x]) = num xs * 256 + x := by simp [num, List.foldl_append]
theorem num_rng : ∀ (k : Nat) (xs : List Int), byteL xs → k ≤ xs.length → 0 ≤ num (xs.take k) ∧ num (xs.take k) < 256 ^ k
  | 0, xs, h, hk => by simp [num]
  | k + 1, xs, h, hk => by
    obtain ⟨h0, h1⟩ := num_rng k xs h (by omega)
    rw [List.take_add_one, List.getElem?_eq_getElem (by omega)]
    simp only [Option.toList_some]
    rw [num_snoc]
    have := h xs[k] (List.getElem_mem _)
    rw [Int.pow_succ]
    omega

theorem or_low (n x : Int) (h0 : 0 ≤ n) (h1 : n < 72057594037927936) (h2 : 0 ≤ x) (h3 : x ≤ 255) : bits .or .u64 (n * 256) x = n * 256 + x := by
  obtain ⟨a, rfl⟩ : ∃ a : Nat, n = a := ⟨n.toNat, by omega⟩
  obtain ⟨b, rfl⟩ : ∃ b : Nat, x = b := ⟨x.toNat, by omega⟩
  have e : (a : Int) * 256 = ((a * 256 : Nat) : Int) := by simp
  rw [e, bits_or_u64_nat _ _ (by omega) (by omega)]
  have := Nat.shiftLeft_add_eq_or_of_lt (i := 8) (b := b) (by omega) a
  rw [Nat.shiftLeft_eq] at this
  rw [← this]
  simp
set_option maxRecDepth 100000 in
theorem number_calls (w : World) (A : Option Addr) (c : Nat) (xs : List Int) (hl : xs.length ≤ 8) (hx : byteL xs) (h : Rd by1 1 w A xs) :
    Calls Tryz.prog 214 #[.slice A xs.length c] w fun e w' => e = .returned (.int .u64 (num xs)) ∧ w = w' := by
  have HR := Lib.hid h
  clear h
  have HX := Lib.hid hx
  clear hx
  go_enter Tryz.func214, Tryz.ntmps214
  go_wp2
  go_loopg [3, 8] xs.length (fun n v i wr => ∃ k : Nat, v = .int .u64 (num (xs.take k)) ∧ i = .int .i64 k ∧ k + n = xs.length ∧ wr = w)
  case atStart => exact ⟨0, rfl, rfl, by omega, rfl⟩
  case round =>
    obtain ⟨k, rfl, rfl, hk, rfl⟩ := hrel
    rcases Nat.lt_or_ge k xs.length with hlt | hge
    · have hlt2 : (k : Int) < (xs.length : Int) := by omega
      have hnx : Hid (num (xs.take (k + 1)) = num (xs.take k) * 256 + xs[k]) := by
        show _ = _
        rw [List.take_add_one, List.getElem?_eq_getElem hlt]
        exact num_snoc _ _
      obtain ⟨hn0, hn1⟩ := num_rng k xs HX.out (by omega)
      obtain ⟨x0, x1⟩ := HX.out xs[k] (List.getElem_mem _)
      have hn2 : num (xs.take k) < 72057594037927936 := by
        refine Int.lt_of_lt_of_le hn1 ?_
        have : (256 : Nat) ^ k ≤ 256 ^ 7 := Nat.pow_le_pow_right (by omega) (by omega)
        have h2 : (((256 : Nat) ^ k : Nat) : Int) ≤ ((256 ^ 7 : Nat) : Int) := by exact_mod_cast this
        simpa using h2
      rcases HR.out with h0 | ⟨b, off, rfl, hbl, hcell⟩
      · simp [h0] at hlt
      have c1 : wr.cell? ⟨b, off + k, none⟩ = some (.int .u8 xs[k]) := by have := hcell k xs[k] (by simp [hlt]) 0 _ rfl; simpa using this
      generalize xs[k] = x at *
      clear hcell hn1
      generalize num (xs.take k) = n at *
      have hor := or_low n x hn0 hn2 x0 x1
      go_wp2
      go_roundg (gk - 1)
      case measure => omega
      case rel => exact ⟨k + 1, by rw [hnx.out], by go_num, by omega, rfl⟩
    · obtain rfl : k = xs.length := by omega
      have hfin : Hid (num (xs.take xs.length) = num xs) := by show _ = _; simp
      go_wp2
      go_ret
      exact ⟨by rw [← hfin.out]; rfl, rfl⟩
end Go.Proofs.YtikgplhcadomcaaGreat

namespace Go.Proofs.YtikgplhcadomcaaGreat
open Go.RowKit Go.ChangeShapes Go.WideShapes Go.Deep
set_option linter.unusedVariables false
set_option linter.unusedSimpArgs false

def Bytes (w : World) (v : Value) (b : List Int) : Prop := ∃ A c, v = .slice A b.length c ∧ b.length ≤ c ∧ byteL b ∧ Rd by1 1 w A b
section
variable {H : Type} {he : TypeId × Value → H} {W : World} {base : Nat} {spare : Nat → Bool} {held : Bool}
end
end Go.Proofs.YtikgplhcadomcaaGreat

namespace Go.Proofs.YtikgplhcadomcaaGreat
open Go.RowKit
set_option linter.unusedVariables false
set_option linter.unusedSimpArgs false

section
variable {α : Type}
/-- What stands at key k, and where. -/
def at? (k : Int) : List (Int × α) → Nat → Option (Nat × α)
  | [], _ => none
  | p :: l, i => if k = p.1 then some (i, p.2) else at? k l (i + 1)
/-- What stands at key k. -/
def look (L : List (Int × α)) (k : Int) : Option α := (at? k L 0).map (·.2)
def MapI (w : World) (b : Nat) (enc : α → Value) (L : List (Int × α)) : Prop :=
  ∃ es clock, w.heap[b]? = some (.map es clock) ∧ es.toList.map (fun e => (e.key, e.val)) = L.map (fun p => (Value.int .i64 p.1, enc p.2)) ∧ (L.map (·.1)).Nodup
theorem at_shift (k : Int) : ∀ (L : List (Int × α)) (i j : Nat), (at? k L (i + j)) = (at? k L i).map (fun p => (p.1 + j, p.2))
  | [], _, _ => rfl
  | p :: l, i, j => by
    unfold at?
    split
    · rfl
    · rw [show i + j + 1 = (i + 1) + j from by omega, at_shift k l (i + 1) j]
theorem findNow_int (enc : α → Value) (q : IntKind) (k : Int) : ∀ (L : List (Int × α)) (es : List MapEntry) (i : Nat), es.map (fun e => (e.key, e.val)) = L.map (fun p => (Value.int .i64 p.1, enc p.2)) →
    Instr.findNow (.int q) (.int .i64 k) es i = some ((at? k L i).map (fun p => (p.1, enc p.2)))
  | [], es, i, h => by
    cases es with
    | nil => rfl
    | cons e es => simp at h
  | p :: L, es, i, h => by
    cases es with
    | nil => simp at h
    | cons e es =>
      simp only [List.map_cons, List.cons.injEq, Prod.mk.injEq] at h
      obtain ⟨⟨h1, h2⟩, h3⟩ := h
      unfold Instr.findNow at?
      rw [h1]
      simp only [Instr.sameNow, if_true]
      by_cases hk : k = p.1
      · simp [hk, h2]
      · have : (k == p.1) = false := by simpa using hk
        simp only [this, if_neg hk]
        exact findNow_int enc q k L es (i + 1) h3

variable {P : Program} {w : World} {b : Nat} {enc : α → Value} {L : List (Int × α)} {t kt et : TypeId}
theorem MapI.lt (h : MapI w b enc L) : b < w.heap.size := by obtain ⟨es, c, hb, _⟩ := h; exact (Array.getElem?_eq_some_iff.1 hb).1
theorem MapI.below {w' : World} {B : Nat} (h : MapI w b enc L) (hb : Below B w w') (hB : b < B) : MapI w' b enc L := by
  obtain ⟨es, c, h1, r⟩ := h
  exact ⟨es, c, by rw [hb.block b hB]; exact h1, r⟩
theorem MapI.grown {w' : World} {row : Option Nat} (h : MapI w b enc L) (hg : w.grownBy w' row) (hne : some b ≠ row) : MapI w' b enc L := by
  have hlt := h.lt
  obtain ⟨es, c, h1, r⟩ := h
  exact ⟨es, c, by rw [hg.block b hlt hne]; exact h1, r⟩
theorem MapI.nodup (h : MapI w b enc L) : (L.map (·.1)).Nodup := h.choose_spec.choose_spec.2.2
theorem run_look (ht : P.underlying t = some (.map kt et)) (hk : P.underlying kt = some (.int .i64)) (z : Value) (hz : (zeroValue et).run P w = .ok z w) (h : MapI w b enc L) (k : Int) :
    (Instr.lookup t (.map (some b)) (.int .i64 k) false).run P w = .ok (((look L k).map enc).getD z) w := by
  obtain ⟨es, c, hb, he, hn⟩ := h
  have hf := MapKept.run_findKey (P := P) (w := w) hk (findNow_int enc .i64 k L es.toList 0 he)
  unfold look
  simp only [Instr.lookup, Sem.run_bind, run_underlying ht, Result.andThen_ok, MapKept.run_getObj_map hb, Sem.run_pure, MapKept.run_checkKey hk (show MapKept.IsKey (.int .i64) (.int .i64 k) from by simp [MapKept.IsKey]) es.isEmpty 9999, hf]
  cases at? k L 0 with
  | none => simp [hz]
  | some p => simp

/-- The list behind a store at k. -/
def upd (L : List (Int × α)) (k : Int) (x : α) : List (Int × α) := match at? k L 0 with
  | some (j, _) => L.set j (k, x)
  | none => L ++ [(k, x)]
def del (L : List (Int × α)) (k : Int) : List (Int × α) := match at? k L 0 with
  | some (j, _) => L.eraseIdx j
  | none => L
theorem at_spec (k : Int) : ∀ (L : List (Int × α)), (at? k L 0 = none ∧ ∀ p ∈ L, p.1 ≠ k) ∨ ∃ j x, at? k L 0 = some (j, x) ∧ L[j]? = some (k, x)
  | [] => .inl ⟨rfl, fun p hp => by cases hp⟩
  | p :: L => by
    unfold at?
    by_cases hk : k = p.1
    · right
      exact ⟨0, p.2, by rw [if_pos hk], by rw [hk]; rfl⟩
    · rw [if_neg hk, at_shift k L 0 1]
      rcases at_spec k L with ⟨h1, h2⟩ | ⟨j, x, h1, h2⟩
      · left
        refine ⟨by rw [h1]; rfl, fun q hq => ?_⟩
        rcases List.mem_cons.1 hq with rfl | hq
        · exact fun e => hk e.symm
        · exact h2 q hq
      · right
        exact ⟨j + 1, x, by rw [h1]; rfl, by simpa using h2⟩
theorem look_none {k : Int} {L : List (Int × α)} (h : ∀ p ∈ L, p.1 ≠ k) : look L k = none := by
  rcases at_spec k L with ⟨h1, _⟩ | ⟨j, x, _, h2⟩
  · simp [look, h1]
  · exact absurd rfl (h _ (List.mem_of_getElem? h2))
theorem look_some {k : Int} {x : α} {L : List (Int × α)} (hn : (L.map (·.1)).Nodup) (h : (k, x) ∈ L) : look L k = some x := by
  rcases at_spec k L with ⟨h1, h2⟩ | ⟨j, y, h1, h2⟩
  · exact absurd rfl (h2 _ h)
  · have hm := List.mem_of_getElem? h2
    have : x = y := by
      clear h1 h2
      induction L with
      | nil => cases h
      | cons p L ih =>
        simp only [List.map_cons, List.nodup_cons] at hn
        rcases List.mem_cons.1 h with rfl | h'
        · rcases List.mem_cons.1 hm with e | hm
          · cases e; rfl
          · exact (hn.1 (List.mem_map.2 ⟨_, hm, rfl⟩)).elim
        · rcases List.mem_cons.1 hm with e | hm
          · cases e; exact (hn.1 (List.mem_map.2 ⟨_, h', rfl⟩)).elim
          · exact ih hn.2 h' hm
    simp [look, h1, this]

theorem at_parts (k : Int) (L : List (Int × α)) : at? k L 0 = none ∧ (∀ p ∈ L, p.1 ≠ k) ∨ ∃ A x B, L = A ++ (k, x) :: B ∧ at? k L 0 = some (A.length, x) := by
  rcases at_spec k L with h | ⟨j, x, h1, h2⟩
  · exact .inl h
  · right
    obtain ⟨hj, he⟩ := List.getElem?_eq_some_iff.1 h2
    refine ⟨L.take j, x, L.drop (j + 1), ?_, by rw [h1, List.length_take]; congr 2; omega⟩
    rw [← he, ← List.drop_eq_getElem_cons hj, List.take_append_drop]
theorem nodup_mid {A B : List (Int × α)} {k : Int} {x : α} (h : ((A ++ (k, x) :: B).map (·.1)).Nodup) : (∀ p ∈ A ++ B, p.1 ≠ k) ∧ ((A ++ B).map (·.1)).Nodup := by
  simp only [List.map_append, List.map_cons, List.nodup_append, List.nodup_cons, List.mem_cons, List.mem_map] at h ⊢
  obtain ⟨h1, ⟨h2, h3⟩, h4⟩ := h
  refine ⟨fun p hp e => ?_, h1, h3, fun a ha b hb => h4 a ha b (.inr hb)⟩
  rcases List.mem_append.1 hp with hp | hp
  · exact h4 p.1 ⟨p, hp, rfl⟩ k (.inl rfl) e
  · exact h2 ⟨p, hp, e⟩
theorem upd_nodup {L : List (Int × α)} (h : (L.map (·.1)).Nodup) (k : Int) (x : α) : ((upd L k x).map (·.1)).Nodup := by
  unfold upd
  rcases at_parts k L with ⟨h1, h2⟩ | ⟨A, y, B, rfl, h1⟩
  · rw [h1]
    simp only [List.map_append, List.nodup_append]
    refine ⟨h, by simp, fun a ha b hb e => ?_⟩
    obtain ⟨p, hp, rfl⟩ := List.mem_map.1 ha
    simp at hb
    exact h2 p hp (e.trans hb)
  · rw [h1]
    simpa using h
theorem del_nodup {L : List (Int × α)} (h : (L.map (·.1)).Nodup) (k : Int) : ((del L k).map (·.1)).Nodup := by
  unfold del
  rcases at_parts k L with ⟨h1, h2⟩ | ⟨A, y, B, rfl, h1⟩
  · rw [h1]; exact h
  · rw [h1]
    simp only [List.eraseIdx_append_of_length_le (Nat.le_refl _), Nat.sub_self, List.eraseIdx_cons_zero]
    exact (nodup_mid h).2
theorem look_iff {L : List (Int × α)} (hn : (L.map (·.1)).Nodup) (k : Int) (x : α) : look L k = some x ↔ (k, x) ∈ L := by
  constructor
  · intro h
    rcases at_spec k L with ⟨h1, _⟩ | ⟨j, y, h1, h2⟩
    · simp [look, h1] at h
    · simp [look, h1] at h
      subst h
      exact List.mem_of_getElem? h2
  · exact look_some hn
theorem look_upd {L : List (Int × α)} (hn : (L.map (·.1)).Nodup) (k : Int) (x : α) (j : Int) : look (upd L k x) j = if j = k then some x else look L j := by
  by_cases hj : j = k
  · subst hj
    rw [if_pos rfl]
    refine look_some (upd_nodup hn _ _) ?_
    unfold upd
    rcases at_parts j L with ⟨h1, h2⟩ | ⟨A, y, B, rfl, h1⟩
    · rw [h1]; simp
    · rw [h1]; simp
  · rw [if_neg hj]
    have key : ∀ y, look (upd L k x) j = some y ↔ look L j = some y := by
      intro y
      rw [look_iff (upd_nodup hn _ _), look_iff hn]
      unfold upd
      rcases at_parts k L with ⟨h1, h2⟩ | ⟨A, z, B, rfl, h1⟩
      · rw [h1]; simp [hj]
      · rw [h1]; simp [hj]
    cases h : look L j with
    | some y => exact (key y).2 h
    | none =>
      cases h2 : look (upd L k x) j with
      | none => rfl
      | some y => rw [(key y).1 h2] at h; cases h
theorem look_del {L : List (Int × α)} (hn : (L.map (·.1)).Nodup) (k : Int) (j : Int) : look (del L k) j = if j = k then none else look L j := by
  by_cases hj : j = k
  · subst hj
    rw [if_pos rfl]
    refine look_none fun p hp => ?_
    unfold del at hp
    rcases at_parts j L with ⟨h1, h2⟩ | ⟨A, y, B, rfl, h1⟩
    · rw [h1] at hp; exact h2 p hp
    · rw [h1] at hp
      simp only [List.eraseIdx_append_of_length_le (Nat.le_refl _), Nat.sub_self, List.eraseIdx_cons_zero] at hp
      exact (nodup_mid hn).1 p hp
  · rw [if_neg hj]
    have key : ∀ y, look (del L k) j = some y ↔ look L j = some y := by
      intro y
      rw [look_iff (del_nodup hn _), look_iff hn]
      unfold del
      rcases at_parts k L with ⟨h1, h2⟩ | ⟨A, z, B, rfl, h1⟩
      · rw [h1]
      · rw [h1]
        simp only [List.eraseIdx_append_of_length_le (Nat.le_refl _), Nat.sub_self, List.eraseIdx_cons_zero]
        simp [hj]
    cases h : look L j with
    | some y => exact (key y).2 h
    | none =>
      cases h2 : look (del L k) j with
      | none => rfl
      | some y => rw [(key y).1 h2] at h; cases h

theorem map_erase {β γ : Type} (f : β → γ) (l : List β) (i : Nat) : (l.eraseIdx i).map f = (l.map f).eraseIdx i := by
  simp [List.eraseIdx_eq_take_drop_succ, List.map_take, List.map_drop]
theorem mapI_set {w : World} {b : Nat} {es es' : Array MapEntry} {clock clock' : Nat} {L' : List (Int × α)} (hb : w.heap[b]? = some (.map es clock))
    (he : es'.toList.map (fun e => (e.key, e.val)) = L'.map (fun p => (Value.int .i64 p.1, enc p.2))) (hn : (L'.map (·.1)).Nodup) :
    MapI { w with heap := w.heap.setIfInBounds b (.map es' clock') } b enc L' ∧ w.grownBy { w with heap := w.heap.setIfInBounds b (.map es' clock') } (some b) := by
  have hlt := (Array.getElem?_eq_some_iff.1 hb).1
  refine ⟨⟨es', clock', by simp [Array.getElem?_setIfInBounds, hlt], he, hn⟩, rfl, rfl, rfl, by simp, fun k hk hne => ?_⟩
  show (w.heap.setIfInBounds b _)[k]? = _
  rw [Array.getElem?_setIfInBounds_ne (fun e => hne (by rw [e]))]
theorem run_upd (ht : P.underlying t = some (.map kt et)) (hk : P.underlying kt = some (.int .i64)) (h : MapI w b enc L) (k : Int) (x : α) :
    ∃ w', (Instr.mapUpdate t (.map (some b)) (.int .i64 k) (enc x)).run P w = .ok () w' ∧ MapI w' b enc (upd L k x) ∧ w.grownBy w' (some b) := by
  obtain ⟨es, c, hb, he, hn⟩ := h
  have hf := MapKept.run_findKey (P := P) (w := w) hk (findNow_int enc .i64 k L es.toList 0 he)
  have hck := fun e => MapKept.run_checkKey (P := P) (w := w) hk (show MapKept.IsKey (.int .i64) (.int .i64 k) from by simp [MapKept.IsKey]) e 9999
  have hnu := upd_nodup hn k x
  unfold upd at hnu ⊢
  rcases at_parts k L with ⟨h1, h2⟩ | ⟨A, y, B, rfl, h1⟩
  · rw [h1] at hf hnu ⊢
    obtain ⟨m1, m2⟩ := mapI_set (enc := enc) (clock' := c + 1) (es' := es.push { key := .int .i64 k, val := enc x, born := c }) hb (by simp [he]) hnu
    refine ⟨_, ?_, m1, m2⟩
    simp [Instr.mapUpdate, Sem.run_bind, run_underlying ht, MapKept.run_getObj_map hb, hck, hf, MapKept.run_setObj_map _ hb]
  · rw [h1] at hf hnu ⊢
    have hlen : es.toList.length = (A ++ (k, y) :: B).length := by have := congrArg List.length he; simpa using this
    have hi : A.length < es.toList.length := by rw [hlen]; simp
    have hkey : (es.toList[A.length]'hi).key = .int .i64 k := by
      have := congrArg (fun l => l[A.length]?) he
      simp [List.getElem?_map, List.getElem?_eq_getElem hi] at this
      exact this.1
    have hi2 : A.length < es.size := by simpa using hi
    have hkey2 : es[A.length].key = .int .i64 k := by simpa using hkey
    obtain ⟨m1, m2⟩ := mapI_set (enc := enc) (clock' := c) (es' := es.modify A.length fun e => { e with key := .int .i64 k, val := enc x }) (L' := (A ++ (k, y) :: B).set A.length (k, x)) hb (by
      rw [Array.toList_modify]
      have e1 : ((A ++ (k, y) :: B).set A.length (k, x)).map (fun p => (Value.int .i64 p.1, enc p.2)) = ((A ++ (k, y) :: B).map (fun p => (Value.int .i64 p.1, enc p.2))).set A.length (.int .i64 k, enc x) := by simp
      rw [e1, ← he]
      apply List.ext_getElem?
      intro j
      simp only [List.getElem?_map, List.getElem?_modify, List.getElem?_set, List.length_map]
      by_cases hj : A.length = j
      · subst hj; simp [List.getElem?_eq_getElem hi, hi2]
      · simp [hj]) hnu
    refine ⟨_, ?_, m1, m2⟩
    simp [Instr.mapUpdate, Sem.run_bind, run_underlying ht, MapKept.run_getObj_map hb, hck, hf, MapKept.run_setObj_map _ hb, Instr.keyThatStays, hi2, hkey2, Instr.sameBits]
theorem run_del (ht : P.underlying t = some (.map kt et)) (hk : P.underlying kt = some (.int .i64)) (h : MapI w b enc L) (k : Int) (ty : TypeId) :
    ∃ w', (Builtin.delete_ #[t, kt] ty #[.map (some b), .int .i64 k]).run P w = .ok (.tuple #[]) w' ∧ MapI w' b enc (del L k) ∧ w.grownBy w' (some b) := by
  obtain ⟨es, c, hb, he, hn⟩ := h
  have hf := MapKept.run_findKey (P := P) (w := w) hk (findNow_int enc .i64 k L es.toList 0 he)
  have hck := fun e => MapKept.run_checkKey (P := P) (w := w) hk (show MapKept.IsKey (.int .i64) (.int .i64 k) from by simp [MapKept.IsKey]) e 9999
  have hnu := del_nodup hn k
  unfold del at hnu ⊢
  rcases at_parts k L with ⟨h1, h2⟩ | ⟨A, y, B, rfl, h1⟩
  · rw [h1] at hf hnu ⊢
    obtain ⟨m1, m2⟩ := mapI_set (enc := enc) (clock' := c) (es' := es) hb he hnu
    refine ⟨_, ?_, m1, m2⟩
    simp [Builtin.delete_, Sem.run_bind, run_underlying ht, MapKept.run_getObj_map hb, hck, hf, MapKept.run_setObj_map _ hb]
  · rw [h1] at hf hnu ⊢
    have hlen : es.toList.length = (A ++ (k, y) :: B).length := by have := congrArg List.length he; simpa using this
    obtain ⟨m1, m2⟩ := mapI_set (enc := enc) (clock' := c) (es' := es.eraseIdxIfInBounds A.length) (L' := (A ++ (k, y) :: B).eraseIdx A.length) hb (by
      rw [Array.toList_eraseIdxIfInBounds, map_erase, he, ← map_erase]) hnu
    refine ⟨_, ?_, m1, m2⟩
    simp [Builtin.delete_, Sem.run_bind, run_underlying ht, MapKept.run_getObj_map hb, hck, hf, MapKept.run_setObj_map _ hb]
end
end Go.Proofs.YtikgplhcadomcaaGreat

namespace Go.Proofs.YtikgplhcadomcaaGreat
open Go.RowKit
set_option linter.unusedVariables false
set_option linter.unusedSimpArgs false

/-- Of the blocks that lay, those of F alone may have changed. -/
structure Chg (F : Nat → Prop) (w w' : World) : Prop where
  os : w'.os = w.os
  tape : w'.tape = w.tape
  output : w'.output = w.output
  size : w.heap.size ≤ w'.heap.size
  block : ∀ k, k < w.heap.size → ¬ F k → w'.heap[k]? = w.heap[k]?

section
variable {F G : Nat → Prop} {w w' w'' : World}
theorem Chg.refl (F : Nat → Prop) (w : World) : Chg F w w := ⟨rfl, rfl, rfl, Nat.le_refl _, fun _ _ _ => rfl⟩
theorem Chg.trans (h : Chg F w w') (k : Chg G w' w'') (hG : ∀ i, i < w.heap.size → G i → F i) : Chg F w w'' :=
  ⟨k.os.trans h.os, k.tape.trans h.tape, k.output.trans h.output, Nat.le_trans h.size k.size, fun i hi hn => (k.block i (Nat.lt_of_lt_of_le hi h.size) (fun hg => hn (hG i hi hg))).trans (h.block i hi hn)⟩
theorem Chg.mono (h : Chg F w w') (hG : ∀ i, i < w.heap.size → F i → G i) : Chg G w w' := ⟨h.os, h.tape, h.output, h.size, fun i hi hn => h.block i hi (fun hf => hn (hG i hi hf))⟩
theorem Below.chg (h : Below w.heap.size w w') (F : Nat → Prop) : Chg F w w' := ⟨h.os, h.tape, h.output, h.size, fun i hi _ => h.block i hi⟩
theorem Chg.below {B : Nat} (h : Chg F w w') (hB : B ≤ w.heap.size) (hF : ∀ i, F i → B ≤ i) : Below B w w' :=
  ⟨h.os, h.tape, h.output, h.size, fun i hi => h.block i (Nat.lt_of_lt_of_le hi hB) (fun hf => by have := hF i hf; omega)⟩
theorem Chg.grown {g : Nat} (h : w.grownBy w' (some g)) (hF : F g) : Chg F w w' := ⟨h.os, h.tape, h.output, h.size, fun i hi hn => h.block i hi (fun e => by cases e; exact hn hF)⟩
theorem Chg.grownO {row : Option Nat} (h : w.grownBy w' row) (hF : ∀ g, row = some g → F g) : Chg F w w' := ⟨h.os, h.tape, h.output, h.size, fun i hi hn => h.block i hi (fun e => hn (hF i e.symm))⟩
theorem Chg.set {g i : Nat} (w : World) (v : Value) (hF : F g) : Chg F w (w.setCell ⟨g, i, none⟩ v) := Chg.grown (grown_set w g i v) hF
theorem Chg.alloc (w : World) (o : Obj) (F : Nat → Prop) : Chg F w (w.alloc o) := Below.chg ((Below.refl _ w).alloc (Nat.le_refl _) o) F
theorem Chg.drew (w : World) (F : Nat → Prop) : Chg F w w.drew := Below.chg (Below.refl _ w).drew F
theorem Chg.blk {o : Obj} {g : Nat} (h : Chg F w w') (hb : w.heap[g]? = some o) (hg : ¬ F g) : w'.heap[g]? = some o := by rw [h.block g (blk_lt hb) hg]; exact hb
theorem MapI.chg {α : Type} {enc : α → Value} {L : List (Int × α)} {b : Nat} (h : MapI w b enc L) (hc : Chg F w w') (hb : ¬ F b) : MapI w' b enc L := by
  have hlt := h.lt
  obtain ⟨es, c, h1, r⟩ := h
  exact ⟨es, c, hc.blk h1 hb, r⟩
theorem Own.blk {α : Type} {enc : α → List Value} {sz e base : Nat} {v : Value} {xs : List α} (h : Own enc sz e base w v xs) (hk : ∀ k, v.ownBlock = some k → w'.heap[k]? = w.heap[k]?) : Own enc sz e base w' v xs := by
  refine ⟨h.1, ?_⟩
  rcases h.2 with h0 | ⟨g, cap, cur, rfl, hb, hh, r⟩
  · exact .inl h0
  · exact .inr ⟨g, cap, cur, rfl, hb, by rw [hk g rfl]; exact hh, r⟩
theorem Own.chg {α : Type} {enc : α → List Value} {sz e base : Nat} {v : Value} {xs : List α} (h : Own enc sz e base w v xs) (hc : Chg F w w') (hF : ∀ k, v.ownBlock = some k → ¬ F k) : Own enc sz e base w' v xs :=
  h.blk fun k hk => hc.block k (h.lt k hk).2 (hF k hk)
theorem Rd.chg {α : Type} {enc : α → List Value} {sz : Nat} {A : Option Addr} {xs : List α} (h : Rd enc sz w A xs) (hc : Chg F w w') (hA : ∀ a, A = some a → ¬ F a.block) : Rd enc sz w' A xs := by
  rcases h with h | ⟨b, off, rfl, hlt, hcs⟩
  · exact .inl h
  · refine .inr ⟨b, off, rfl, Nat.lt_of_lt_of_le hlt hc.size, fun k x hx j v hv => ?_⟩
    rw [World.cell?_of_block (w := w) (hc.block b hlt (hA _ rfl))]
    exact hcs k x hx j v hv
/-- An element of a row, as a range of cells. -/
theorem Rd.range {α : Type} {enc : α → List Value} {sz : Nat} {b off : Nat} {xs : List α} (h : Rd enc sz w (some ⟨b, off, none⟩) xs) {i : Nat} {x : α} (hx : xs[i]? = some x) : w.rangeAt b (off + i * sz) (enc x) := by
  rcases h with h | ⟨b', off', heq, hlt, hc⟩
  · subst h; simp at hx
  · cases heq
    intro j v hv
    exact hc i x hx j v hv
theorem range_blk {g o : Nat} {cs : Array Value} {l : List Value} {t : TypeId} {fr : Nat × Nat} (h : w.heap[g]? = some (.cells cs t fr)) (hl : ∀ j v, l[j]? = some v → cs[o + j]? = some v) : w.rangeAt g o l := by
  intro j v hv
  rw [blk_cell h]
  exact hl j v hv
theorem there_blk {g o n : Nat} {cs : Array Value} {t : TypeId} (h : w.heap[g]? = some (.cells cs t (0, 0))) (hl : o + n ≤ cs.size) : w.there g o n := by
  intro j hj
  rw [blk_cell h, blk_free h]
  exact ⟨by simp [Array.getElem?_eq_getElem (show o + j < cs.size from by omega)], rfl⟩
end
theorem setCells_grown (b : Nat) : ∀ (vs : List Value) (o : Nat) (w : World), w.grownBy (w.setCells b o vs) (some b)
  | [], _, w => grown_refl w _
  | v :: r, o, w => grown_trans (grown_set w b o v) (setCells_grown b r (o + 1) _)
theorem setCells_blk {b : Nat} {t : TypeId} {fr : Nat × Nat} : ∀ (vs : List Value) (o : Nat) (w : World) (cs : Array Value), w.heap[b]? = some (.cells cs t fr) → o + vs.length ≤ cs.size →
    (w.setCells b o vs).heap[b]? = some (.cells (cs.toList.take o ++ vs ++ cs.toList.drop (o + vs.length)).toArray t fr)
  | [], o, w, cs, h, hl => by simpa [World.setCells] using h
  | v :: r, o, w, cs, h, hl => by
    have hl' : o + r.length + 1 ≤ cs.size := by simpa [Nat.add_assoc] using hl
    rw [World.setCells, setCells_blk r (o + 1) _ _ (blk_set h o v) (by simp; omega)]
    congr 3
    have e : (cs.setIfInBounds o v).toList = cs.toList.set o v := by simp
    rw [e]
    have ho : o < cs.toList.length := by simp; omega
    rw [List.take_set, List.drop_set_of_lt (by omega), List.take_succ_eq_append_getElem ho, List.set_append_right _ _ (by simp; omega)]
    simp [Nat.min_eq_left (show o ≤ cs.size from by omega), show o + 1 + r.length = o + (r.length + 1) from by omega]
/-- No block of cells has changed. -/
def Kept (w w' : World) : Prop := ∀ (i : Nat) (cs : Array Value) (t : TypeId) (fr : Nat × Nat), w.heap[i]? = some (.cells cs t fr) → w'.heap[i]? = some (.cells cs t fr)
section
variable {w w' w'' : World}
theorem Kept.refl (w : World) : Kept w w := fun _ _ _ _ h => h
theorem Kept.trans (h : Kept w w') (k : Kept w' w'') : Kept w w'' := fun i cs t fr e => k i cs t fr (h i cs t fr e)
theorem Kept.below (h : Below w.heap.size w w') : Kept w w' := fun i cs t fr e => by rw [h.block i (blk_lt e)]; exact e
theorem Kept.alloc (h : Kept w w') (o : Obj) : Kept w (w'.alloc o) := h.trans (Kept.below ((Below.refl _ w').alloc (Nat.le_refl _) o))
theorem kept_map {α : Type} {enc : α → Value} {L : List (Int × α)} {b : Nat} (h : MapI w b enc L) (hb : Below w.heap.size w w') (hg : w'.grownBy w'' (some b)) : Kept w w'' := fun i cs t fr e => by
  have hi := blk_lt e
  have hs := hb.size
  rw [hg.block i (by omega) (fun q => ?_), hb.block i hi]
  · exact e
  · cases q
    obtain ⟨es, c, h1, _⟩ := h
    rw [e] at h1
    cases h1
theorem cell_blk {a : Addr} {v : Value} (h : w.cell? a = some v) (ha : a.spot = none) : ∃ cs t fr, w.heap[a.block]? = some (.cells cs t fr) := by
  unfold World.cell? at h
  split at h <;> simp_all
theorem Rd.kept {α : Type} {enc : α → List Value} {sz : Nat} {A : Option Addr} {xs : List α} (h : Rd enc sz w A xs) (hk : Kept w w') (hs : w.heap.size ≤ w'.heap.size) : Rd enc sz w' A xs := by
  rcases h with h | ⟨b, off, rfl, hlt, hc⟩
  · exact .inl h
  · refine .inr ⟨b, off, rfl, by omega, fun k x hx j v hv => ?_⟩
    have h1 := hc k x hx j v hv
    obtain ⟨cs, t, fr, e⟩ := cell_blk h1 rfl
    rw [World.cell?_of_block (w := w) (show w'.heap[b]? = w.heap[b]? from by rw [hk _ _ _ _ e]; exact e.symm)]
    exact h1
end
end Go.Proofs.YtikgplhcadomcaaGreat

namespace Go.Proofs.YtikgplhcadomcaaGreat
open Go.RowKit
set_option linter.unusedVariables false
set_option linter.unusedSimpArgs false

section
variable {P : Program} (w : World)
theorem run_append_own_src (base : Nat) (t tx ty e : TypeId) (i : TypeInfo) (z : Value) (ht : P.underlying t = some (.slice e)) (hi : P.info? e = some i) (hz : i.zero = some z) (hzs : z.cells.size = i.size)
    (v : Value) (n : Nat) (xs : List Value) (hown : w.ownsRow base e i.size v n xs) (x : Value) (m : Nat) (news : List Value) (hs : Src P i.size tx x m news w)
    (h63 : n + m ≤ maxLen) (hbytes : (n + m) * i.bytes ≤ 140737488355328) (hbase : base ≤ w.heap.size) :
    ∃ v' w', (Builtin.append_ #[t, tx] ty #[v, x]).run P w = .ok v' w' ∧ w'.ownsRow base e i.size v' (n + m) (xs ++ news) ∧ w.grownBy w' v.ownBlock := by
  have hl := hs.newsLen
  have hsmall : n + m ≤ 9223372036854775807 := by simp only [maxLen] at h63; omega
  have hlen : (xs ++ news).length = (n + m) * i.size := by rw [List.length_append, hown.1, hl, Nat.add_mul]
  have grown : ∀ (old : Nat), old < n + m → ∀ (row : Option Nat),
      (w.drew.alloc (.cells ((xs ++ news).toArray ++ Builtin.zeroCells z.cells (grownCap w (n + m) old e - (n + m))) e)).ownsRow base e i.size
        (.slice (some ⟨w.heap.size, 0, none⟩) (n + m) (grownCap w (n + m) old e)) (n + m) (xs ++ news) ∧
      w.grownBy (w.drew.alloc (.cells ((xs ++ news).toArray ++ Builtin.zeroCells z.cells (grownCap w (n + m) old e - (n + m))) e)) row := by
    intro old ho row
    have hge := grownCap_ge w (n + m) old e
    have hcm : grownCap w (n + m) old e ≤ maxLen := grownCap_le_maxLen w (n + m) old e h63
    refine ⟨⟨hlen, .inr ⟨w.heap.size, _, _, rfl, hbase, blk_new w.drew _, hge, hcm, ?_, ?_⟩⟩, ⟨rfl, rfl, rfl, by simp, fun k hk _ => Below.heap_alloc w.drew _ k hk⟩⟩
    · rw [Array.size_append, List.size_toArray, hlen, size_zeroCells, hzs, ← Nat.add_mul]
      congr 1
      omega
    · simp only [Array.toList_append]
      rw [← hlen]
      exact List.take_left
  rcases hown.2 with ⟨rfl, rfl⟩ | ⟨g, cap, cur, rfl, hbg, hg, hnc, hcm, hcs, htake⟩
  · have hx : xs = [] := List.eq_nil_of_length_eq_zero (by simpa using hown.1)
    subst hx
    by_cases hm : m = 0
    · subst hm
      have hn : news = [] := List.eq_nil_of_length_eq_zero (by simpa using hl)
      subst hn
      exact ⟨_, w, run_append_nothing w t tx ty e i ht hi none 0 0 (Nat.le_refl _) x hs, World.ownsRow_nil w base e i.size, ⟨rfl, rfl, rfl, Nat.le_refl _, fun _ _ _ => rfl⟩⟩
    · have hr := run_append_grow_src (P := P) w t tx ty e i z ht hi hz none 0 0 [] (run_firstCells_none w.drew i.size 0 0 0) x m news hs (by omega) (by omega) (growslice_fits (by omega) hbytes)
      have hgr := grown 0 (by omega) (Value.ownBlock (.slice none 0 0))
      exact ⟨_, _, hr, hgr.1, hgr.2⟩
  · by_cases hroom : n + m ≤ cap
    · have hfit : n * i.size + news.length ≤ cur.size := by rw [hl, hcs, ← Nat.add_mul]; exact Nat.mul_le_mul_right _ hroom
      have hst := run_storeCells_at P g (n * i.size) e news 0 cur w hg (by simpa using hfit) hs.one
      simp only [Nat.add_zero] at hst
      have hr : (Builtin.append_ #[t, tx] ty #[.slice (some ⟨g, 0, none⟩) n cap, x]).run P w = .ok (.slice (some ⟨g, 0, none⟩) (n + m) cap) (w.setRow g (cur.toList.take (n * i.size) ++ news ++ cur.toList.drop (n * i.size + news.length)).toArray) := by
        rcases hs.kind with ⟨e', hk⟩ | hk <;> simp [Builtin.append_, run_underlying ht, run_underlying hk, sizeOf, typeInfo, hi, hs.len, hroom, hs.cells, Addr.add_lit, hst]
      refine ⟨_, _, hr, ⟨hlen, .inr ⟨g, cap, _, rfl, hbg, setRow_heap w g cur _ e _ hg, hroom, hcm, ?_, ?_⟩⟩, ⟨rfl, rfl, rfl, by simp, fun k _ hk => setRow_other w g k _ (fun e => hk (by simp [Value.ownBlock, e]))⟩⟩
      · simp only [List.size_toArray, List.length_append, List.length_take, List.length_drop, Array.length_toList]
        omega
      · rw [htake, ← hlen]
        exact List.take_left
    · have holds : ∀ j u, xs[j]? = some u → w.drew.cell? ((⟨g, 0, none⟩ : Addr).add j) = some u := hown.cells (g := g) rfl
      have hr := run_append_grow_src (P := P) w t tx ty e i z ht hi hz (some ⟨g, 0, none⟩) n cap xs (run_firstCells_some w.drew i.size n ⟨g, 0, none⟩ n cap xs hown.1 holds) x m news hs (by omega) (by omega) (growslice_fits (by omega) hbytes)
      have hgr := grown cap (by omega) (Value.ownBlock (.slice (some ⟨g, 0, none⟩) n cap))
      exact ⟨_, _, hr, hgr.1, hgr.2⟩
end

/-- append(v, x...), whatever x is (a slice, a text). -/
theorem op_ownS {α : Type} {enc : α → List Value} {sz : Nat} {P : Program} (he : Enc enc sz) {o : Oper} {a : Act} {W : World} {K : Act → World → Prop} {Q : Exit → Act → World → Prop} (s x : Operand) (t tx e : TypeId) (z : Value) (bytes : Nat)
    (ho : o.op = .call { callee := .builtin .append, args := #[s, x], argTypes := #[t, tx] }) (ht : P.underlying t = some (.slice e))
    (hinfo : (P.info? e).map (fun i => (i.zero, i.size, i.bytes)) = some (some z, sz, bytes)) (hz : z.cells.size = sz)
    (base : Nat) (v u : Value) (xs news : List α) (hs : a.eval s = v) (hx : a.eval x = u) (HO : Own enc sz e base W v xs) (hsrc : Src P sz tx u news.length (news.flatMap enc) W)
    (hbase : base ≤ W.heap.size) (hl : (xs.length + news.length) * bytes ≤ 140737488355328) (hl' : xs.length + news.length ≤ 140737488355328)
    (h : ∀ v' w', Own enc sz e base w' v' (xs ++ news) → W.grownBy w' v.ownBlock → K (a.put o.dst v') w') : Oper.wp P o a W K Q := by
  obtain ⟨i0, hi, hz0, hz1, hz2⟩ := info_parts hinfo
  subst hz1 hz2
  obtain ⟨v', w', hr, h2, h3⟩ := run_append_own_src (P := P) W base t tx o.type e i0 z ht hi hz0 hz v xs.length (xs.flatMap enc) HO u news.length (news.flatMap enc) hsrc (by simp only [maxLen]; omega) hl hbase
  unfold Oper.wp execOp
  simp only [ho, resolve, invoke, builtin, Sem.run_bind, Sem.run_pure, Result.andThen_ok, List.map_toArray, List.map_cons, List.map_nil, hs, hx, hr]
  exact h _ _ (by unfold Own; rw [List.flatMap_append, List.length_append]; exact h2) h3
end Go.Proofs.YtikgplhcadomcaaGreat
