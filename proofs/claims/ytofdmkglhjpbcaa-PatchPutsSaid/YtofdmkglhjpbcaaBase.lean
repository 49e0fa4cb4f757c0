/- Words that the other texts share: rows of flat elements in memory, and small lemmas on worlds. No program is named here. -/
import Derived.Below
import Derived.Deep.Draws
import Derived.OwnWalk
import Derived.WalkKit
import Derived.KernelRfl
import Derived.Lib.Hide
import Derived.WalkLawsBesides
import Derived.WalkSpells
import Derived.WalkSmall
import Derived.Carry
import Derived.Deep.LoopGhost
import Derived.Deep.QuietTactic
import Derived.BigQuiet
import Derived.Lib.SmallJoins
namespace Go.Proofs.Ytofdmkglhjpbcaa
open Go.RowKit
set_option linter.unusedVariables false
set_option linter.unusedSimpArgs false

/-- Texts. -/
abbrev Str := ByteArray

/-- Elements of 'sz' cells each, at an address; nothing is said of an empty row. -/
def Rd {α : Type} (enc : α → List Value) (sz : Nat) (w : World) (A : Option Addr) (xs : List α) : Prop :=
  xs = [] ∨ ∃ b off, A = some ⟨b, off, none⟩ ∧ b < w.heap.size ∧ ∀ (i : Nat) (x : α), xs[i]? = some x → ∀ (j : Nat) (v : Value), (enc x)[j]? = some v → w.cell? ⟨b, off + i * sz + j, none⟩ = some v

theorem Rd.below {α : Type} {enc : α → List Value} {sz : Nat} {w w' : World} {A : Option Addr} {xs : List α} {B : Nat} (h : Rd enc sz w A xs) (hb : Below B w w') (hB : w.heap.size ≤ B) : Rd enc sz w' A xs := by
  rcases h with h | ⟨b, off, rfl, hlt, hc⟩
  · exact .inl h
  · refine .inr ⟨b, off, rfl, Nat.lt_of_lt_of_le hlt hb.size, fun i x hx j v hv => ?_⟩
    rw [hb.cell (by show b < B; omega)]
    exact hc i x hx j v hv

/-! ### Texts held against each other, as the walk writes it -/
theorem toList_inj {a b : Str} (h : a.toList = b.toList) : a = b := by
  rw [ByteArray.toList_eq, ByteArray.toList_eq] at h
  cases a; cases b; simp_all
theorem str_eq {a b : Str} (h : a = b) : (a.toList == b.toList) = true := by subst h; simp
theorem str_ne {a b : Str} (h : ¬ a = b) : (a.toList == b.toList) = false := by
  rw [beq_eq_false_iff_ne]
  exact fun e => h (toList_inj e)

/-! ### 'Below' from the call's begin -/
theorem bl_alloc {w W : World} (h : Below w.heap.size w W) (o : Obj) : Below w.heap.size w (W.alloc o) := h.alloc h.size o
theorem bl_set {B g i : Nat} {w W : World} (h : Below B w W) (hg : B ≤ g) (v : Value) : Below B w (W.setCell ⟨g, i, none⟩ v) := h.setCell hg v
theorem bl_drewN {B : Nat} {w W : World} (h : Below B w W) (n : Nat) : Below B w (W.drewN n) := ⟨h.os, h.tape, h.output, h.size, h.block⟩
theorem bl_then {B : Nat} {w w1 w2 : World} (h : Below B w w1) (hB : B ≤ w1.heap.size) (k : Below w1.heap.size w1 w2) : Below B w w2 :=
  h.trans ⟨k.os, k.tape, k.output, k.size, fun i hi => k.block i (Nat.lt_of_lt_of_le hi hB)⟩

/-! ### A block that is known whole -/
section
variable {w : World} {g : Nat} {cs : Array Value} {t : TypeId} {fr : Nat × Nat}
theorem blk_lt {o : Obj} (h : w.heap[g]? = some o) : g < w.heap.size := (Array.getElem?_eq_some_iff.1 h).1
theorem blk_cell (h : w.heap[g]? = some (.cells cs t fr)) (i : Nat) : w.cell? ⟨g, i, none⟩ = cs[i]? := by simp [World.cell?, h]
theorem blk_free (h : w.heap[g]? = some (.cells cs t (0, 0))) (i : Nat) : w.frozen? ⟨g, i, none⟩ = false := by simp [World.frozen?, h]
theorem blk_new (w : World) (o : Obj) : (w.alloc o).heap[w.heap.size]? = some o := (Array.getElem?_push_size : (w.heap.push _)[w.heap.size]? = _)
theorem blk_alloc {o : Obj} (h : w.heap[g]? = some o) (o' : Obj) : (w.alloc o').heap[g]? = some o := by rw [Below.heap_alloc _ _ _ (blk_lt h)]; exact h
theorem blk_drew {o : Obj} (h : w.heap[g]? = some o) : w.drew.heap[g]? = some o := h
theorem blk_drewN {o : Obj} (h : w.heap[g]? = some o) (n : Nat) : (w.drewN n).heap[g]? = some o := h
theorem blk_below {o : Obj} {B : Nat} {w' : World} (hb : Below B w w') (h : w.heap[g]? = some o) (hg : g < B) : w'.heap[g]? = some o := by rw [hb.block g hg]; exact h
theorem blk_set (h : w.heap[g]? = some (.cells cs t fr)) (i : Nat) (v : Value) : (w.setCell ⟨g, i, none⟩ v).heap[g]? = some (.cells (cs.setIfInBounds i v) t fr) := by
  simp only [World.setCell, Array.getElem?_modify, if_true, h, Option.map_some]
  simp
theorem blk_set' {cs' : Array Value} (h : w.heap[g]? = some (.cells cs t fr)) (i : Nat) (v : Value) (e : cs.setIfInBounds i v = cs') : (w.setCell ⟨g, i, none⟩ v).heap[g]? = some (.cells cs' t fr) := e ▸ blk_set h i v
theorem blk_far {o : Obj} (h : w.heap[g]? = some o) {p : Addr} (hp : g ≠ p.block) (v : Value) : (w.setCell p v).heap[g]? = some o := by rw [Below.heap_setCell _ _ _ _ hp]; exact h
end

theorem ie_t {α : Type} {l : List α} (h : l = []) : l.isEmpty = true := by subst h; rfl
theorem ie_f {α : Type} {l : List α} (h : ¬ l = []) : l.isEmpty = false := by cases l with | nil => exact absurd rfl h | cons x l => rfl
theorem ie_and {α β : Type} {l : List α} {m : List β} (h : ¬ (l = [] ∧ m = [])) : (l.isEmpty && m.isEmpty) = false := by cases l <;> cases m <;> simp_all
theorem sne {a b : Nat} (h : a ≠ b) : some a ≠ some b := fun e => h (Option.some.inj e)
theorem ret_bool {a b : Bool} (h : a = b) : Ending.returned (.bool a) = Ending.returned (.bool b) := by rw [h]
theorem ret_int {k : IntKind} {a b : Int} (h : a = b) : Ending.returned (.int k a) = .returned (.int k b) := by rw [h]
/-- The cells of a block. -/
def rowOf (w : World) (g : Nat) : Option (Array Value) := match w.heap[g]? with | some (.cells cs _ _) => some cs | _ => none
section
variable {w : World} {g : Nat}
theorem rowOf_blk {cs : Array Value} {t : TypeId} {fr : Nat × Nat} (h : w.heap[g]? = some (.cells cs t fr)) : rowOf w g = some cs := by simp [rowOf, h]
theorem rowOf_alloc (h : g < w.heap.size) (o : Obj) : rowOf (w.alloc o) g = rowOf w g := by unfold rowOf; rw [Below.heap_alloc _ _ _ h]
theorem rowOf_new (w : World) (cs : Array Value) (t : TypeId) (fr : Nat × Nat) : rowOf (w.alloc (.cells cs t fr)) w.heap.size = some cs := rowOf_blk (blk_new _ _)
theorem rowOf_set (i : Nat) (v : Value) : rowOf (w.setCell ⟨g, i, none⟩ v) g = (rowOf w g).map (·.setIfInBounds i v) := by
  unfold rowOf
  simp only [World.setCell, Array.getElem?_modify, if_true]
  cases w.heap[g]? with
  | none => rfl
  | some o => cases o <;> rfl
theorem rowOf_far {p : Addr} (hp : g ≠ p.block) (v : Value) : rowOf (w.setCell p v) g = rowOf w g := by unfold rowOf; rw [Below.heap_setCell _ _ _ _ hp]
theorem rowOf_drew : rowOf w.drew g = rowOf w g := rfl
theorem rowOf_drewN (n : Nat) : rowOf (w.drewN n) g = rowOf w g := rfl
end
/-- A function's end whose one result lies in a block. -/
theorem ret_row {P : Program} {fn : Func} {R : Ending → World → Prop} {a : Act} {w : World} {p : Tmp} {ty : TypeId} {g : Nat} (cs : Array Value) {d : TypeDesc} (h : fn.results = #[.cell p ty])
    (hp : a.tmps.getD p undef = .pointer (some ⟨g, 0, none⟩)) (hu : P.underlying ty = some d) (hd : (match d with | .struct _ | .array _ _ => true | _ => false) = true) (hdf : a.defers = [])
    (hi : (P.info? ty).map (·.size) = some cs.size) (hg : rowOf w g = some cs) (hR : R (.returned (.agg cs)) w) : bodyPost P fn R .ret a w := by
  unfold rowOf at hg
  split at hg
  · rename_i c t fr hh
    injection hg with hg
    subst hg
    exact bodyPost_ret (results_cell_row h _ _ g t c fr d hp hh hu hd hi) hdf hR
  · cases hg

theorem Rd.tail {α : Type} {enc : α → List Value} {sz : Nat} {w : World} {b off : Nat} {x : α} {l : List α} (h : Rd enc sz w (some ⟨b, off, none⟩) (x :: l)) : Rd enc sz w (some ⟨b, off + sz, none⟩) l := by
  rcases h with h | ⟨b', off', he, hlt, hc⟩
  · cases h
  · cases he
    refine .inr ⟨_, _, rfl, hlt, fun i y hy j v hv => ?_⟩
    have := hc (i + 1) y (by simpa using hy) j v hv
    rw [Nat.succ_mul] at this
    rw [show off + sz + i * sz + j = off + (i * sz + sz) + j from by omega]
    exact this
theorem Rd.drop {α : Type} {enc : α → List Value} {sz : Nat} {w : World} {b off : Nat} : ∀ {l : List α} (j : Nat), Rd enc sz w (some ⟨b, off, none⟩) l → Rd enc sz w (some ⟨b, off + j * sz, none⟩) (l.drop j) := by
  intro l j h
  rcases h with h | ⟨b', off', he, hlt, hc⟩
  · subst h; exact .inl (by simp)
  · cases he
    refine .inr ⟨_, _, rfl, hlt, fun i y hy k v hv => ?_⟩
    have := hc (j + i) y (by simpa using hy) k v hv
    rw [Nat.add_mul] at this
    rw [show off + j * sz + i * sz + k = off + (j * sz + i * sz) + k from by omega]
    exact this
theorem Rd.take {α : Type} {enc : α → List Value} {sz : Nat} {w : World} {A : Option Addr} {l : List α} (j : Nat) (h : Rd enc sz w A l) : Rd enc sz w A (l.take j) := by
  rcases h with h | ⟨b', off', he, hlt, hc⟩
  · subst h; exact .inl (by simp)
  · refine .inr ⟨_, _, he, hlt, fun i y hy k v hv => hc i y ?_ k v hv⟩
    rw [List.getElem?_take] at hy
    split at hy
    · exact hy
    · cases hy
theorem Rd.lit {α : Type} {enc : α → List Value} {sz : Nat} {w : World} {g : Nat} {cs : Array Value} {t : TypeId} {fr : Nat × Nat} {x : α} (hb : w.heap[g]? = some (.cells cs t fr)) (h : cs.toList = enc x) : Rd enc sz w (some ⟨g, 0, none⟩) [x] := by
  refine .inr ⟨g, 0, rfl, blk_lt hb, fun i y hy k v hv => ?_⟩
  cases i with
  | zero =>
    simp at hy
    subst hy
    rw [blk_cell hb]
    rw [← h] at hv
    simpa using hv
  | succ i => simp at hy
theorem Rd.far {α : Type} {enc : α → List Value} {sz : Nat} {w : World} {A : Option Addr} {xs : List α} (h : Rd enc sz w A xs) {g i : Nat} (hA : ∀ a, A = some a → a.block ≠ g) (u : Value) : Rd enc sz (w.setCell ⟨g, i, none⟩ u) A xs := by
  rcases h with h | ⟨b, off, rfl, hlt, hc⟩
  · exact .inl h
  · refine .inr ⟨b, off, rfl, by simpa [World.setCell] using hlt, fun k x hx j v hv => ?_⟩
    rw [World.cell?_of_block (w := w) (Below.heap_setCell _ _ _ _ (hA _ rfl))]
    exact hc k x hx j v hv
theorem Rd.grown {α : Type} {enc : α → List Value} {sz : Nat} {w w' : World} {A : Option Addr} {xs : List α} (h : Rd enc sz w A xs) {row : Option Nat} (hg : w.grownBy w' row) (hA : ∀ a, A = some a → some a.block ≠ row) : Rd enc sz w' A xs := by
  rcases h with h | ⟨b, off, rfl, hlt, hc⟩
  · exact .inl h
  · refine .inr ⟨b, off, rfl, Nat.lt_of_lt_of_le hlt hg.size, fun k x hx j v hv => ?_⟩
    have e := World.cell?_of_block (w := w) (w' := w') (a := ⟨b, off + k * sz + j, none⟩) (hg.block b hlt (hA _ rfl))
    rw [e]
    exact hc k x hx j v hv
/-- An empty row is read wherever it lies. -/
theorem Rd.grown' {α : Type} {enc : α → List Value} {sz : Nat} {w w' : World} {A : Option Addr} {xs : List α} (h : Rd enc sz w A xs) {row : Option Nat} (hg : w.grownBy w' row) (hA : xs ≠ [] → ∀ a, A = some a → some a.block ≠ row) : Rd enc sz w' A xs := by
  by_cases hx : xs = []
  · exact .inl hx
  · exact h.grown hg (hA hx)
theorem grown_set (w : World) (g i : Nat) (v : Value) : w.grownBy (w.setCell ⟨g, i, none⟩ v) (some g) :=
  ⟨rfl, rfl, rfl, by simp [World.setCell], fun k hk hne => Below.heap_setCell _ _ _ _ (fun e => hne (by rw [e]))⟩
theorem grown_refl (w : World) (row : Option Nat) : w.grownBy w row := ⟨rfl, rfl, rfl, Nat.le_refl _, fun _ _ _ => rfl⟩
theorem grown_trans {a b c : World} {row : Option Nat} (h : a.grownBy b row) (k : b.grownBy c row) : a.grownBy c row :=
  ⟨k.os.trans h.os, k.tape.trans h.tape, k.output.trans h.output, Nat.le_trans h.size k.size, fun i hi hne => (k.block i (Nat.lt_of_lt_of_le hi h.size) hne).trans (h.block i hi hne)⟩
theorem grown_below {w w' : World} {B : Nat} (h : Below B w w') (hB : w.heap.size ≤ B) (row : Option Nat) : w.grownBy w' row := ⟨h.os, h.tape, h.output, h.size, fun i hi _ => h.block i (by omega)⟩

/-! ### '==' of structs, field by field -/
section
variable {P : Program} {d : Nat} {xs ys : Array Value} {f : Field} {fs : List Field} {a b : Value} {r s : Bool} {w : World}
theorem eqf_more (hn : f.name ≠ "_") (ha : (part f.type xs f.offset).run P w = .ok a w) (hb : (part f.type ys f.offset).run P w = .ok b w) (he : (Op.equalIn d f.type a b).run P w = .ok r w)
    (hr : (Op.eqFields d xs ys fs).run P w = .ok s w) : (Op.eqFields d xs ys (f :: fs)).run P w = .ok (r && s) w := by
  unfold Op.eqFields
  rw [if_pos hn]
  simp only [Sem.run_bind, ha, hb, he, Result.andThen_ok]
  cases r
  · simp
  · simpa using hr
theorem eqf_none : (Op.eqFields d xs ys []).run P w = .ok true w := by simp [Op.eqFields]
theorem eq_struct {t : TypeId} {fs : Array Field} (hu : P.underlying t = some (.struct fs)) (hp : P.stoodInHeld t = false) (h : (Op.eqFields d xs ys fs.toList).run P w = .ok r w) :
    (Op.equalIn (d + 1) t (.agg xs) (.agg ys)).run P w = .ok r w := by
  have hf : P.fieldsOf t = fs := by simp [Program.fieldsOf, hu]
  rw [run_equalIn_struct (P := P) w d t xs ys (by rw [hf]; exact hu) hp, hf]
  exact h
end
theorem toList_beq (a b : Str) : (a.toList == b.toList) = decide (a = b) := by
  by_cases h : a = b
  · simp [str_eq h, h]
  · simp [str_ne h, h]

/-- A text is less than another one, byte by byte. -/
def slt (a b : Str) : Bool := Op.bytesLess a.toList b.toList
def sle (a b : Str) : Bool := slt a b || decide (a = b)
theorem run_min_str {P : Program} {w : World} (ts : Array TypeId) (t : TypeId) (x y : Str) : (Builtin.min_ ts t #[.string x, .string y]).run P w = .ok (.string (if sle x y then x else y)) w := by
  have e : (Op.bytesLess x.toList y.toList || x.toList == y.toList) = sle x y := by unfold sle slt; rw [toList_beq]
  simp [Builtin.min_, Builtin.min2, Op.stringOp, asBool, ← e]
attribute [go_sem] run_min_str

structure Change where
  key : Str
  had : Bool
  was : Str
  has : Bool
  now : Str
deriving DecidableEq, Inhabited
def Change.enc (x : Change) : List Value := [.string x.key, .bool x.had, .string x.was, .bool x.has, .string x.now]

structure Entry where
  key : Str
  val : Str
deriving DecidableEq, Inhabited
def Entry.enc (x : Entry) : List Value := [.string x.key, .string x.val]

structure Side where
  has : Bool
  val : Str
deriving DecidableEq, Inhabited
def Side.cells (s : Side) : Array Value := #[.bool s.has, .string s.val]
def Side.v (s : Side) : Value := .agg s.cells

def Side.enc (s : Side) : List Value := [.bool s.has, .string s.val]
/-- ref09.Get -/
def get : List Entry → Str → Side
  | [], _ => ⟨false, ⟨#[]⟩⟩
  | x :: l, k => if x.key = k then ⟨true, x.val⟩ else get l k

/-- What a law is told of a map that came in. -/
def Came (W : World) (v : Value) (l : List Entry) : Prop :=
  ∃ A c, v = .slice A l.length c ∧ l.length ≤ c ∧ c ≤ 9223372036854775807 ∧ Rd Entry.enc 2 W A l ∧ (∀ x ∈ l, x.key.size ≤ 9223372036854775807 ∧ x.val.size ≤ 9223372036854775807) ∧ (l ≠ [] → ∀ a, A = some a → a.block < W.heap.size)

end Go.Proofs.Ytofdmkglhjpbcaa
