/- Plain functions on lists that the texts speak of; no program, no memory. diff.Edits, diff.Turn, law10.Edits. Maps from texts to texts, in this claim's own words, over the library's 'ownsMap' and 'ranges'. No program is named here. The order of texts, and what the merge of two rising maps comes to; no program, no memory. diff.Apply, over what slices.SortFunc does (SortOk). ref09.Set. What edits make of a map: ref09.Apply and the map of keys; no program. What comes of three maps; no program. law09.Light, ref09.Key, Val, Rises, Right, law11.Map. node.Key, node.Val, patch.text, ref27.side, law28.Light. -/
import Derived.Test.YtikgplhcadomcaaGreatKA
import Derived.Test.YtikgplhcadomcaaGreatProg
import Derived.Maps.StringElems
import Derived.Maps.Ext
import Derived.StringKeys
import Derived.Deep.QuietTactic
import Derived.BigQuiet
namespace Go.Proofs.YtikgplhcadomcaaGreat
open Go.RowKit
set_option linter.unusedVariables false
set_option linter.unusedSimpArgs false

def lightE (x : Entry) : Bool := decide (x.key.size ≤ 60) && decide (x.val.size ≤ 250)
def light (l : List Entry) : Bool := l.all lightE && decide (l.length ≤ 60)
def keyErr (k : Str) : Int := if k.size < 1 ∨ 40 < k.size then 100 else 0
def valErr (k : Str) : Int := if 200 < k.size then 101 else 0
theorem keyErr_or (k : Str) : keyErr k = 0 ∨ keyErr k = 100 := by unfold keyErr; split <;> simp
theorem valErr_or (k : Str) : valErr k = 0 ∨ valErr k = 101 := by unfold valErr; split <;> simp
/-- Each key is greater than the one ahead. -/
def rises : List Entry → Bool
  | [] => true
  | x :: l => (match l with | [] => true | y :: _ => slt x.key y.key) && rises l
def textErr : List Entry → Int
  | [] => 0
  | x :: l => if keyErr x.key ≠ 0 then keyErr x.key else if valErr x.val ≠ 0 then valErr x.val else textErr l
def right (l : List Entry) : Int := if textErr l ≠ 0 then textErr l else if rises l then 0 else 90
def isMap (l : List Entry) : Bool := light l && decide (right l = 0)

theorem rises_iff : ∀ l : List Entry, rises l = true ↔ ∀ (i : Nat) (h : i + 1 < l.length), slt l[i].key l[i + 1].key = true
  | [] => by simp [rises]
  | [x] => by simp [rises]
  | x :: y :: l => by
    have ih := rises_iff (y :: l)
    rw [rises]
    simp only [Bool.and_eq_true, ih]
    constructor
    · rintro ⟨h1, h2⟩ i hi
      cases i with
      | zero => exact h1
      | succ i => exact h2 i (by simpa using hi)
    · intro h
      exact ⟨h 0 (by simp), fun i hi => h (i + 1) (by simpa using hi)⟩

/-! ### diff.Of -/
def cnt (ls : List (List Entry)) : Nat := (ls.map List.length).sum

end Go.Proofs.YtikgplhcadomcaaGreat

namespace Go.Proofs.YtikgplhcadomcaaGreat
open Go.RowKit
set_option linter.unusedVariables false
set_option linter.unusedSimpArgs false

structure EditE where
  key : Str
  val : Str
  gone : Bool
deriving DecidableEq, Inhabited
def EditE.enc (x : EditE) : List Value := [.string x.key, .string x.val, .bool x.gone]
theorem EditE.ok : Enc EditE.enc 3 := ⟨fun _ => rfl, fun x u hu => by simp [EditE.enc] at hu; rcases hu with rfl | rfl | rfl <;> rfl, by omega⟩
end Go.Proofs.YtikgplhcadomcaaGreat

namespace Go.Proofs.YtikgplhcadomcaaGreat
open Go.RowKit Go.Maps
set_option linter.unusedVariables false
set_option linter.unusedSimpArgs false

abbrev Fm := Str → Option Str
def lit (s : Str) : Lit := .string s.data.toList
theorem lit_inj {a b : Str} (h : lit a = lit b) : a = b := by
  unfold lit at h
  injection h with h
  cases a; cases b; simp_all
theorem lit_ne {a b : Str} (h : a ≠ b) : lit a ≠ lit b := fun e => h (lit_inj e)
theorem lit_key (s : Str) : WideAt.IsKeyLit (lit s) := trivial
def Fm.put (f : Fm) (k v : Str) : Fm := fun x => if x = k then some v else f x
def Fm.del (f : Fm) (k : Str) : Fm := fun x => if x = k then none else f x
def Fm.nil : Fm := fun _ => none

/-- What the datum of a map says. -/
def Reads (D : DataW Unit) (f : Fm) : Prop := IsMap D ∧ ∀ k : Str, has D (lit k) = (f k).isSome ∧ ∀ v, f k = some v → ∀ z, D.atKey (lit k) z = .lit (lit v)
theorem Reads.nil : Reads (.map []) Fm.nil := ⟨isMap_empty, fun k => ⟨rfl, fun v h => by cases h⟩⟩
theorem Reads.put {D : DataW Unit} {f : Fm} (h : Reads D f) (k v : Str) : Reads (D.put (lit k) (.lit (lit v))) (f.put k v) := by
  refine ⟨h.1.put _ _, fun x => ?_⟩
  unfold Fm.put
  by_cases hx : x = k
  · subst hx
    rw [if_pos rfl]
    exact ⟨has_put_same h.1 (lit_key _) _, fun u hu z => by cases hu; exact atKey_put_same h.1 (lit_key _) _ z⟩
  · rw [if_neg hx]
    refine ⟨by rw [has_put_other (lit_ne hx)]; exact (h.2 x).1, fun u hu z => ?_⟩
    rw [atKey_put_other (lit_ne hx)]
    exact (h.2 x).2 u hu z
theorem Reads.del {D : DataW Unit} {f : Fm} (h : Reads D f) (k : Str) : Reads (D.del (lit k)) (f.del k) := by
  refine ⟨h.1.del _, fun x => ?_⟩
  unfold Fm.del
  by_cases hx : x = k
  · subst hx
    rw [if_pos rfl]
    exact ⟨has_del_same, fun u hu => by cases hu⟩
  · rw [if_neg hx]
    refine ⟨by rw [has_del_other (lit_ne hx)]; exact (h.2 x).1, fun u hu z => ?_⟩
    rw [atKey_del_other (lit_ne hx)]
    exact (h.2 x).2 u hu z

section
variable {P : Program} {k e : TypeId}
def MapS (P : Program) (k e : TypeId) (w : World) (b n : Nat) (f : Fm) : Prop := ∃ D : DataW Unit, w.ownsMap P k (plainElem P e) b n D ∧ Reads D f
theorem MapS.made (w : World) : MapS P k e (w.alloc (.map #[] 0)) w.heap.size 0 Fm.nil := ⟨_, World.ownsMap_made _ _ _ _, Reads.nil⟩
theorem MapS.lt {w : World} {b n : Nat} {f : Fm} (h : MapS P k e w b n f) : b < w.heap.size := by obtain ⟨D, h, _⟩ := h; exact h.lt
theorem MapS.kept {w w' : World} {b n : Nat} {f : Fm} {row : Option Nat} (h : MapS P k e w b n f) (hg : w.grownBy w' row) (hne : some b ≠ row) : MapS P k e w' b n f := by
  obtain ⟨D, h, hr⟩ := h
  exact ⟨D, h.kept hg hne, hr⟩
theorem MapS.mono {w : World} {b n n' : Nat} {f : Fm} (h : MapS P k e w b n f) (hn : n ≤ n') : MapS P k e w b n' f := by
  obtain ⟨D, h, hr⟩ := h
  exact ⟨D, h.mono hn, hr⟩

/-- A range over the map is under way: 'left' are the keys still to come. -/
def RangeS (P : Program) (k e : TypeId) (w : World) (b r n : Nat) (f : Fm) (left : Str → Bool) (cnt : Nat) : Prop :=
  ∃ (D : DataW Unit) (lf : Lit → Bool), w.ranges P k (plainElem P e) b r n D lf cnt ∧ Reads D f ∧ ∀ x, lf (lit x) = left x
theorem RangeS.kept {w w' : World} {b r n : Nat} {f : Fm} {left : Str → Bool} {cnt : Nat} {row : Option Nat} (h : RangeS P k e w b r n f left cnt) (hg : w.grownBy w' row) (hb : some b ≠ row) (hr : some r ≠ row) : RangeS P k e w' b r n f left cnt := by
  obtain ⟨D, lf, h, hR⟩ := h
  exact ⟨D, lf, h.kept hg hb hr, hR⟩
theorem RangeS.lt {w : World} {b r n : Nat} {f : Fm} {left : Str → Bool} {cnt : Nat} (h : RangeS P k e w b r n f left cnt) : b < w.heap.size ∧ r < w.heap.size := by
  obtain ⟨D, lf, h, hR⟩ := h
  obtain ⟨es, clock, since, seen, c0, h1, h2, h3, h4, h5, h6⟩ := h
  exact ⟨blk_lt h1, blk_lt h5⟩

variable (w : World) {ops : Array Oper} {rest : List Oper} {o : Oper} {a : Act} {Q : Exit → Act → World → Prop}
end
end Go.Proofs.YtikgplhcadomcaaGreat

namespace Go.Proofs.YtikgplhcadomcaaGreat
open Go.RowKit
set_option linter.unusedVariables false
set_option linter.unusedSimpArgs false

theorem bl_irrefl : ∀ x : List UInt8, Op.bytesLess x x = false
  | [] => rfl
  | a :: x => by
    have : ¬ a < a := fun h => by have := UInt8.lt_iff_toNat_lt.1 h; omega
    simp [Op.bytesLess, bl_irrefl x, this]
theorem bl_trans : ∀ x y z : List UInt8, Op.bytesLess x y = true → Op.bytesLess y z = true → Op.bytesLess x z = true
  | _, [], _, h, _ => by cases ‹List UInt8› <;> simp [Op.bytesLess] at h
  | _, b :: y, [], _, h => by simp [Op.bytesLess] at h
  | [], b :: y, c :: z, _, _ => rfl
  | a :: x, b :: y, c :: z, h1, h2 => by
    simp only [Op.bytesLess, Bool.or_eq_true, Bool.and_eq_true, decide_eq_true_eq, beq_iff_eq] at h1 h2 ⊢
    rcases h1 with h1 | ⟨rfl, h1⟩
    · rcases h2 with h2 | ⟨rfl, h2⟩
      · left
        have h1' := UInt8.lt_iff_toNat_lt.1 h1
        have h2' := UInt8.lt_iff_toNat_lt.1 h2
        exact UInt8.lt_iff_toNat_lt.2 (by omega)
      · exact .inl h1
    · rcases h2 with h2 | ⟨rfl, h2⟩
      · exact .inl h2
      · exact .inr ⟨rfl, bl_trans x y z h1 h2⟩
theorem bl_total : ∀ x y : List UInt8, Op.bytesLess x y = true ∨ x = y ∨ Op.bytesLess y x = true
  | [], [] => .inr (.inl rfl)
  | [], b :: y => .inl rfl
  | a :: x, [] => .inr (.inr rfl)
  | a :: x, b :: y => by
    simp only [Op.bytesLess, Bool.or_eq_true, Bool.and_eq_true, decide_eq_true_eq, beq_iff_eq]
    rcases Nat.lt_trichotomy a.toNat b.toNat with h | h | h
    · exact .inl (.inl (UInt8.lt_iff_toNat_lt.2 h))
    · have hab : a = b := UInt8.toNat_inj.1 h
      subst hab
      rcases bl_total x y with h1 | h1 | h1
      · exact .inl (.inr ⟨rfl, h1⟩)
      · exact .inr (.inl (by rw [h1]))
      · exact .inr (.inr (.inr ⟨rfl, h1⟩))
    · exact .inr (.inr (.inl (UInt8.lt_iff_toNat_lt.2 h)))

theorem slt_irrefl (a : Str) : slt a a = false := bl_irrefl _
theorem slt_trans {a b c : Str} (h : slt a b = true) (k : slt b c = true) : slt a c = true := bl_trans _ _ _ h k
theorem slt_total (a b : Str) : slt a b = true ∨ a = b ∨ slt b a = true := by
  rcases bl_total a.toList b.toList with h | h | h
  · exact .inl h
  · exact .inr (.inl (toList_inj h))
  · exact .inr (.inr h)
end Go.Proofs.YtikgplhcadomcaaGreat

namespace Go.Proofs.YtikgplhcadomcaaGreat
open Go.RowKit Go.Maps
set_option linter.unusedVariables false
set_option linter.unusedSimpArgs false

def done1 (f : Fm) (x : EditE) : Fm := if x.gone then f.del x.key else f.put x.key x.val
theorem infoEn : (Tryz.prog.info? 113).map (fun i => (i.zero, i.size, i.bytes)) = some (some (.agg #[.string ⟨#[]⟩, .string ⟨#[]⟩]), 2, 32) := by kernel_rfl

/-- What has been told of a map so far. -/
structure Told (f : Fm) (left : Str → Bool) (l : List Entry) : Prop where
  mem : ∀ x : Entry, x ∈ l ↔ f x.key = some x.val ∧ left x.key = false
  nodup : (l.map (·.key)).Nodup
theorem Told.start (f : Fm) : Told f (fun x => (f x).isSome) [] := by
  refine ⟨fun x => ⟨fun h => (by cases h), fun h => ?_⟩, List.nodup_nil⟩
  obtain ⟨h1, h2⟩ := h
  rw [h1] at h2
  cases h2
theorem Told.step {f : Fm} {left : Str → Bool} {l : List Entry} (h : Told f left l) {k v : Str} (hk : left k = true) (hv : f k = some v) : Told f (fun z => left z && !decide (z = k)) (l ++ [⟨k, v⟩]) := by
  refine ⟨fun x => ?_, ?_⟩
  · rw [List.mem_append, h.mem, List.mem_singleton]
    by_cases hx : x.key = k
    · constructor
      · rintro (⟨h1, h2⟩ | h1)
        · rw [hx, hk] at h2; cases h2
        · subst h1; exact ⟨hv, by simp⟩
      · rintro ⟨h1, h2⟩
        right
        rw [hx, hv] at h1
        cases x
        simp only at hx
        injection h1 with h1
        subst hx h1
        rfl
    · constructor
      · rintro (⟨h1, h2⟩ | h1)
        · exact ⟨h1, by simp [h2]⟩
        · subst h1; exact absurd rfl hx
      · rintro ⟨h1, h2⟩
        left
        exact ⟨h1, by simpa [hx] using h2⟩
  · rw [List.map_append, List.nodup_append]
    refine ⟨h.nodup, by simp, fun a ha b hb e => ?_⟩
    obtain ⟨x, hx, rfl⟩ := List.mem_map.1 ha
    simp only [List.map_cons, List.map_nil, List.mem_singleton] at hb
    subst hb
    have := (h.mem x).1 hx
    rw [e, hk] at this
    cases this.2

end Go.Proofs.YtikgplhcadomcaaGreat

namespace Go.Proofs.YtikgplhcadomcaaGreat
open Go.RowKit
set_option linter.unusedVariables false
set_option linter.unusedSimpArgs false

def setGo (key val : Str) : List Entry → Bool → List Entry
  | [], d => if d = true then [] else [⟨key, val⟩]
  | x :: l, d => (if d = false ∧ slt key x.key = true then [⟨key, val⟩] else []) ++ ((if x.key = key then [] else [x]) ++ setGo key val l (d || slt key x.key))
def setRef (l : List Entry) (key : Str) (s : Side) : List Entry := setGo key s.val l (!s.has)
end Go.Proofs.YtikgplhcadomcaaGreat

namespace Go.Proofs.YtikgplhcadomcaaGreat
open Go.RowKit
set_option linter.unusedVariables false
set_option linter.unusedSimpArgs false

/-- Rising rows of entries. -/
def Ris (l : List Entry) : Prop := l.Pairwise (fun x y => slt x.key y.key = true)
theorem mem_setGo (key val : Str) (a : Entry) : ∀ (l : List Entry) (d : Bool), a ∈ setGo key val l d ↔ (a.key ≠ key ∧ a ∈ l) ∨ (d = false ∧ a = ⟨key, val⟩)
  | [], d => by unfold setGo; cases d <;> simp
  | x :: l, d => by
    have ih := mem_setGo key val a l (d || slt key x.key)
    unfold setGo
    simp only [List.mem_append, ih, List.mem_cons]
    have e1 : a ∈ (if x.key = key then ([] : List Entry) else [x]) ↔ (a.key ≠ key ∧ a = x) := by
      by_cases hx : x.key = key
      · rw [if_pos hx]
        simp only [List.not_mem_nil, false_iff, not_and]
        intro h e; subst e; exact h hx
      · rw [if_neg hx, List.mem_singleton]
        exact ⟨fun e => ⟨by subst e; exact hx, e⟩, fun h => h.2⟩
    rw [e1]
    cases d <;> cases slt key x.key <;> simp <;> constructor <;> intro h <;> grind
theorem ris_setGo (key val : Str) : ∀ (l : List Entry) (d : Bool), Ris l → Ris (setGo key val l d)
  | [], d, _ => by unfold setGo; cases d <;> simp [Ris]
  | x :: l, d, h => by
    obtain ⟨h1, h2⟩ := List.pairwise_cons.1 h
    have ih := ris_setGo key val l (d || slt key x.key) h2
    have hm := fun a => mem_setGo key val a l (d || slt key x.key)
    unfold setGo
    unfold Ris at *
    by_cases hx : x.key = key
    · have hs : slt key x.key = false := by rw [hx]; exact slt_irrefl _
      rw [if_neg (by simp [hs]), if_pos hx]
      exact ih
    · rw [if_neg hx]
      by_cases hq : d = false ∧ slt key x.key = true
      · rw [if_pos hq]
        obtain ⟨rfl, hq⟩ := hq
        rw [hq] at ih hm ⊢
        refine List.pairwise_cons.2 ⟨?_, List.pairwise_cons.2 ⟨?_, ih⟩⟩
        · intro y hy
          rcases List.mem_cons.1 hy with rfl | hy
          · exact hq
          · rcases (hm y).1 hy with h' | h'
            · exact slt_trans hq (h1 y h'.2)
            · simp at h'
        · intro y hy
          rcases (hm y).1 hy with h' | h'
          · exact h1 y h'.2
          · simp at h'
      · rw [if_neg hq]
        refine List.pairwise_cons.2 ⟨?_, ih⟩
        intro y hy
        rcases (hm y).1 hy with h' | h'
        · exact h1 y h'.2
        · obtain ⟨h3, rfl⟩ := h'
          simp only [Bool.or_eq_false_iff] at h3
          rcases slt_total key x.key with e | e | e
          · rw [h3.2] at e; cases e
          · exact absurd e.symm hx
          · exact e
/-- What a rising row says of each key. -/
def Says (m : List Entry) (f : Fm) : Prop := Ris m ∧ ∀ x : Entry, x ∈ m ↔ f x.key = some x.val
theorem Says.set {m : List Entry} {f : Fm} (h : Says m f) (x : EditE) : Says (setRef m x.key ⟨!x.gone, x.val⟩) (done1 f x) := by
  refine ⟨ris_setGo _ _ _ _ h.1, fun a => ?_⟩
  unfold setRef
  rw [mem_setGo, h.2]
  unfold done1 Fm.put Fm.del
  obtain ⟨key, val, gone⟩ := x
  obtain ⟨k, v⟩ := a
  cases gone <;> by_cases hk : k = key <;> simp [hk] <;> exact eq_comm
end Go.Proofs.YtikgplhcadomcaaGreat

namespace Go.Proofs.YtikgplhcadomcaaGreat
open Go.RowKit
set_option linter.unusedVariables false
set_option linter.unusedSimpArgs false

structure Clash where
  key : Str
  base : Side
  ours : Side
  theirs : Side
deriving DecidableEq, Inhabited
def Clash.enc (x : Clash) : List Value := [.string x.key, .bool x.base.has, .string x.base.val, .bool x.ours.has, .string x.ours.val, .bool x.theirs.has, .string x.theirs.val]
theorem Clash.ok : Enc Clash.enc 7 := ⟨fun _ => rfl, fun x u hu => by simp [Clash.enc] at hu; rcases hu with rfl | rfl | rfl | rfl | rfl | rfl | rfl <;> rfl, by omega⟩
end Go.Proofs.YtikgplhcadomcaaGreat

namespace Go.Proofs.YtikgplhcadomcaaGreat
open Go.RowKit
set_option linter.unusedVariables false
set_option linter.unusedSimpArgs false

theorem refKey_calls (w : World) (k : Str) (hk : k.size ≤ 9223372036854775807) :
    Calls Tryz.prog 72 #[.string k] w fun e w' => e = .returned (.int .i64 (keyErr k)) ∧ w = w' := by
  by_cases h1 : k.size < 1
  · have hv : Hid (keyErr k = 100) := by show _ = _; simp [keyErr, h1]
    go_enter Tryz.func72, Tryz.ntmps72
    go_wp2
    go_ret
    exact ⟨by rw [hv.out]; rfl, rfl⟩
  · by_cases h2 : 40 < k.size
    · have hv : Hid (keyErr k = 100) := by show _ = _; simp [keyErr, h2]
      go_enter Tryz.func72, Tryz.ntmps72
      go_wp2
      go_ret
      exact ⟨by rw [hv.out]; rfl, rfl⟩
    · have hv : Hid (keyErr k = 0) := by show _ = _; simp [keyErr, h1, h2]
      go_enter Tryz.func72, Tryz.ntmps72
      go_wp2
      go_ret
      exact ⟨by rw [hv.out]; rfl, rfl⟩

theorem refVal_calls (w : World) (k : Str) (hk : k.size ≤ 9223372036854775807) :
    Calls Tryz.prog 73 #[.string k] w fun e w' => e = .returned (.int .i64 (valErr k)) ∧ w = w' := by
  by_cases h2 : 200 < k.size
  · have hv : Hid (valErr k = 101) := by show _ = _; simp [valErr, h2]
    go_enter Tryz.func73, Tryz.ntmps73
    go_wp2
    go_ret
    exact ⟨by rw [hv.out]; rfl, rfl⟩
  · have hv : Hid (valErr k = 0) := by show _ = _; simp [valErr, h2]
    go_enter Tryz.func73, Tryz.ntmps73
    go_wp2
    go_ret
    exact ⟨by rw [hv.out]; rfl, rfl⟩

theorem Light_calls (w : World) (A : Option Addr) (c : Nat) (l : List Entry) (hm : l.length ≤ 9223372036854775807) (hs : ∀ x ∈ l, x.key.size ≤ 9223372036854775807 ∧ x.val.size ≤ 9223372036854775807) (h : Rd Entry.enc 2 w A l) :
    Calls Tryz.prog 21 #[.slice A l.length c] w fun e w' => e = .returned (.bool (light l)) ∧ Below w.heap.size w w' := by
  have hs' := Lib.hid hs
  clear hs
  go_enter Tryz.func21, Tryz.ntmps21
  go_wp2
  go_loopw [7] (fun i wr => ∃ k : Nat, k ≤ l.length ∧ i = .int .i64 k ∧ Hid (light l = ((l.drop k).all lightE && decide (l.length ≤ 60))) ∧ Below w.heap.size w wr) (fun i _ => l.length - (intOf i).toNat)
  case atStart => exact ⟨0, Nat.zero_le _, rfl, rfl, Below.refl _ _⟩
  case round =>
    obtain ⟨k, hk, rfl, hg, hb⟩ := hrel
    by_cases hlt : k < l.length
    · rcases h.below hb (Nat.le_refl _) with h0 | ⟨b, off, rfl, hbl, hc⟩
      · simp [h0] at hlt
      have c0 : wr.cell? ⟨b, off + k * 2, none⟩ = some (.string l[k].key) := hc k l[k] (by simp [hlt]) 0 _ rfl
      have c1 : wr.cell? ⟨b, off + k * 2 + 1, none⟩ = some (.string l[k].val) := hc k l[k] (by simp [hlt]) 1 _ rfl
      have hd : l.drop k = l[k] :: l.drop (k + 1) := by simp
      obtain ⟨s0, s1⟩ := hs'.out l[k] (List.getElem_mem _)
      clear hc h
      by_cases h1 : 60 < l[k].key.size
      · have hv : Hid (light l = false) := by show _ = _; rw [hg.out, hd, List.all_cons, show lightE l[k] = false from by simp [lightE]; omega]; simp
        clear hd
        go_wp2
        go_ret
        exact ⟨by rw [hv.out]; rfl, bl_alloc hb _⟩
      · by_cases h2 : 250 < l[k].val.size
        · have hv : Hid (light l = false) := by show _ = _; rw [hg.out, hd, List.all_cons, show lightE l[k] = false from by simp [lightE]; omega]; simp
          clear hd
          go_wp2
          go_ret
          exact ⟨by rw [hv.out]; rfl, bl_alloc hb _⟩
        · have hg' : Hid (light l = ((l.drop (k + 1)).all lightE && decide (l.length ≤ 60))) := by show _ = _; rw [hg.out, hd, List.all_cons, show lightE l[k] = true from by simp [lightE]; omega]; simp
          clear hd
          go_wp2
          exact ⟨⟨k + 1, by omega, by go_num, hg', bl_alloc hb _⟩, by simp [intOf]; omega⟩
    · have hv : Hid (light l = decide (l.length ≤ 60)) := by show _ = _; rw [hg.out, List.drop_of_length_le (by omega)]; simp
      go_wp2
      go_ret
      exact ⟨by rw [hv.out]; exact ret_bool (decide_eq_decide.2 (by omega)), hb⟩

theorem Rises_calls (w : World) (A : Option Addr) (c : Nat) (l : List Entry) (hm : l.length ≤ 9223372036854775807) (hcap : l.length ≤ c) (h : Rd Entry.enc 2 w A l) :
    Calls Tryz.prog 74 #[.slice A l.length c] w fun e w' => e = .returned (.bool (rises l)) ∧ Below w.heap.size w w' := by
  go_enter Tryz.func74, Tryz.ntmps74
  go_wp2
  go_loopw [6] (fun i wr => ∃ k : Nat, k ≤ l.length ∧ i = .int .i64 k ∧ Hid (∀ (i : Nat) (h : i + 1 < l.length), i + 1 < k → slt l[i].key l[i + 1].key = true) ∧ Below w.heap.size w wr) (fun i _ => l.length - (intOf i).toNat)
  case atStart => exact ⟨0, Nat.zero_le _, rfl, fun i _ h => by omega, Below.refl _ _⟩
  case round =>
    obtain ⟨k, hk, rfl, hg, hb⟩ := hrel
    by_cases hlt : k < l.length
    · rcases h.below hb (Nat.le_refl _) with h0 | ⟨b, off, rfl, hbl, hc⟩
      · simp [h0] at hlt
      clear h
      cases k with
      | zero =>
        have hg' : Hid (∀ (i : Nat) (h : i + 1 < l.length), i + 1 < 1 → slt l[i].key l[i + 1].key = true) := fun i _ h => by omega
        have h00 : decide ((0 : Int) < ((0 : Nat) : Int)) = false := by simp
        clear hc
        go_wp2
        go_quiet (fail)
        go_wp2
        exact ⟨⟨1, by omega, by go_num, hg', bl_drewN hb _⟩, by show l.length - 1 < l.length - 0; omega⟩
      | succ k =>
        have c0 : wr.cell? ⟨b, off + k * 2, none⟩ = some (.string l[k].key) := hc k l[k] (List.getElem?_eq_getElem (by omega)) 0 _ rfl
        have c1 : wr.cell? ⟨b, off + (k + 1) * 2, none⟩ = some (.string l[k + 1].key) := hc (k + 1) l[k + 1] (by simp) 0 _ rfl
        clear hc
        by_cases hq : slt l[k].key l[k + 1].key = true
        · have hq' : Op.bytesLess l[k].key.toList l[k + 1].key.toList = true := hq
          have hg' : Hid (∀ (i : Nat) (h : i + 1 < l.length), i + 1 < k + 1 + 1 → slt l[i].key l[i + 1].key = true) := fun i hi h => by
            by_cases e : i = k
            · subst e; exact hq
            · exact hg.out i hi (by omega)
          go_wp2
          go_quiet (fail)
          go_wp2
          exact ⟨⟨k + 1 + 1, by omega, by go_num, hg', bl_drewN hb _⟩, by simp [intOf]; omega⟩
        · have hq' : Op.bytesLess l[k].key.toList l[k + 1].key.toList = false := by unfold slt at hq; simpa using hq
          have hv : Hid (rises l = false) := by
            show _ = _
            rw [Bool.eq_false_iff]
            intro e
            exact hq ((rises_iff l).1 e k hlt)
          go_wp2
          go_quiet (fail)
          go_wp2
          go_ret
          exact ⟨by rw [hv.out]; rfl, bl_drewN hb _⟩
    · have hv : Hid (rises l = true) := by show _ = _; rw [rises_iff]; intro i hi; exact hg.out i hi (by omega)
      go_wp2
      go_ret
      exact ⟨by rw [hv.out]; rfl, hb⟩

theorem Right_calls (w : World) (A : Option Addr) (c : Nat) (l : List Entry) (hm : l.length ≤ 9223372036854775807) (hcap : l.length ≤ c) (hs : ∀ x ∈ l, x.key.size ≤ 9223372036854775807 ∧ x.val.size ≤ 9223372036854775807) (h : Rd Entry.enc 2 w A l) :
    Calls Tryz.prog 22 #[.slice A l.length c] w fun e w' => e = .returned (.int .i64 (right l)) ∧ Below w.heap.size w w' := by
  have hs' := Lib.hid hs
  clear hs
  have h' := Lib.hid h
  go_enter Tryz.func22, Tryz.ntmps22
  go_wp2
  go_loopw [9] (fun i wr => ∃ k : Nat, k ≤ l.length ∧ i = .int .i64 k ∧ Hid (textErr l = textErr (l.drop k)) ∧ Below w.heap.size w wr) (fun i _ => l.length - (intOf i).toNat)
  case atStart => exact ⟨0, Nat.zero_le _, rfl, rfl, Below.refl _ _⟩
  case round =>
    obtain ⟨k, hk, rfl, hg, hb⟩ := hrel
    by_cases hlt : k < l.length
    · rcases h.below hb (Nat.le_refl _) with h0 | ⟨b, off, rfl, hbl, hc⟩
      · simp [h0] at hlt
      have c0 : wr.cell? ⟨b, off + k * 2, none⟩ = some (.string l[k].key) := hc k l[k] (by simp [hlt]) 0 _ rfl
      have c1 : wr.cell? ⟨b, off + k * 2 + 1, none⟩ = some (.string l[k].val) := hc k l[k] (by simp [hlt]) 1 _ rfl
      have hd : l.drop k = l[k] :: l.drop (k + 1) := by simp
      obtain ⟨s0, s1⟩ := hs'.out l[k] (List.getElem_mem _)
      clear hc h
      by_cases h1 : keyErr l[k].key = 0
      · by_cases h2 : valErr l[k].val = 0
        · have hg' : Hid (textErr l = textErr (l.drop (k + 1))) := by show _ = _; rw [hg.out, hd]; simp [textErr, h1, h2]
          have H1 := Lib.hid h1
          have H2 := Lib.hid h2
          clear hd h1 h2
          go_wp2_with fail
          refine (refKey_calls _ _ s0).mono ?_
          rintro e w1 ⟨rfl, rfl⟩
          rw [H1.out]
          go_wp2_with fail
          refine (refVal_calls _ _ s1).mono ?_
          rintro e w1 ⟨rfl, rfl⟩
          rw [H2.out]
          go_wp2
          exact ⟨⟨k + 1, by omega, by go_num, hg', bl_alloc hb _⟩, by simp [intOf]; omega⟩
        · have h2' := (valErr_or l[k].val).resolve_left h2
          have hv : Hid (right l = 101) := by
            have : textErr l = 101 := by rw [hg.out, hd]; simp [textErr, h1, h2']
            show _ = _; simp [right, this]
          have H1 := Lib.hid h1
          have H2 := Lib.hid h2'
          clear hd h1 h2 h2'
          go_wp2_with fail
          refine (refKey_calls _ _ s0).mono ?_
          rintro e w1 ⟨rfl, rfl⟩
          rw [H1.out]
          go_wp2_with fail
          refine (refVal_calls _ _ s1).mono ?_
          rintro e w1 ⟨rfl, rfl⟩
          rw [H2.out]
          go_wp2
          go_ret
          exact ⟨by rw [hv.out]; rfl, bl_alloc hb _⟩
      · have h1' := (keyErr_or l[k].key).resolve_left h1
        have hv : Hid (right l = 100) := by
          have : textErr l = 100 := by rw [hg.out, hd]; simp [textErr, h1']
          show _ = _; simp [right, this]
        have H1 := Lib.hid h1'
        clear hd h1 h1'
        go_wp2_with fail
        refine (refKey_calls _ _ s0).mono ?_
        rintro e w1 ⟨rfl, rfl⟩
        rw [H1.out]
        go_wp2
        go_ret
        exact ⟨by rw [hv.out]; rfl, bl_alloc hb _⟩
    · have ht : Hid (textErr l = 0) := by show _ = _; rw [hg.out, List.drop_of_length_le (by omega)]; rfl
      have h2 := h'.out.below hb (Nat.le_refl _)
      have H2 := Lib.hid h2
      clear h h2
      cases hr : rises l with
      | true =>
        have hv : Hid (right l = 0) := by show _ = _; simp [right, ht.out, hr]
        have HR := Lib.hid hr
        clear hr
        go_wp2_with fail
        refine (Rises_calls _ _ _ l hm hcap H2.out).mono ?_
        rintro e w1 ⟨rfl, hb1⟩
        rw [HR.out]
        go_wp2
        go_ret
        exact ⟨by rw [hv.out]; rfl, bl_then hb hb.size hb1⟩
      | false =>
        have hv : Hid (right l = 90) := by show _ = _; simp [right, ht.out, hr]
        have HR := Lib.hid hr
        clear hr
        go_wp2_with fail
        refine (Rises_calls _ _ _ l hm hcap H2.out).mono ?_
        rintro e w1 ⟨rfl, hb1⟩
        rw [HR.out]
        go_wp2
        go_ret
        exact ⟨by rw [hv.out]; rfl, bl_then hb hb.size hb1⟩

theorem Map_calls (w : World) (A : Option Addr) (c : Nat) (l : List Entry) (hm : l.length ≤ 9223372036854775807) (hcap : l.length ≤ c) (hs : ∀ x ∈ l, x.key.size ≤ 9223372036854775807 ∧ x.val.size ≤ 9223372036854775807) (h : Rd Entry.enc 2 w A l) :
    Calls Tryz.prog 12 #[.slice A l.length c] w fun e w' => e = .returned (.bool (isMap l)) ∧ Below w.heap.size w w' := by
  have hs' := Lib.hid hs
  have h' := Lib.hid h
  clear hs h
  cases hl : light l with
  | false =>
    have hv : Hid (isMap l = false) := by show _ = _; simp [isMap, hl]
    have HL := Lib.hid hl
    clear hl
    go_enter Tryz.func12, Tryz.ntmps12
    go_wp2_with fail
    refine (Light_calls _ _ _ l hm hs'.out h'.out).mono ?_
    rintro e w1 ⟨rfl, hb1⟩
    rw [HL.out]
    go_wp2
    go_ret
    exact ⟨by rw [hv.out]; rfl, hb1⟩
  | true =>
    have hv : Hid (isMap l = decide (right l = 0)) := by show _ = _; simp [isMap, hl]
    have HL := Lib.hid hl
    clear hl
    go_enter Tryz.func12, Tryz.ntmps12
    go_wp2_with fail
    refine (Light_calls _ _ _ l hm hs'.out h'.out).mono ?_
    rintro e w1 ⟨rfl, hb1⟩
    rw [HL.out]
    go_wp2_with fail
    refine (Right_calls _ _ _ l hm hcap hs'.out (h'.out.below hb1 (Nat.le_refl _))).mono ?_
    rintro e w2 ⟨rfl, hb2⟩
    go_wp2
    go_ret
    exact ⟨by rw [hv.out]; exact ret_bool (by simp [BEq.beq]), bl_then hb1 hb1.size hb2⟩
end Go.Proofs.YtikgplhcadomcaaGreat

namespace Go.Proofs.YtikgplhcadomcaaGreat
open Go.RowKit
set_option linter.unusedVariables false
set_option linter.unusedSimpArgs false

theorem nodeKey_calls (w : World) (k : Str) (hk : k.size ≤ 9223372036854775807) :
    Calls Tryz.prog 59 #[.string k] w fun e w' => e = .returned (.int .i64 (keyErr k)) ∧ w = w' := by
  by_cases h1 : k.size < 1
  · have hv : Hid (keyErr k = 100) := by show _ = _; simp [keyErr, h1]
    go_enter Tryz.func59, Tryz.ntmps59
    go_wp2
    go_ret
    exact ⟨by rw [hv.out]; rfl, rfl⟩
  · by_cases h2 : 40 < k.size
    · have hv : Hid (keyErr k = 100) := by show _ = _; simp [keyErr, h2]
      go_enter Tryz.func59, Tryz.ntmps59
      go_wp2
      go_ret
      exact ⟨by rw [hv.out]; rfl, rfl⟩
    · have hv : Hid (keyErr k = 0) := by show _ = _; simp [keyErr, h1, h2]
      go_enter Tryz.func59, Tryz.ntmps59
      go_wp2
      go_ret
      exact ⟨by rw [hv.out]; rfl, rfl⟩
theorem nodeVal_calls (w : World) (k : Str) (hk : k.size ≤ 9223372036854775807) :
    Calls Tryz.prog 60 #[.string k] w fun e w' => e = .returned (.int .i64 (valErr k)) ∧ w = w' := by
  by_cases h2 : 200 < k.size
  · have hv : Hid (valErr k = 101) := by show _ = _; simp [valErr, h2]
    go_enter Tryz.func60, Tryz.ntmps60
    go_wp2
    go_ret
    exact ⟨by rw [hv.out]; rfl, rfl⟩
  · have hv : Hid (valErr k = 0) := by show _ = _; simp [valErr, h2]
    go_enter Tryz.func60, Tryz.ntmps60
    go_wp2
    go_ret
    exact ⟨by rw [hv.out]; rfl, rfl⟩
end Go.Proofs.YtikgplhcadomcaaGreat
