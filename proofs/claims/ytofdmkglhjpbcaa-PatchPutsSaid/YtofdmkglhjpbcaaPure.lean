/- Plain functions on lists that the texts speak of; no program, no memory. -/
import Derived.Test.YtofdmkglhjpbcaaBase
namespace Go.Proofs.Ytofdmkglhjpbcaa
open Go.RowKit
set_option linter.unusedVariables false
set_option linter.unusedSimpArgs false

def lightE (x : Entry) : Bool := decide (x.key.size ≤ 60) && decide (x.val.size ≤ 250)
def light (l : List Entry) : Bool := l.all lightE && decide (l.length ≤ 60)
def keyErr (k : Str) : Int := if k.size < 1 ∨ 40 < k.size then 100 else 0
def valErr (k : Str) : Int := if 200 < k.size then 101 else 0
theorem keyErr_or (k : Str) : keyErr k = 0 ∨ keyErr k = 100 := by unfold keyErr; split <;> simp
theorem valErr_or (k : Str) : valErr k = 0 ∨ valErr k = 101 := by unfold valErr; split <;> simp
/-- Each key is greater than the one ahead. -/
def rises : List Entry → Bool
  | [] => true
  | x :: l => (match l with | [] => true | y :: _ => slt x.key y.key) && rises l
def textErr : List Entry → Int
  | [] => 0
  | x :: l => if keyErr x.key ≠ 0 then keyErr x.key else if valErr x.val ≠ 0 then valErr x.val else textErr l
theorem textErr_or : ∀ l : List Entry, textErr l = 0 ∨ textErr l = 100 ∨ textErr l = 101
  | [] => .inl rfl
  | x :: l => by
    unfold textErr
    have := keyErr_or x.key
    have := valErr_or x.val
    have := textErr_or l
    split
    · omega
    · split
      · omega
      · exact this
def right (l : List Entry) : Int := if textErr l ≠ 0 then textErr l else if rises l then 0 else 90
def isMap (l : List Entry) : Bool := light l && decide (right l = 0)

theorem rises_iff : ∀ l : List Entry, rises l = true ↔ ∀ (i : Nat) (h : i + 1 < l.length), slt l[i].key l[i + 1].key = true
  | [] => by simp [rises]
  | [x] => by simp [rises]
  | x :: y :: l => by
    have ih := rises_iff (y :: l)
    rw [rises]
    simp only [Bool.and_eq_true, ih]
    constructor
    · rintro ⟨h1, h2⟩ i hi
      cases i with
      | zero => exact h1
      | succ i => exact h2 i (by simpa using hi)
    · intro h
      exact ⟨h 0 (by simp), fun i hi => h (i + 1) (by simpa using hi)⟩

/-! ### diff.Of -/
def takeK (l : List Entry) (k : Str) : Str × Bool × List Entry := match l with
  | [] => (⟨#[]⟩, false, [])
  | x :: l => if x.key = k then (x.val, true, l) else (⟨#[]⟩, false, x :: l)

def leastKey (l m : List Entry) : Str := match l, m with
  | [], y :: _ => y.key
  | x :: _, [] => x.key
  | x :: _, y :: _ => if sle x.key y.key then x.key else y.key
  | [], [] => ⟨#[]⟩

def ofL : Nat → List Entry → List Entry → List Change
  | 0, _, _ => []
  | n + 1, l, m => if l.isEmpty && m.isEmpty then [] else
    (if (takeK l (leastKey l m)).2.1 ≠ (takeK m (leastKey l m)).2.1 ∨ (takeK l (leastKey l m)).1 ≠ (takeK m (leastKey l m)).1 then
      [(⟨leastKey l m, (takeK l (leastKey l m)).2.1, (takeK l (leastKey l m)).1, (takeK m (leastKey l m)).2.1, (takeK m (leastKey l m)).1⟩ : Change)] else [])
     ++ ofL n (takeK l (leastKey l m)).2.2 (takeK m (leastKey l m)).2.2

theorem take_len (l m : List Entry) (h : ¬ (l = [] ∧ m = [])) : (takeK l (leastKey l m)).2.2.length + (takeK m (leastKey l m)).2.2.length < l.length + m.length := by
  cases l with
  | nil => cases m with
    | nil => simp at h
    | cons y m => simp [takeK, leastKey]
  | cons x l => cases m with
    | nil => simp [takeK, leastKey]
    | cons y m =>
      simp only [leastKey]
      split <;> simp only [takeK, if_true] <;> split <;> simp <;> omega

/-- ref09.Keys: a key is put in, if it isn't there. -/
def insKey : List Str → Str → List Str
  | [], k => [k]
  | y :: ys, k => if slt y k then y :: insKey ys k else if y = k then y :: ys else k :: y :: ys
def keysIn (acc : List Str) (l : List Entry) : List Str := l.foldl (fun acc x => insKey acc x.key) acc
def keysOf (ls : List (List Entry)) : List Str := ls.foldl keysIn []
def cnt (ls : List (List Entry)) : Nat := (ls.map List.length).sum

def changeAt (l m : List Entry) (k : Str) : List Change := if get l k = get m k then [] else [⟨k, (get l k).has, (get l k).val, (get m k).has, (get m k).val⟩]
/-- ref09.Diff -/
def diffRef (l m : List Entry) : List Change := (keysOf [l, m]).flatMap (changeAt l m)

theorem insKey_len : ∀ (l : List Str) (k : Str), (insKey l k).length ≤ l.length + 1
  | [], k => by simp [insKey]
  | y :: ys, k => by
    have := insKey_len ys k
    unfold insKey
    split
    · simp; omega
    · split <;> simp
theorem ins_there : ∀ (l : List Str) (k : Str) (i : Nat) (hi : i < l.length), (∀ (j : Nat) (h : j < l.length), j < i → slt l[j] k = true) → slt l[i] k = false → l[i] = k → insKey l k = l
  | [], k, i, hi, _, _, _ => by simp at hi
  | y :: ys, k, 0, hi, h1, h2, h3 => by
    simp only [List.getElem_cons_zero] at h2 h3
    unfold insKey
    rw [if_neg (by simp [h2]), if_pos h3]
  | y :: ys, k, i + 1, hi, h1, h2, h3 => by
    have h0 : slt y k = true := h1 0 (by simp) (by omega)
    have ih := ins_there ys k i (by simpa using hi) (fun j h hj => h1 (j + 1) (by simpa using h) (by omega)) h2 h3
    unfold insKey
    rw [if_pos h0, ih]
theorem ins_new : ∀ (l : List Str) (k : Str) (i : Nat), i ≤ l.length → (∀ (j : Nat) (h : j < l.length), j < i → slt l[j] k = true) → (∀ h : i < l.length, slt l[i] k = false ∧ ¬ l[i] = k) → insKey l k = l.take i ++ k :: l.drop i
  | [], k, i, hi, _, _ => by simp [insKey]
  | y :: ys, k, 0, hi, h1, h2 => by
    obtain ⟨h3, h4⟩ := h2 (by simp)
    simp at h3 h4
    unfold insKey
    simp [h3, h4]
  | y :: ys, k, i + 1, hi, h1, h2 => by
    have h0 : slt y k = true := h1 0 (by simp) (by omega)
    have ih := ins_new ys k i (by simpa using hi) (fun j h hj => h1 (j + 1) (by simpa using h) (by omega)) (fun h => h2 (by simpa using h))
    unfold insKey
    rw [if_pos h0, ih]
    simp

end Go.Proofs.Ytofdmkglhjpbcaa
