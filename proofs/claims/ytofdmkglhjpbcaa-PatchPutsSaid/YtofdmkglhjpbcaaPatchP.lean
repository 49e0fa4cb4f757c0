/- Patches in plain words; no program. -/
import Derived.Test.YtofdmkglhjpbcaaMergeP
namespace Go.Proofs.Ytofdmkglhjpbcaa
open Go.RowKit
set_option linter.unusedVariables false
set_option linter.unusedSimpArgs false

def emptyS : Str := ⟨#[]⟩
def textE (has : Bool) (v : Str) : Int := if has = false ∧ ¬ v = emptyS then 101 else valErr v
def chgErr (c : Change) : Int := if keyErr c.key ≠ 0 then keyErr c.key else if textE c.had c.was ≠ 0 then textE c.had c.was else textE c.has c.now
/-- A change that changes nothing. -/
def idle (c : Change) : Bool := decide (c.had = c.has) && decide (c.was = c.now)
/-- The first key that must be less. -/
def notUp (p : Option Str) (k : Str) : Bool := match p with | none => false | some x => !slt x k
def patchGo : Option Str → List Change → Int
  | _, [] => 0
  | p, c :: l => if chgErr c ≠ 0 then chgErr c else if (notUp p c.key || idle c) = true then 170 else patchGo (some c.key) l
def patchErr (l : List Change) : Int := patchGo none l
def prevKey (l : List Change) (k : Nat) : Option Str := if k = 0 then none else (l[k - 1]?).map (·.key)
theorem prevKey_succ {l : List Change} {k : Nat} {c : Change} (h : l[k]? = some c) : prevKey l (k + 1) = some c.key := by
  simp [prevKey, h]
theorem textE_rng (has : Bool) (v : Str) : textE has v = 0 ∨ textE has v = 101 := by
  unfold textE
  split
  · exact .inr rfl
  · exact valErr_or v
theorem chgErr_rng (c : Change) : chgErr c = 0 ∨ chgErr c = 100 ∨ chgErr c = 101 := by
  unfold chgErr
  rcases keyErr_or c.key with h | h
  · rcases textE_rng c.had c.was with h1 | h1
    · rcases textE_rng c.has c.now with h2 | h2 <;> simp [h, h1, h2]
    · simp [h, h1]
  · simp [h]

def lightC (c : Change) : Bool := !decide (60 < c.key.size) && (!decide (250 < c.was.size) && !decide (250 < c.now.size))
def lightCs (l : List Change) : Bool := l.all lightC && decide (l.length ≤ 40)
theorem lightCs_len {l : List Change} (h : lightCs l = true) : l.length ≤ 40 := by
  unfold lightCs at h
  simp only [Bool.and_eq_true, decide_eq_true_eq] at h
  exact h.2
end Go.Proofs.Ytofdmkglhjpbcaa
