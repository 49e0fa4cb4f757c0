/- Maps from texts to texts, in this claim's own words, over the library's 'ownsMap' and 'ranges'. No program is named here. -/
import Derived.Test.YtofdmkglhjpbcaaBase
import Derived.Maps.StringElems
import Derived.Maps.Ext
import Derived.StringKeys
namespace Go.Proofs.Ytofdmkglhjpbcaa
open Go.RowKit Go.Maps
set_option linter.unusedVariables false
set_option linter.unusedSimpArgs false

abbrev Fm := Str → Option Str
def lit (s : Str) : Lit := .string s.data.toList
theorem lit_inj {a b : Str} (h : lit a = lit b) : a = b := by
  unfold lit at h
  injection h with h
  cases a; cases b; simp_all
theorem lit_ne {a b : Str} (h : a ≠ b) : lit a ≠ lit b := fun e => h (lit_inj e)
theorem lit_key (s : Str) : WideAt.IsKeyLit (lit s) := trivial
def Fm.put (f : Fm) (k v : Str) : Fm := fun x => if x = k then some v else f x
def Fm.del (f : Fm) (k : Str) : Fm := fun x => if x = k then none else f x
def Fm.nil : Fm := fun _ => none

/-- What the datum of a map says. -/
def Reads (D : DataW Unit) (f : Fm) : Prop := IsMap D ∧ ∀ k : Str, has D (lit k) = (f k).isSome ∧ ∀ v, f k = some v → ∀ z, D.atKey (lit k) z = .lit (lit v)
theorem Reads.nil : Reads (.map []) Fm.nil := ⟨isMap_empty, fun k => ⟨rfl, fun v h => by cases h⟩⟩
theorem Reads.put {D : DataW Unit} {f : Fm} (h : Reads D f) (k v : Str) : Reads (D.put (lit k) (.lit (lit v))) (f.put k v) := by
  refine ⟨h.1.put _ _, fun x => ?_⟩
  unfold Fm.put
  by_cases hx : x = k
  · subst hx
    rw [if_pos rfl]
    exact ⟨has_put_same h.1 (lit_key _) _, fun u hu z => by cases hu; exact atKey_put_same h.1 (lit_key _) _ z⟩
  · rw [if_neg hx]
    refine ⟨by rw [has_put_other (lit_ne hx)]; exact (h.2 x).1, fun u hu z => ?_⟩
    rw [atKey_put_other (lit_ne hx)]
    exact (h.2 x).2 u hu z
theorem Reads.del {D : DataW Unit} {f : Fm} (h : Reads D f) (k : Str) : Reads (D.del (lit k)) (f.del k) := by
  refine ⟨h.1.del _, fun x => ?_⟩
  unfold Fm.del
  by_cases hx : x = k
  · subst hx
    rw [if_pos rfl]
    exact ⟨has_del_same, fun u hu => by cases hu⟩
  · rw [if_neg hx]
    refine ⟨by rw [has_del_other (lit_ne hx)]; exact (h.2 x).1, fun u hu z => ?_⟩
    rw [atKey_del_other (lit_ne hx)]
    exact (h.2 x).2 u hu z

section
variable {P : Program} {k e : TypeId}
def MapS (P : Program) (k e : TypeId) (w : World) (b n : Nat) (f : Fm) : Prop := ∃ D : DataW Unit, w.ownsMap P k (plainElem P e) b n D ∧ Reads D f
theorem MapS.made (w : World) : MapS P k e (w.alloc (.map #[] 0)) w.heap.size 0 Fm.nil := ⟨_, World.ownsMap_made _ _ _ _, Reads.nil⟩
theorem MapS.lt {w : World} {b n : Nat} {f : Fm} (h : MapS P k e w b n f) : b < w.heap.size := by obtain ⟨D, h, _⟩ := h; exact h.lt
theorem MapS.kept {w w' : World} {b n : Nat} {f : Fm} {row : Option Nat} (h : MapS P k e w b n f) (hg : w.grownBy w' row) (hne : some b ≠ row) : MapS P k e w' b n f := by
  obtain ⟨D, h, hr⟩ := h
  exact ⟨D, h.kept hg hne, hr⟩
theorem MapS.mono {w : World} {b n n' : Nat} {f : Fm} (h : MapS P k e w b n f) (hn : n ≤ n') : MapS P k e w b n' f := by
  obtain ⟨D, h, hr⟩ := h
  exact ⟨D, h.mono hn, hr⟩

/-- A range over the map is under way: 'left' are the keys still to come. -/
def RangeS (P : Program) (k e : TypeId) (w : World) (b r n : Nat) (f : Fm) (left : Str → Bool) (cnt : Nat) : Prop :=
  ∃ (D : DataW Unit) (lf : Lit → Bool), w.ranges P k (plainElem P e) b r n D lf cnt ∧ Reads D f ∧ ∀ x, lf (lit x) = left x
theorem RangeS.kept {w w' : World} {b r n : Nat} {f : Fm} {left : Str → Bool} {cnt : Nat} {row : Option Nat} (h : RangeS P k e w b r n f left cnt) (hg : w.grownBy w' row) (hb : some b ≠ row) (hr : some r ≠ row) : RangeS P k e w' b r n f left cnt := by
  obtain ⟨D, lf, h, hR⟩ := h
  exact ⟨D, lf, h.kept hg hb hr, hR⟩
theorem RangeS.left_eq {w : World} {b r n : Nat} {f : Fm} {left : Str → Bool} {cnt : Nat} (h : RangeS P k e w b r n f left cnt) : w.rangeLeft b r = cnt := by
  obtain ⟨D, lf, h, hR⟩ := h
  exact h.left_eq
theorem RangeS.cnt_le {w : World} {b r n : Nat} {f : Fm} {left : Str → Bool} {cnt : Nat} (h : RangeS P k e w b r n f left cnt) : cnt ≤ n := by
  obtain ⟨D, lf, h, hR⟩ := h
  obtain ⟨es, clock, since, seen, c0, h1, h2, h3, h4, h5, h6, h7, _⟩ := h
  rw [← h7]
  exact Nat.le_trans (by unfold leftOf; exact Array.size_filter_le) h3
theorem RangeS.lt {w : World} {b r n : Nat} {f : Fm} {left : Str → Bool} {cnt : Nat} (h : RangeS P k e w b r n f left cnt) : b < w.heap.size ∧ r < w.heap.size := by
  obtain ⟨D, lf, h, hR⟩ := h
  obtain ⟨es, clock, since, seen, c0, h1, h2, h3, h4, h5, h6⟩ := h
  exact ⟨blk_lt h1, blk_lt h5⟩

variable (w : World) {ops : Array Oper} {rest : List Oper} {o : Oper} {a : Act} {Q : Exit → Act → World → Prop}
theorem sput (hk : P.underlying k = some .string) (he : P.underlying e = some .string) (hg : o.guard = none) (m x v : Operand) (t : TypeId) (hop : o.op = Op.mapUpdate t m x v) (ht : P.underlying t = some (.map k e)) (b n : Nat) (f : Fm)
    (hm : a.eval m = .map (some b)) (h : MapS P k e w b n f) (hn : n < maxLen) (key val : Str) (hx : a.eval x = .string key) (hv : a.eval v = .string val) (hks : key.size ≤ maxLen) (hvs : val.size ≤ maxLen)
    (hK : ∀ w', MapS P k e w' b (n + 1) (f.put key val) → w.grownBy w' (some b) → wpList P ops Q rest (a.put o.dst undef) w') : wpList P ops Q (o :: rest) a w := by
  obtain ⟨D, h, hr⟩ := h
  exact wpList_mapUpdate_own w hg m x v t hop k e (string_keyed hk) ht _ b n D hm h hn _ _ (lit key) hx hv (WideMaps.keyOf_string_mk hk hks) (.lit (lit val)) [] (plainElem_string he hvs)
    fun w' h1 h2 => hK w' ⟨_, h1, hr.put key val⟩ h2
theorem sdel (hk : P.underlying k = some .string) (hg : o.guard = none) (m x : Operand) (t : TypeId) (hop : o.op = Op.call { callee := Callee.builtin Builtin.delete, args := #[m, x], argTypes := #[t, k] }) (ht : P.underlying t = some (.map k e)) (b n : Nat) (f : Fm)
    (hm : a.eval m = .map (some b)) (h : MapS P k e w b n f) (key : Str) (hx : a.eval x = .string key) (hks : key.size ≤ maxLen)
    (hK : ∀ w', MapS P k e w' b n (f.del key) → w.grownBy w' (some b) → wpList P ops Q rest (a.put o.dst (.tuple #[])) w') : wpList P ops Q (o :: rest) a w := by
  obtain ⟨D, h, hr⟩ := h
  exact wpList_delete_own w hg m x t k hop e (string_keyed hk) ht _ b n D hm h _ (lit key) hx (WideMaps.keyOf_string_mk hk hks)
    fun w' h1 h2 => hK w' ⟨_, h1, hr.del key⟩ h2.grown
theorem srange (hk : P.underlying k = some .string) (hg : o.guard = none) (m : Operand) (t : TypeId) (hop : o.op = Op.range t m) (ht : P.underlying t = some (.map k e)) (b n : Nat) (f : Fm)
    (hm : a.eval m = .map (some b)) (h : MapS P k e w b n f)
    (hK : ∀ w' cnt, RangeS P k e w' b w.heap.size n f (fun x => (f x).isSome) cnt → w.grownBy w' none → w'.heap.size = w.heap.size + 1 → wpList P ops Q rest (a.put o.dst (.pointer (some ⟨w.heap.size, 0, none⟩))) w') : wpList P ops Q (o :: rest) a w := by
  obtain ⟨D, h, hr⟩ := h
  exact wpList_range_own w hg m t hop k e (string_keyed hk) ht _ b n D hm h fun w' h1 h2 h3 => hK w' _ ⟨D, _, h1, hr, fun x => (hr.2 x).1⟩ h2 h3
theorem snext (hk : P.underlying k = some .string) (he : P.underlying e = some .string) (hg : o.guard = none) (it : Operand) (hop : o.op = Op.next it false) (b r n : Nat) (f : Fm) (left : Str → Bool) (cnt : Nat)
    (hit : a.eval it = .pointer (some ⟨r, 0, none⟩)) (h : RangeS P k e w b r n f left cnt) (hl : ∀ x, left x = true → (f x).isSome = true)
    (hDone : cnt = 0 → (∀ x, left x = false) → wpList P ops Q rest (a.put o.dst (.tuple #[.bool false])) w)
    (hMore : ∀ (x c : Str) (w' : World) (cnt' : Nat), left x = true → f x = some c → RangeS P k e w' b r n f (fun z => left z && !decide (z = x)) cnt' → cnt' < cnt →
      w.grownBy w' (some r) → w'.heap.size = w.heap.size → (Instr.entry (.pointer (some ⟨r, 0, none⟩))).run P w' = .ok (.tuple #[.string x, .string c]) w' → wpList P ops Q rest (a.put o.dst (.tuple #[.bool true, .string x, .string c])) w') :
    wpList P ops Q (o :: rest) a w := by
  obtain ⟨D, lf, h, hr, hlf⟩ := h
  refine wpList_next_ranges w hg it hop k (string_keyed hk) (plainElem P e) Value.string Value.string ?_ ?_ b r n D lf cnt hit h (fun h0 hd => hDone h0 fun x => by rw [← hlf]; exact hd _) ?_
  · intro key kl hkey
    obtain ⟨s, rfl, _⟩ := WideMaps.string_of_keyOf hk hkey
    exact ⟨s, rfl⟩
  · intro v y hv
    obtain ⟨c, rfl, _⟩ := plainElem_string_inv he hv
    exact ⟨c, rfl⟩
  · intro x c kl y w' cnt' hkey hlk hv hat hrg hlt hgr hsz hen
    obtain ⟨c', ec, rfl, hwc⟩ := plainElem_string_inv he hv
    cases ec
    have hkl : kl = lit x := by
      obtain ⟨s, e, rfl, _⟩ := WideMaps.string_of_keyOf hk hkey
      cases e; rfl
    subst hkl
    have hlx : left x = true := by rw [← hlf]; exact hlk
    have hfx := hl x hlx
    obtain ⟨v, hfv⟩ := Option.isSome_iff_exists.1 hfx
    have hcv : c = v := by
      have h1 := (hr.2 x).2 v hfv (.lit (lit x))
      have h2 := hat (.lit (lit x))
      rw [h1] at h2
      injection h2 with h2
      exact (lit_inj h2).symm
    subst hcv
    refine hMore x c w' cnt' hlx hfv ⟨D, _, hrg, hr, fun z => ?_⟩ hlt hgr hsz hen
    rw [hlf]
    congr 2
    by_cases hz : z = x
    · subst hz; simp [WideAt.sameKey_self (lit_key z)]
    · rw [sameKey_ne (lit_ne hz)]; simp [hz]
end
end Go.Proofs.Ytofdmkglhjpbcaa
