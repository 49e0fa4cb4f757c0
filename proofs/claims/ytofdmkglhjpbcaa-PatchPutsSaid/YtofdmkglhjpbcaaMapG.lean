/- Maps from texts to elements of any one kind, in this claim's own words, over the library's 'ownsMap' and 'ranges': an element reads as itself ('.held'). No program is named here. -/
import Derived.Test.YtofdmkglhjpbcaaMapS
namespace Go.Proofs.Ytofdmkglhjpbcaa
open Go.RowKit Go.Maps
set_option linter.unusedVariables false
set_option linter.unusedSimpArgs false

section
variable {α : Type}
def gput (f : Str → Option α) (k : Str) (v : α) : Str → Option α := fun x => if x = k then some v else f x
def gdel (f : Str → Option α) (k : Str) : Str → Option α := fun x => if x = k then none else f x
def gnil : Str → Option α := fun _ => none
def heldR (v : Value) : Option (DataW Value × List MemPlace) := some (.held v, [])

def GReads (enc : α → Value) (D : DataW Value) (f : Str → Option α) : Prop := IsMap D ∧ ∀ k : Str, has D (lit k) = (f k).isSome ∧ ∀ v, f k = some v → ∀ z, D.atKey (lit k) z = .held (enc v)
variable {enc : α → Value}
theorem GReads.nil : GReads enc (.map []) gnil := ⟨isMap_empty, fun k => ⟨rfl, fun v h => by cases h⟩⟩
theorem GReads.put {D : DataW Value} {f : Str → Option α} (h : GReads enc D f) (k : Str) (v : α) : GReads enc (D.put (lit k) (.held (enc v))) (gput f k v) := by
  refine ⟨h.1.put _ _, fun x => ?_⟩
  unfold gput
  by_cases hx : x = k
  · subst hx
    rw [if_pos rfl]
    exact ⟨has_put_same h.1 (lit_key _) _, fun u hu z => by cases hu; exact atKey_put_same h.1 (lit_key _) _ z⟩
  · rw [if_neg hx]
    refine ⟨by rw [has_put_other (lit_ne hx)]; exact (h.2 x).1, fun u hu z => ?_⟩
    rw [atKey_put_other (lit_ne hx)]
    exact (h.2 x).2 u hu z
theorem GReads.del {D : DataW Value} {f : Str → Option α} (h : GReads enc D f) (k : Str) : GReads enc (D.del (lit k)) (gdel f k) := by
  refine ⟨h.1.del _, fun x => ?_⟩
  unfold gdel
  by_cases hx : x = k
  · subst hx
    rw [if_pos rfl]
    exact ⟨has_del_same, fun u hu => by cases hu⟩
  · rw [if_neg hx]
    refine ⟨by rw [has_del_other (lit_ne hx)]; exact (h.2 x).1, fun u hu z => ?_⟩
    rw [atKey_del_other (lit_ne hx)]
    exact (h.2 x).2 u hu z
theorem GReads.at {D : DataW Value} {f : Str → Option α} (h : GReads enc D f) (k : Str) (d : α) : D.atKey (lit k) (.held (enc d)) = .held (enc ((f k).getD d)) := by
  cases hf : f k with
  | none => rw [atKey_of_not_has (by rw [(h.2 k).1, hf]; rfl)]; rfl
  | some v => exact (h.2 k).2 v hf _

variable {P : Program} {k e : TypeId}
def MapG (P : Program) (k : TypeId) (enc : α → Value) (w : World) (b n : Nat) (f : Str → Option α) : Prop := ∃ D : DataW Value, w.ownsMap P k heldR b n D ∧ GReads enc D f
theorem MapG.made (w : World) : MapG P k enc (w.alloc (.map #[] 0)) w.heap.size 0 gnil := ⟨_, World.ownsMap_made _ _ _ _, GReads.nil⟩
theorem MapG.lt {w : World} {b n : Nat} {f : Str → Option α} (h : MapG P k enc w b n f) : b < w.heap.size := by obtain ⟨D, h, _⟩ := h; exact h.lt
theorem MapG.kept {w w' : World} {b n : Nat} {f : Str → Option α} {row : Option Nat} (h : MapG P k enc w b n f) (hg : w.grownBy w' row) (hne : some b ≠ row) : MapG P k enc w' b n f := by
  obtain ⟨D, h, hr⟩ := h
  exact ⟨D, h.kept hg hne, hr⟩
theorem MapG.below {w w' : World} {b n B : Nat} {f : Str → Option α} (h : MapG P k enc w b n f) (hb : Below B w w') (hB : b < B) : MapG P k enc w' b n f := by
  obtain ⟨D, ⟨es, clock, h1, h2, h3, h4⟩, hr⟩ := h
  exact ⟨D, ⟨es, clock, (hb.block b hB).trans h1, h2, h3, h4⟩, hr⟩
theorem MapG.mono {w : World} {b n n' : Nat} {f : Str → Option α} (h : MapG P k enc w b n f) (hn : n ≤ n') : MapG P k enc w b n' f := by
  obtain ⟨D, h, hr⟩ := h
  exact ⟨D, h.mono hn, hr⟩

/-- 'm[k]': the element, or the zero value. -/
theorem MapG.look (hk : P.underlying k = some .string) {w : World} {b n : Nat} {f : Str → Option α} (h : MapG P k enc w b n f) (t : TypeId) (ht : P.underlying t = some (.map k e)) (d : α) (hz : (zeroValue e).run P w = .ok (enc d) w) (key : Str) (hks : key.size ≤ maxLen) :
    (Instr.lookup t (.map (some b)) (.string key) false).run P w = .ok (enc ((f key).getD d)) w := by
  obtain ⟨D, h, hr⟩ := h
  obtain ⟨v, ps, hrun, hv⟩ := h.lookup (string_keyed hk) ht hz (zd := .held (enc d)) (zp := []) rfl (WideMaps.keyOf_string_mk hk hks)
  have hv2 : (DataW.held v, ([] : List MemPlace)) = (D.atKey (lit key) (.held (enc d)), ps) := Option.some.inj hv
  rw [hr.at] at hv2
  injection hv2 with h1 _
  injection h1 with h1
  rw [hrun, h1]
/-- 'v, ok := m[k]'. -/
theorem MapG.look_ok (hk : P.underlying k = some .string) {w : World} {b n : Nat} {f : Str → Option α} (h : MapG P k enc w b n f) (t : TypeId) (ht : P.underlying t = some (.map k e)) (d : α) (hz : (zeroValue e).run P w = .ok (enc d) w) (key : Str) (hks : key.size ≤ maxLen) :
    (Instr.lookup t (.map (some b)) (.string key) true).run P w = .ok (.tuple #[enc ((f key).getD d), .bool (f key).isSome]) w := by
  obtain ⟨D, h, hr⟩ := h
  obtain ⟨v, ps, hrun, hv⟩ := h.look_ok (string_keyed hk) ht hz (zd := .held (enc d)) (zp := []) rfl (WideMaps.keyOf_string_mk hk hks)
  have hv2 : (DataW.held v, ([] : List MemPlace)) = (D.atKey (lit key) (.held (enc d)), ps) := Option.some.inj hv
  rw [hr.at] at hv2
  injection hv2 with h1 _
  injection h1 with h1
  have hh : Maps.has D (.string key.data.toList) = (f key).isSome := (hr.2 key).1
  rw [hrun, h1, hh]

/-- 'm[k] = v' as a run. -/
theorem MapG.upd (hk : P.underlying k = some .string) {w : World} {b n : Nat} {f : Str → Option α} (h : MapG P k enc w b n f) (hn : n < maxLen) (t : TypeId) (ht : P.underlying t = some (.map k e)) (key : Str) (hks : key.size ≤ maxLen) (val : α) :
    ∃ w', (Instr.mapUpdate t (.map (some b)) (.string key) (enc val)).run P w = .ok () w' ∧ MapG P k enc w' b (n + 1) (gput f key val) ∧ w.grownBy w' (some b) := by
  obtain ⟨D, h, hr⟩ := h
  obtain ⟨w', hrun, r1, r2⟩ := h.update (string_keyed hk) ht hn (WideMaps.keyOf_string_mk hk hks) (d := .held (enc val)) (ps := []) rfl
  exact ⟨w', hrun, ⟨_, r1, hr.put key val⟩, r2⟩

/-- A range over the map is under way: 'left' are the keys still to come. -/
def RangeG (P : Program) (k : TypeId) (enc : α → Value) (w : World) (b r n : Nat) (f : Str → Option α) (left : Str → Bool) (cnt : Nat) : Prop :=
  ∃ (D : DataW Value) (lf : Lit → Bool), w.ranges P k heldR b r n D lf cnt ∧ GReads enc D f ∧ ∀ x, lf (lit x) = left x
theorem RangeG.kept {w w' : World} {b r n : Nat} {f : Str → Option α} {left : Str → Bool} {cnt : Nat} {row : Option Nat} (h : RangeG P k enc w b r n f left cnt) (hg : w.grownBy w' row) (hb : some b ≠ row) (hr : some r ≠ row) : RangeG P k enc w' b r n f left cnt := by
  obtain ⟨D, lf, h, hR⟩ := h
  exact ⟨D, lf, h.kept hg hb hr, hR⟩
theorem RangeG.owns {w : World} {b r n : Nat} {f : Str → Option α} {left : Str → Bool} {cnt : Nat} (h : RangeG P k enc w b r n f left cnt) : MapG P k enc w b n f := by
  obtain ⟨D, lf, h, hR, _⟩ := h
  exact ⟨D, h.owns, hR⟩
theorem RangeG.cnt_le {w : World} {b r n : Nat} {f : Str → Option α} {left : Str → Bool} {cnt : Nat} (h : RangeG P k enc w b r n f left cnt) : cnt ≤ n := by
  obtain ⟨D, lf, h, hR⟩ := h
  obtain ⟨es, clock, since, seen, c0, h1, h2, h3, h4, h5, h6, h7, _⟩ := h
  rw [← h7]
  exact Nat.le_trans (by unfold leftOf; exact Array.size_filter_le) h3
theorem RangeG.lt {w : World} {b r n : Nat} {f : Str → Option α} {left : Str → Bool} {cnt : Nat} (h : RangeG P k enc w b r n f left cnt) : b < w.heap.size ∧ r < w.heap.size := by
  obtain ⟨D, lf, h, hR⟩ := h
  obtain ⟨es, clock, since, seen, c0, h1, h2, h3, h4, h5, h6⟩ := h
  exact ⟨blk_lt h1, blk_lt h5⟩

variable (w : World) {ops : Array Oper} {rest : List Oper} {o : Oper} {a : Act} {Q : Exit → Act → World → Prop}
theorem gmput (hk : P.underlying k = some .string) (hg : o.guard = none) (m x v : Operand) (t : TypeId) (hop : o.op = Op.mapUpdate t m x v) (ht : P.underlying t = some (.map k e)) (b n : Nat) (f : Str → Option α)
    (hm : a.eval m = .map (some b)) (h : MapG P k enc w b n f) (hn : n < maxLen) (key : Str) (val : α) (hx : a.eval x = .string key) (hv : a.eval v = enc val) (hks : key.size ≤ maxLen)
    (hK : ∀ w', MapG P k enc w' b (n + 1) (gput f key val) → w.grownBy w' (some b) → wpList P ops Q rest (a.put o.dst undef) w') : wpList P ops Q (o :: rest) a w := by
  obtain ⟨D, h, hr⟩ := h
  exact wpList_mapUpdate_own w hg m x v t hop k e (string_keyed hk) ht _ b n D hm h hn _ _ (lit key) hx hv (WideMaps.keyOf_string_mk hk hks) (.held (enc val)) [] rfl
    fun w' h1 h2 => hK w' ⟨_, h1, hr.put key val⟩ h2
theorem gmdel (hk : P.underlying k = some .string) (hg : o.guard = none) (m x : Operand) (t : TypeId) (hop : o.op = Op.call { callee := Callee.builtin Builtin.delete, args := #[m, x], argTypes := #[t, k] }) (ht : P.underlying t = some (.map k e)) (b n : Nat) (f : Str → Option α)
    (hm : a.eval m = .map (some b)) (h : MapG P k enc w b n f) (key : Str) (hx : a.eval x = .string key) (hks : key.size ≤ maxLen)
    (hK : ∀ w', MapG P k enc w' b n (gdel f key) → w.grownBy w' (some b) → wpList P ops Q rest (a.put o.dst (.tuple #[])) w') : wpList P ops Q (o :: rest) a w := by
  obtain ⟨D, h, hr⟩ := h
  exact wpList_delete_own w hg m x t k hop e (string_keyed hk) ht _ b n D hm h _ (lit key) hx (WideMaps.keyOf_string_mk hk hks)
    fun w' h1 h2 => hK w' ⟨_, h1, hr.del key⟩ h2.grown
theorem gmrange (hk : P.underlying k = some .string) (hg : o.guard = none) (m : Operand) (t : TypeId) (hop : o.op = Op.range t m) (ht : P.underlying t = some (.map k e)) (b n : Nat) (f : Str → Option α)
    (hm : a.eval m = .map (some b)) (h : MapG P k enc w b n f)
    (hK : ∀ w' cnt, RangeG P k enc w' b w.heap.size n f (fun x => (f x).isSome) cnt → w.grownBy w' none → w'.heap.size = w.heap.size + 1 → wpList P ops Q rest (a.put o.dst (.pointer (some ⟨w.heap.size, 0, none⟩))) w') : wpList P ops Q (o :: rest) a w := by
  obtain ⟨D, h, hr⟩ := h
  exact wpList_range_own w hg m t hop k e (string_keyed hk) ht _ b n D hm h fun w' h1 h2 h3 => hK w' _ ⟨D, _, h1, hr, fun x => (hr.2 x).1⟩ h2 h3
theorem gmnext (hinj : ∀ x y : α, enc x = enc y → x = y) (hk : P.underlying k = some .string) (hg : o.guard = none) (it : Operand) (hop : o.op = Op.next it false) (b r n : Nat) (f : Str → Option α) (left : Str → Bool) (cnt : Nat)
    (hit : a.eval it = .pointer (some ⟨r, 0, none⟩)) (h : RangeG P k enc w b r n f left cnt) (hl : ∀ x, left x = true → (f x).isSome = true)
    (hDone : cnt = 0 → (∀ x, left x = false) → wpList P ops Q rest (a.put o.dst (.tuple #[.bool false])) w)
    (hMore : ∀ (x : Str) (c : α) (w' : World) (cnt' : Nat), x.size ≤ maxLen → left x = true → f x = some c → RangeG P k enc w' b r n f (fun z => left z && !decide (z = x)) cnt' → cnt' < cnt →
      w.grownBy w' (some r) → w'.heap.size = w.heap.size → (Instr.entry (.pointer (some ⟨r, 0, none⟩))).run P w' = .ok (.tuple #[.string x, enc c]) w' → wpList P ops Q rest (a.put o.dst (.tuple #[.bool true, .string x, enc c])) w') :
    wpList P ops Q (o :: rest) a w := by
  obtain ⟨D, lf, h, hr, hlf⟩ := h
  refine wpList_next_ranges w hg it hop k (string_keyed hk) heldR Value.string (id : Value → Value) ?_ (fun v y _ => ⟨v, rfl⟩) b r n D lf cnt hit h (fun h0 hd => hDone h0 fun x => by rw [← hlf]; exact hd _) ?_
  · intro key kl hkey
    obtain ⟨s, rfl, _⟩ := WideMaps.string_of_keyOf hk hkey
    exact ⟨s, rfl⟩
  · intro x c kl y w' cnt' hkey hlk hv hat hrg hlt hgr hsz hen
    have hy : y = (.held c, []) := (Option.some.inj hv).symm
    obtain ⟨s, e1, e2, hs⟩ := WideMaps.string_of_keyOf hk hkey
    cases e1
    have hkl : kl = lit x := e2
    subst hkl
    have hlx : left x = true := by rw [← hlf]; exact hlk
    have hfx := hl x hlx
    obtain ⟨v, hfv⟩ := Option.isSome_iff_exists.1 hfx
    have hcv : c = enc v := by
      have h1 := (hr.2 x).2 v hfv (.lit (lit x))
      have h2 := hat (.lit (lit x))
      rw [h1, hy] at h2
      injection h2 with h2
      exact h2.symm
    subst hcv
    refine hMore x v w' cnt' hs hlx hfv ⟨D, _, hrg, hr, fun z => ?_⟩ hlt hgr hsz hen
    rw [hlf]
    congr 2
    by_cases hz : z = x
    · subst hz; simp [WideAt.sameKey_self (lit_key z)]
    · rw [sameKey_ne (lit_ne hz)]; simp [hz]
end
end Go.Proofs.Ytofdmkglhjpbcaa
