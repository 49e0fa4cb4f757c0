/- diff.Apply, over what slices.SortFunc does (SortOk) -/
import Derived.Test.YtofdmkglhjpbcaaEdits
import Derived.Test.YtofdmkglhjpbcaaMapS
import Derived.Test.YtofdmkglhjpbcaaOrder
namespace Go.Proofs.Ytofdmkglhjpbcaa
open Go.RowKit Go.Maps
set_option linter.unusedVariables false
set_option linter.unusedSimpArgs false

/-- What slices.SortFunc does with a row of entries of the call's own. -/
def SortOk : Prop := ∀ (w : World) (base : Nat) (v : Value) (l : List Entry), l.length < 4611686018427387904 → Own Entry.enc 2 72 base w v l →
  Calls Try.prog 46 #[v, Value.func (.func 47) #[] #[]] w fun e w' => e = .returned (.tuple #[]) ∧ ∃ l' : List Entry, Own Entry.enc 2 72 base w' v l' ∧ l'.Perm l ∧ l'.Pairwise (fun x y => slt y.key x.key = false) ∧ w.grownBy w' v.ownBlock

def vals (l : List Entry) : Fm := l.foldl (fun f x => f.put x.key x.val) Fm.nil
def done1 (f : Fm) (x : EditE) : Fm := if x.gone then f.del x.key else f.put x.key x.val
/-- What stands at the keys behind the edits. -/
def applied (a : List Entry) (l : List EditE) : Fm := l.foldl done1 (vals a)
theorem vals_snoc (l : List Entry) (x : Entry) : vals (l ++ [x]) = (vals l).put x.key x.val := by simp [vals, List.foldl_append]
theorem applied_snoc (a : List Entry) (l : List EditE) (x : EditE) : applied a (l ++ [x]) = done1 (applied a l) x := by simp [applied, List.foldl_append]
theorem take_snoc {α : Type} {l : List α} {k : Nat} {x : α} (h : l[k]? = some x) : l.take (k + 1) = l.take k ++ [x] := by rw [List.take_add_one, h]; rfl
theorem infoEn : (Try.prog.info? 72).map (fun i => (i.zero, i.size, i.bytes)) = some (some (.agg #[.string ⟨#[]⟩, .string ⟨#[]⟩]), 2, 32) := by kernel_rfl

/-- What has been told of a map so far. -/
structure Told (f : Fm) (left : Str → Bool) (l : List Entry) : Prop where
  mem : ∀ x : Entry, x ∈ l ↔ f x.key = some x.val ∧ left x.key = false
  nodup : (l.map (·.key)).Nodup
theorem Told.start (f : Fm) : Told f (fun x => (f x).isSome) [] := by
  refine ⟨fun x => ⟨fun h => (by cases h), fun h => ?_⟩, List.nodup_nil⟩
  obtain ⟨h1, h2⟩ := h
  rw [h1] at h2
  cases h2
theorem Told.step {f : Fm} {left : Str → Bool} {l : List Entry} (h : Told f left l) {k v : Str} (hk : left k = true) (hv : f k = some v) : Told f (fun z => left z && !decide (z = k)) (l ++ [⟨k, v⟩]) := by
  refine ⟨fun x => ?_, ?_⟩
  · rw [List.mem_append, h.mem, List.mem_singleton]
    by_cases hx : x.key = k
    · constructor
      · rintro (⟨h1, h2⟩ | h1)
        · rw [hx, hk] at h2; cases h2
        · subst h1; exact ⟨hv, by simp⟩
      · rintro ⟨h1, h2⟩
        right
        rw [hx, hv] at h1
        cases x
        simp only at hx
        injection h1 with h1
        subst hx h1
        rfl
    · constructor
      · rintro (⟨h1, h2⟩ | h1)
        · exact ⟨h1, by simp [h2]⟩
        · subst h1; exact absurd rfl hx
      · rintro ⟨h1, h2⟩
        left
        exact ⟨h1, by simpa [hx] using h2⟩
  · rw [List.map_append, List.nodup_append]
    refine ⟨h.nodup, by simp, fun a ha b hb e => ?_⟩
    obtain ⟨x, hx, rfl⟩ := List.mem_map.1 ha
    simp only [List.map_cons, List.map_nil, List.mem_singleton] at hb
    subst hb
    have := (h.mem x).1 hx
    rw [e, hk] at this
    cases this.2

theorem sorted_rises {l : List Entry} (hn : (l.map (·.key)).Nodup) (hp : l.Pairwise (fun x y => slt y.key x.key = false)) : rises l = true := by
  apply srt_rises
  unfold keyList Srt
  rw [List.Nodup, List.pairwise_map] at hn
  rw [List.pairwise_map]
  exact (hn.and hp).imp fun {x y} h => by
    rcases slt_total x.key y.key with e | e | e
    · exact e
    · exact absurd e h.1
    · rw [h.2] at e; cases e

set_option maxRecDepth 100000 in
theorem Apply_calls (hS : SortOk) (w : World) (A B : Option Addr) (c d : Nat) (a : List Entry) (l : List EditE) (ha : a.length ≤ 1000000) (hl : l.length ≤ 1000000)
    (hsa : ∀ x ∈ a, x.key.size ≤ 9223372036854775807 ∧ x.val.size ≤ 9223372036854775807) (hsl : ∀ x ∈ l, x.key.size ≤ 9223372036854775807 ∧ x.val.size ≤ 9223372036854775807)
    (hA : Rd Entry.enc 2 w A a) (hB : Rd EditE.enc 3 w B l) :
    Calls Try.prog 18 #[.slice A a.length c, .slice B l.length d] w fun e w' => ∃ v r, e = .returned v ∧ Own Entry.enc 2 72 w.heap.size w' v r ∧ rises r = true ∧ (∀ x : Entry, x ∈ r ↔ applied a l x.key = some x.val) ∧ Below w.heap.size w w' := by
  have hA1 := Lib.hid hA
  have hB1 := Lib.hid hB
  have hsa1 := Lib.hid hsa
  have hsl1 := Lib.hid hsl
  have hS1 := Lib.hid hS
  clear hA hB hsa hsl hS
  have hmm := @run_makeMap Try.prog
  have hm0 := Lib.hid (MapS.made (P := Try.prog) (k := 9) (e := 9) w)
  have hb0 := Lib.hid (bl_alloc (Below.refl w.heap.size w) (.map #[] 0))
  go_enter Try.func18, Try.ntmps18
  go_wp2
  go_loopg [16] a.length (fun n i wr => ∃ k : Nat, i = .int .i64 k ∧ k + n = a.length ∧ Hid (MapS Try.prog 9 9 wr w.heap.size k (vals (a.take k))) ∧ Hid (Below w.heap.size w wr))
  case atStart => exact ⟨0, rfl, by omega, hm0.out, hb0.out⟩
  case round =>
    obtain ⟨k, rfl, hk, hm, hb⟩ := hrel
    by_cases hlt : k < a.length
    · obtain ⟨n', hn'⟩ : ∃ n', gk = n' + 1 := ⟨gk - 1, by omega⟩
      subst hn'
      have hrk := Lib.hid (hA1.out.below hb.out (Nat.le_refl _))
      rcases hrk.out with h0 | ⟨b, off, rfl, hbl, hcell⟩
      · simp [h0] at hlt
      have hx := List.getElem?_eq_getElem hlt
      have hd : Hid (vals (a.take (k + 1)) = (vals (a.take k)).put a[k].key a[k].val) := by show _ = _; rw [take_snoc hx, vals_snoc]
      obtain ⟨z1, z2⟩ := hsa1.out _ (List.getElem_mem hlt)
      have c0 : wr.cell? ⟨b, off + k * 2, none⟩ = some (.string a[k].key) := hcell k a[k] hx 0 _ rfl
      have c1 : wr.cell? ⟨b, off + k * 2 + 1, none⟩ = some (.string a[k].val) := hcell k a[k] hx 1 _ rfl
      generalize hxx : a[k] = x at *
      obtain ⟨key, val⟩ := x
      clear hcell hx hxx hrk
      have Z1 : Hid (key.size ≤ maxLen) := by show _ ≤ _; unfold maxLen; exact z1
      have Z2 : Hid (val.size ≤ maxLen) := by show _ ≤ _; unfold maxLen; exact z2
      have KM : Hid (k < maxLen) := by show _ < _; unfold maxLen; omega
      clear z1 z2
      have hm2 := Lib.hid (hm.out.kept (World.grownBy_alloc wr (.cells #[.string key, .string val] 72) none) (by simp))
      have hb2 := Lib.hid (bl_alloc hb.out (.cells #[.string key, .string val] 72))
      go_wp2_with (at_mapUpdate; refine sput _ Try.underlying9 Try.underlying9 rfl _ _ _ 80 rfl Try.underlying80 w.heap.size k _ rfl hm2.out KM.out key val rfl rfl Z1.out Z2.out ?_; intro w1 hm3 hg3)
      go_roundg n'
      case measure => omega
      case rel =>
        refine ⟨k + 1, by go_num, by omega, by show MapS _ _ _ _ _ _ _; rw [hd.out]; exact hm3, ?_⟩
        exact hb2.out.grown hg3 hb2.out.size (fun k e => by cases e; exact Nat.le_refl _)
    · have hk' : k = a.length := by omega
      subst hk'
      have hm2 : Hid (MapS Try.prog 9 9 wr w.heap.size (a.length + 0) (applied a (l.take 0))) := by show MapS _ _ _ _ _ _ _; have := hm.out; rw [List.take_length] at this; exact this
      have hb2 := hb
      clear hm hb hlt hk hm0 hb0
      go_wp2
      go_loopg [28] l.length (fun n i wr => ∃ k : Nat, i = .int .i64 k ∧ k + n = l.length ∧ Hid (MapS Try.prog 9 9 wr w.heap.size (a.length + k) (applied a (l.take k))) ∧ Hid (Below w.heap.size w wr))
      case atStart => exact ⟨0, rfl, by omega, hm2.out, hb2.out⟩
      case round =>
        obtain ⟨k, rfl, hk, hm, hb⟩ := hrel
        by_cases hlt : k < l.length
        · obtain ⟨n', hn'⟩ : ∃ n', gk = n' + 1 := ⟨gk - 1, by omega⟩
          subst hn'
          have hrk := Lib.hid (hB1.out.below hb.out (Nat.le_refl _))
          rcases hrk.out with h0 | ⟨b, off, rfl, hbl, hcell⟩
          · simp [h0] at hlt
          have hx := List.getElem?_eq_getElem hlt
          have hd : Hid (applied a (l.take (k + 1)) = done1 (applied a (l.take k)) l[k]) := by show _ = _; rw [take_snoc hx, applied_snoc]
          obtain ⟨z1, z2⟩ := hsl1.out _ (List.getElem_mem hlt)
          have c0 : wr.cell? ⟨b, off + k * 3, none⟩ = some (.string l[k].key) := hcell k l[k] hx 0 _ rfl
          have c1 : wr.cell? ⟨b, off + k * 3 + 1, none⟩ = some (.string l[k].val) := hcell k l[k] hx 1 _ rfl
          have c2 : wr.cell? ⟨b, off + k * 3 + 2, none⟩ = some (.bool l[k].gone) := hcell k l[k] hx 2 _ rfl
          generalize hxx : l[k] = x at *
          obtain ⟨key, val, gone⟩ := x
          clear hcell hx hxx hrk
          have Z1 : Hid (key.size ≤ maxLen) := by show _ ≤ _; unfold maxLen; exact z1
          have Z2 : Hid (val.size ≤ maxLen) := by show _ ≤ _; unfold maxLen; exact z2
          have KM : Hid (a.length + k < maxLen) := by show _ < _; unfold maxLen; omega
          clear z1 z2
          have hm3 := Lib.hid (hm.out.kept (World.grownBy_alloc wr (.cells #[.string key, .string val, .bool gone] 37) none) (by simp))
          have hb3 := Lib.hid (bl_alloc hb.out (.cells #[.string key, .string val, .bool gone] 37))
          cases gone
          · go_wp2_with (at_mapUpdate; refine sput _ Try.underlying9 Try.underlying9 rfl _ _ _ 80 rfl Try.underlying80 w.heap.size (a.length + k) _ rfl hm3.out KM.out key val rfl rfl Z1.out Z2.out ?_; intro w1 hm4 hg4)
            go_roundg n'
            case measure => omega
            case rel =>
              refine ⟨k + 1, by go_num, by omega, by show MapS _ _ _ _ _ _ _; rw [hd.out]; exact hm4, ?_⟩
              exact hb3.out.grown hg4 hb3.out.size (fun k e => by cases e; exact Nat.le_refl _)
          · go_wp2_with (at_delete; refine sdel _ Try.underlying9 rfl _ _ 80 rfl Try.underlying80 w.heap.size (a.length + k) _ rfl hm3.out key rfl Z1.out ?_; intro w1 hm4 hg4)
            go_roundg n'
            case measure => omega
            case rel =>
              refine ⟨k + 1, by go_num, by omega, by show MapS _ _ _ _ _ _ _; rw [hd.out]; exact hm4.mono (by omega), ?_⟩
              exact hb3.out.grown hg4 hb3.out.size (fun k e => by cases e; exact Nat.le_refl _)
        · have hk' : k = l.length := by omega
          subst hk'
          have hm3 : Hid (MapS Try.prog 9 9 wr w.heap.size (a.length + l.length) (applied a l)) := by show MapS _ _ _ _ _ _ _; have := hm.out; rw [List.take_length] at this; exact this
          have hb3 := hb
          have hlv := Lib.hid hm3.out.lt
          clear hm hb hlt hk hm2 hb2
          obtain ⟨f, hf⟩ : ∃ f, f = applied a l := ⟨_, rfl⟩
          have HF := Lib.hid hf
          rw [← hf] at hm3
          clear hf
          go_wp2_with (at_range; refine srange _ Try.underlying9 rfl _ 80 rfl Try.underlying80 w.heap.size (a.length + l.length) f rfl hm3.out ?_; intro w1 cnt hrg hg1 hs1)
          have hcn := hrg.cnt_le
          have hb4 : Hid (Below w.heap.size w w1) := by
            have hz := hb3.out.size
            exact ⟨hg1.os.trans hb3.out.os, hg1.tape.trans hb3.out.tape, hg1.output.trans hb3.out.output, by omega, fun i hi => (hg1.block i (by omega) (by simp)).trans (hb3.out.block i hi)⟩
          have hrg0 := Lib.hid hrg
          have hzz : Hid (w.heap.size < w1.heap.size ∧ wr.heap.size < w1.heap.size ∧ w.heap.size ≤ wr.heap.size) := by have := hlv.out; exact ⟨by omega, by omega, by omega⟩
          have hcn' : Hid (cnt ≤ 2000000) := by show _ ≤ _; omega
          clear hrg hg1 hb3 hm3 hs1 hcn hlv
          generalize wr.heap.size = rr at *
          go_frame
          go_loopg [10] cnt (fun n v wx => ∃ (left : Str → Bool) (done : List Entry), Hid (RangeS Try.prog 9 9 wx w.heap.size rr (a.length + l.length) f left n) ∧ Hid (Told f left done) ∧ Hid (∀ x, left x = true → (f x).isSome = true) ∧
            Hid (Own Entry.enc 2 72 w1.heap.size wx v done) ∧ Hid (done.length + n ≤ cnt) ∧ Hid (w1.heap.size ≤ wx.heap.size) ∧ Hid (Below w.heap.size w wx))
          case atStart => exact ⟨_, [], hrg0.out, Told.start f, fun x h => h, Own.nil, by show _ ≤ _; simp, Nat.le_refl _, hb4.out⟩
          case round =>
            obtain ⟨left, done, hrg, ht, hle, ho, hln, hz, hb⟩ := hrel
            go_wp2_with (at_next; refine snext _ Try.underlying9 Try.underlying9 rfl _ rfl w.heap.size rr (a.length + l.length) f left _ rfl hrg.out hle.out ?_ ?_)
            · intro h0 hl0
              go_wp2_with fail
              refine (hS1.out _ _ _ done (by have := hln.out; have := hcn'.out; omega) ho.out).mono ?_
              rintro e w3 ⟨rfl, r, ho3, hpm, hsr, hg3⟩
              have hob := Lib.hid ho.out.lt
              have hb3 := Lib.hid (hb.out.grown hg3 hb.out.size (fun k e => by have := (hob.out _ e).1; have := hzz.out.1; omega))
              have hri : Hid (rises r = true) := sorted_rises ((hpm.map (·.key)).nodup_iff.2 ht.out.nodup) hsr
              have hme : Hid (∀ x : Entry, x ∈ r ↔ f x.key = some x.val) := fun x => by
                rw [hpm.mem_iff, ht.out.mem]
                exact ⟨fun h => h.1, fun h => ⟨h, hl0 _⟩⟩
              clear hpm hsr hg3
              go_wp2
              go_ret
              exact ⟨_, r, rfl, ho3.mono (Nat.le_of_lt hzz.out.1), hri.out, fun x => by rw [← HF.out]; exact hme.out x, hb3.out⟩
            · intro x cc w2 cnt2 hlx hfx hrg2 hlt2 hg2 hs2 hen
              have hob := Lib.hid ho.out.lt
              have ho2 := Lib.hid (ho.out.kept hg2 (.inr (fun e => by have := (hob.out _ e).1; have := hzz.out.2.1; omega)))
              have hb2 := Lib.hid (hb.out.grown hg2 hb.out.size (fun k e => by cases e; exact hzz.out.2.2))
              have ht2 := Lib.hid (ht.out.step hlx hfx)
              have hrg3 := Lib.hid hrg2
              have hle2 : Hid (∀ z, (left z && !decide (z = x)) = true → (f z).isSome = true) := fun z h => hle.out z (by simp at h; exact h.1)
              have hz2 : Hid (w1.heap.size ≤ w2.heap.size) := by show _ ≤ _; rw [hs2]; exact hz.out
              have HC2 : Hid ((done.length + 1) * 32 ≤ 140737488355328) := by show _ ≤ _; have := hln.out; have := hcn'.out; omega
              have HC3 : Hid (done.length + 1 ≤ 140737488355328) := by show _ ≤ _; have := hln.out; have := hcn'.out; omega
              have hln2 : Hid ((done ++ [(⟨x, cc⟩ : Entry)]).length + cnt2 ≤ cnt) := by show _ ≤ _; have := hln.out; simp; omega
              have hob2 := Lib.hid ho2.out.lt
              clear hrg2 hg2 hs2 hlx hfx
              go_wp2_with (at_builtin; refine ap_own Entry.ok rfl _ _ _ _ _ _ rfl Try.underlying22 infoEn rfl w1.heap.size u10 done ⟨x, cc⟩ #[_, _] rfl rfl w2.heap.size rfl rfl ho2.out hz2.out HC2.out HC3.out ?_; intro gg cap w5 ho5 hg5 hat5 hlt5)
              go_roundg cnt2
              case measure => omega
              case rel =>
                refine ⟨_, done ++ [⟨x, cc⟩], ?_, ht2, hle2, ?_, hln2, ?_, ?_⟩
                · exact hrg3.out.kept hg5 (fun e => by have := (hob2.out _ e.symm).1; have := hzz.out.1; omega) (fun e => by have := (hob2.out _ e.symm).1; have := hzz.out.2.1; omega)
                · show Own _ _ _ _ _ _ _
                  simpa using ho5
                · show _ ≤ _
                  have := hg5.size; have := hz2.out; omega
                · exact hb2.out.grown hg5 hb2.out.size (fun k e => by have := (hob2.out _ e).1; have := hzz.out.1; omega)
end Go.Proofs.Ytofdmkglhjpbcaa
