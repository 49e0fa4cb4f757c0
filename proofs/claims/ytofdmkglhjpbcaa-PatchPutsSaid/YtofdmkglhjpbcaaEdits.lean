/- diff.Edits, diff.Turn, law10.Edits -/
import Derived.Test.YtofdmkglhjpbcaaProg
import Derived.Test.YtofdmkglhjpbcaaOwn
namespace Go.Proofs.Ytofdmkglhjpbcaa
open Go.RowKit
set_option linter.unusedVariables false
set_option linter.unusedSimpArgs false

structure EditE where
  key : Str
  val : Str
  gone : Bool
deriving DecidableEq, Inhabited
def EditE.enc (x : EditE) : List Value := [.string x.key, .string x.val, .bool x.gone]
theorem EditE.ok : Enc EditE.enc 3 := ⟨fun _ => rfl, fun x u hu => by simp [EditE.enc] at hu; rcases hu with rfl | rfl | rfl <;> rfl, by omega⟩
/-- diff.Edits, diff.Turn of one change. -/
def editOf (c : Change) : EditE := if c.has then ⟨c.key, c.now, false⟩ else ⟨c.key, ⟨#[]⟩, true⟩
def turned (c : Change) : Change := ⟨c.key, c.has, c.now, c.had, c.was⟩
theorem editOf_t {c : Change} (h : c.has = true) : editOf c = ⟨c.key, c.now, false⟩ := by simp [editOf, h]
theorem editOf_f {c : Change} (h : c.has = false) : editOf c = ⟨c.key, ⟨#[]⟩, true⟩ := by simp [editOf, h]

theorem infoEd : (Try.prog.info? 37).map (fun i => (i.zero, i.size, i.bytes)) = some (some (.agg #[.string ⟨#[]⟩, .string ⟨#[]⟩, .bool false]), 3, 40) := by kernel_rfl
theorem infoCh : (Try.prog.info? 35).map (fun i => (i.zero, i.size, i.bytes)) = some (some (.agg #[.string ⟨#[]⟩, .bool false, .string ⟨#[]⟩, .bool false, .string ⟨#[]⟩]), 5, 64) := by kernel_rfl

set_option maxRecDepth 100000 in
theorem Edits_calls (w : World) (A : Option Addr) (c : Nat) (l : List Change) (hl : l.length ≤ 1000000) (h : Rd Change.enc 5 w A l) :
    Calls Try.prog 19 #[.slice A l.length c] w fun e w' => ∃ v, e = .returned v ∧ Own EditE.enc 3 37 w.heap.size w' v (l.map editOf) ∧ Below w.heap.size w w' := by
  have hA1 := Lib.hid h
  clear h
  go_enter Try.func19, Try.ntmps19
  go_wp2
  go_loopg [3, 8] l.length (fun n v i wr => ∃ k : Nat, i = .int .i64 k ∧ k + n = l.length ∧ Hid (Own EditE.enc 3 37 w.heap.size wr v ((l.take k).map editOf)) ∧ Hid (Below w.heap.size w wr))
  case atStart => exact ⟨0, rfl, by omega, Own.nil, Below.refl _ _⟩
  case round =>
    obtain ⟨k, rfl, hk, ho, hb⟩ := hrel
    by_cases hlt : k < l.length
    · obtain ⟨n', hn'⟩ : ∃ n', gk = n' + 1 := ⟨gk - 1, by omega⟩
      subst hn'
      have hrk := Lib.hid (hA1.out.below hb.out (Nat.le_refl _))
      rcases hrk.out with h0 | ⟨b, off, rfl, hbl, hcell⟩
      · simp [h0] at hlt
      have hx := List.getElem?_eq_getElem hlt
      have hd : Hid ((l.take (k + 1)).map editOf = (l.take k).map editOf ++ [editOf l[k]]) := by show _ = _; rw [List.take_add_one, hx, List.map_append]; rfl
      have c0 : wr.cell? ⟨b, off + k * 5, none⟩ = some (.string l[k].key) := hcell k l[k] hx 0 _ rfl
      have c1 : wr.cell? ⟨b, off + k * 5 + 1, none⟩ = some (.bool l[k].had) := hcell k l[k] hx 1 _ rfl
      have c2 : wr.cell? ⟨b, off + k * 5 + 2, none⟩ = some (.string l[k].was) := hcell k l[k] hx 2 _ rfl
      have c3 : wr.cell? ⟨b, off + k * 5 + 3, none⟩ = some (.bool l[k].has) := hcell k l[k] hx 3 _ rfl
      have c4 : wr.cell? ⟨b, off + k * 5 + 4, none⟩ = some (.string l[k].now) := hcell k l[k] hx 4 _ rfl
      generalize hxx : l[k] = x at *
      obtain ⟨key, had, was, has, now⟩ := x
      clear hcell hx hxx hrk
      have hlk : (l.take k).length = k := by rw [List.length_take]; omega
      obtain ⟨done, hdone⟩ : ∃ d, d = (l.take k).map editOf := ⟨_, rfl⟩
      have hdl : done.length = k := by rw [hdone, List.length_map, hlk]
      rw [← hdone] at ho hd
      clear hdone hlk
      have ho2 := Lib.hid (ho.out.alloc (.cells #[.string key, .bool had, .string was, .bool has, .string now] 35))
      have hz : Hid (w.heap.size ≤ (wr.alloc (.cells #[.string key, .bool had, .string was, .bool has, .string now] 35)).heap.size) := by show _ ≤ _; simp; have := hb.out.size; omega
      have hz2 : Hid ((wr.alloc (.cells #[.string key, .bool had, .string was, .bool has, .string now] 35)).heap.size = wr.heap.size + 1) := by show _ = _; simp
      have hb2 := Lib.hid (bl_alloc hb.out (.cells #[.string key, .bool had, .string was, .bool has, .string now] 35))
      have hob := Lib.hid ho.out.lt
      have HC2 : Hid ((done.length + 1) * 40 ≤ 140737488355328) := by show _ ≤ _; omega
      have HC3 : Hid (done.length + 1 ≤ 140737488355328) := by show _ ≤ _; omega
      cases has
      · go_wp2_with (at_builtin; refine ap_own EditE.ok rfl _ _ _ _ _ _ rfl Try.underlying29 infoEd rfl w.heap.size u3 done ⟨key, ⟨#[]⟩, true⟩ #[_, _, _] rfl rfl (wr.heap.size + 1) hz2.out rfl ho2.out hz.out HC2.out HC3.out ?_; intro gg cap w5 ho5 hg5 hat5 hlt5)
        go_roundg n'
        case measure => omega
        case rel =>
          refine ⟨k + 1, by go_num, by omega, ?_, ?_⟩
          · show Own _ _ _ _ _ _ _
            rw [hd.out, ← hdl]
            exact ho5
          · exact hb2.out.grown hg5 hb2.out.size (fun k e => (hob.out _ e).1)
      · go_wp2_with (at_builtin; refine ap_own EditE.ok rfl _ _ _ _ _ _ rfl Try.underlying29 infoEd rfl w.heap.size u3 done ⟨key, now, false⟩ #[_, _, _] rfl rfl (wr.heap.size + 1) hz2.out rfl ho2.out hz.out HC2.out HC3.out ?_; intro gg cap w5 ho5 hg5 hat5 hlt5)
        go_roundg n'
        case measure => omega
        case rel =>
          refine ⟨k + 1, by go_num, by omega, ?_, ?_⟩
          · show Own _ _ _ _ _ _ _
            rw [hd.out, ← hdl]
            exact ho5
          · exact hb2.out.grown hg5 hb2.out.size (fun k e => (hob.out _ e).1)
    · have hk' : k = l.length := by omega
      have ho' : Hid (Own EditE.enc 3 37 w.heap.size wr u3 (l.map editOf)) := by show Own _ _ _ _ _ _ _; have := ho.out; rw [hk', List.take_length] at this; exact this
      clear hk' ho
      go_wp2
      go_ret
      exact ⟨_, rfl, ho'.out, hb.out⟩

set_option maxRecDepth 100000 in
theorem Turn_calls (w : World) (A : Option Addr) (c : Nat) (l : List Change) (hl : l.length ≤ 1000000) (h : Rd Change.enc 5 w A l) :
    Calls Try.prog 21 #[.slice A l.length c] w fun e w' => ∃ v, e = .returned v ∧ Own Change.enc 5 35 w.heap.size w' v (l.map turned) ∧ Below w.heap.size w w' := by
  have hA1 := Lib.hid h
  clear h
  go_enter Try.func21, Try.ntmps21
  go_wp2
  go_loopg [3, 8] l.length (fun n v i wr => ∃ k : Nat, i = .int .i64 k ∧ k + n = l.length ∧ Hid (Own Change.enc 5 35 w.heap.size wr v ((l.take k).map turned)) ∧ Hid (Below w.heap.size w wr))
  case atStart => exact ⟨0, rfl, by omega, Own.nil, Below.refl _ _⟩
  case round =>
    obtain ⟨k, rfl, hk, ho, hb⟩ := hrel
    by_cases hlt : k < l.length
    · obtain ⟨n', hn'⟩ : ∃ n', gk = n' + 1 := ⟨gk - 1, by omega⟩
      subst hn'
      have hrk := Lib.hid (hA1.out.below hb.out (Nat.le_refl _))
      rcases hrk.out with h0 | ⟨b, off, rfl, hbl, hcell⟩
      · simp [h0] at hlt
      have hx := List.getElem?_eq_getElem hlt
      have hd : Hid ((l.take (k + 1)).map turned = (l.take k).map turned ++ [turned l[k]]) := by show _ = _; rw [List.take_add_one, hx, List.map_append]; rfl
      have c0 : wr.cell? ⟨b, off + k * 5, none⟩ = some (.string l[k].key) := hcell k l[k] hx 0 _ rfl
      have c1 : wr.cell? ⟨b, off + k * 5 + 1, none⟩ = some (.bool l[k].had) := hcell k l[k] hx 1 _ rfl
      have c2 : wr.cell? ⟨b, off + k * 5 + 2, none⟩ = some (.string l[k].was) := hcell k l[k] hx 2 _ rfl
      have c3 : wr.cell? ⟨b, off + k * 5 + 3, none⟩ = some (.bool l[k].has) := hcell k l[k] hx 3 _ rfl
      have c4 : wr.cell? ⟨b, off + k * 5 + 4, none⟩ = some (.string l[k].now) := hcell k l[k] hx 4 _ rfl
      generalize hxx : l[k] = x at *
      obtain ⟨key, had, was, has, now⟩ := x
      clear hcell hx hxx hrk
      have hlk : (l.take k).length = k := by rw [List.length_take]; omega
      obtain ⟨done, hdone⟩ : ∃ d, d = (l.take k).map turned := ⟨_, rfl⟩
      have hdl : done.length = k := by rw [hdone, List.length_map, hlk]
      rw [← hdone] at ho hd
      clear hdone hlk
      have ho2 := Lib.hid (ho.out.alloc (.cells #[.string key, .bool had, .string was, .bool has, .string now] 35))
      have hz : Hid (w.heap.size ≤ (wr.alloc (.cells #[.string key, .bool had, .string was, .bool has, .string now] 35)).heap.size) := by show _ ≤ _; simp; have := hb.out.size; omega
      have hz2 : Hid ((wr.alloc (.cells #[.string key, .bool had, .string was, .bool has, .string now] 35)).heap.size = wr.heap.size + 1) := by show _ = _; simp
      have hb2 := Lib.hid (bl_alloc hb.out (.cells #[.string key, .bool had, .string was, .bool has, .string now] 35))
      have hob := Lib.hid ho.out.lt
      have HC2 : Hid ((done.length + 1) * 64 ≤ 140737488355328) := by show _ ≤ _; omega
      have HC3 : Hid (done.length + 1 ≤ 140737488355328) := by show _ ≤ _; omega
      go_wp2_with (at_builtin; refine ap_own Change.ok rfl _ _ _ _ _ _ rfl Try.underlying25 infoCh rfl w.heap.size u3 done ⟨key, has, now, had, was⟩ #[_, _, _, _, _] rfl rfl (wr.heap.size + 1) hz2.out rfl ho2.out hz.out HC2.out HC3.out ?_; intro gg cap w5 ho5 hg5 hat5 hlt5)
      go_roundg n'
      case measure => omega
      case rel =>
        refine ⟨k + 1, by go_num, by omega, ?_, ?_⟩
        · show Own _ _ _ _ _ _ _
          rw [hd.out, ← hdl]
          exact ho5
        · exact hb2.out.grown hg5 hb2.out.size (fun k e => (hob.out _ e).1)
    · have hk' : k = l.length := by omega
      have ho' : Hid (Own Change.enc 5 35 w.heap.size wr u3 (l.map turned)) := by show Own _ _ _ _ _ _ _; have := ho.out; rw [hk', List.take_length] at this; exact this
      clear hk' ho
      go_wp2
      go_ret
      exact ⟨_, rfl, ho'.out, hb.out⟩

def lightEd (x : EditE) : Bool := !decide (60 < x.key.size) && !decide (250 < x.val.size)
def lightEds (l : List EditE) : Bool := l.all lightEd && decide (l.length ≤ 20)
theorem lawEdits_calls (w : World) (A : Option Addr) (c : Nat) (l : List EditE) (hm : l.length ≤ 9223372036854775807) (hs : ∀ x ∈ l, x.key.size ≤ 9223372036854775807 ∧ x.val.size ≤ 9223372036854775807) (h : Rd EditE.enc 3 w A l) :
    Calls Try.prog 22 #[.slice A l.length c] w fun e w' => e = .returned (.bool (lightEds l)) ∧ Below w.heap.size w w' := by
  have hs' := Lib.hid hs
  clear hs
  go_enter Try.func22, Try.ntmps22
  go_wp2
  go_loopw [7] (fun i wr => ∃ k : Nat, k ≤ l.length ∧ i = .int .i64 k ∧ Hid (lightEds l = ((l.drop k).all lightEd && decide (l.length ≤ 20))) ∧ Below w.heap.size w wr) (fun i _ => l.length - (intOf i).toNat)
  case atStart => exact ⟨0, Nat.zero_le _, rfl, rfl, Below.refl _ _⟩
  case round =>
    obtain ⟨k, hk, rfl, hg, hb⟩ := hrel
    by_cases hlt : k < l.length
    · rcases h.below hb (Nat.le_refl _) with h0 | ⟨b, off, rfl, hbl, hc⟩
      · simp [h0] at hlt
      have c0 : wr.cell? ⟨b, off + k * 3, none⟩ = some (.string l[k].key) := hc k l[k] (by simp [hlt]) 0 _ rfl
      have c1 : wr.cell? ⟨b, off + k * 3 + 1, none⟩ = some (.string l[k].val) := hc k l[k] (by simp [hlt]) 1 _ rfl
      have c2 : wr.cell? ⟨b, off + k * 3 + 2, none⟩ = some (.bool l[k].gone) := hc k l[k] (by simp [hlt]) 2 _ rfl
      have hd : l.drop k = l[k] :: l.drop (k + 1) := by simp
      obtain ⟨s0, s1⟩ := hs'.out l[k] (List.getElem_mem _)
      clear hc h
      by_cases h1 : 60 < l[k].key.size
      · have hv : Hid (lightEds l = false) := by show _ = _; rw [hg.out, hd, List.all_cons, show lightEd l[k] = false from by simp [lightEd]; omega]; simp
        clear hd
        go_wp2
        go_ret
        exact ⟨by rw [hv.out]; rfl, bl_alloc hb _⟩
      · by_cases h2 : 250 < l[k].val.size
        · have hv : Hid (lightEds l = false) := by show _ = _; rw [hg.out, hd, List.all_cons, show lightEd l[k] = false from by simp [lightEd]; omega]; simp
          clear hd
          go_wp2
          go_ret
          exact ⟨by rw [hv.out]; rfl, bl_alloc hb _⟩
        · have hg' : Hid (lightEds l = ((l.drop (k + 1)).all lightEd && decide (l.length ≤ 20))) := by show _ = _; rw [hg.out, hd, List.all_cons, show lightEd l[k] = true from by simp [lightEd]; omega]; simp
          clear hd
          go_wp2
          exact ⟨⟨k + 1, by omega, by go_num, hg', bl_alloc hb _⟩, by simp [intOf]; omega⟩
    · have hv : Hid (lightEds l = decide (l.length ≤ 20)) := by show _ = _; rw [hg.out, List.drop_of_length_le (by omega)]; simp
      go_wp2
      go_ret
      exact ⟨by rw [hv.out]; exact ret_bool (decide_eq_decide.2 (by omega)), hb⟩
end Go.Proofs.Ytofdmkglhjpbcaa
