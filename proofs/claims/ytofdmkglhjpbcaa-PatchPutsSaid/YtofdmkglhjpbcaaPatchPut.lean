/- patch.Put -/
import Derived.Test.YtofdmkglhjpbcaaPack
import Derived.Test.YtofdmkglhjpbcaaPatchR
namespace Go.Proofs.Ytofdmkglhjpbcaa
open Go.RowKit
set_option linter.unusedVariables false
set_option linter.unusedSimpArgs false

def changeI (c : Change) : List Int := textI c.key ++ flagI c.had ++ textI c.was ++ flagI c.has ++ textI c.now
def putI (l : List Change) : List Int := lebI l.length ++ l.flatMap changeI
def patchPut (l : List Change) : List Int × Int := if patchErr l ≠ 0 then ([], patchErr l) else (putI l, 0)
/-- Changes whose texts are small. -/
def Tiny (l : List Change) : Prop := ∀ c ∈ l, c.key.size ≤ 1000 ∧ c.was.size ≤ 1000 ∧ c.now.size ≤ 1000
theorem textI_len {s : Str} (h : s.size ≤ 1000) : (textI s).length ≤ 1010 := by
  unfold textI
  rw [List.length_append, strBs_len]
  have := lebI_len10 s.size (by omega)
  omega
theorem flagI_len (b : Bool) : (flagI b).length = 1 := by cases b <;> rfl
theorem changeI_len {c : Change} (h : c.key.size ≤ 1000 ∧ c.was.size ≤ 1000 ∧ c.now.size ≤ 1000) : (changeI c).length ≤ 3032 := by
  unfold changeI
  simp only [List.length_append, flagI_len]
  have := textI_len h.1
  have := textI_len h.2.1
  have := textI_len h.2.2
  omega
theorem flat_changes {l : List Change} (h : Tiny l) (k : Nat) : ((l.take k).flatMap changeI).length ≤ 3032 * k := by
  induction k with
  | zero => simp
  | succ k ih =>
    by_cases hk : k < l.length
    · rw [List.take_add_one, List.getElem?_eq_getElem hk]
      have := changeI_len (h _ (List.getElem_mem hk))
      simp only [Option.toList_some, List.flatMap_append, List.length_append, List.flatMap_cons, List.flatMap_nil, List.append_nil]
      omega
    · have e : l.take (k + 1) = l.take k := by rw [List.take_of_length_le (by omega), List.take_of_length_le (by omega)]
      rw [e]; omega

set_option maxRecDepth 100000 in
set_option maxHeartbeats 2000000 in
theorem patchPut_calls (w : World) (A : Option Addr) (c : Nat) (l : List Change) (hl : l.length ≤ 100) (ht : Tiny l) (h : Rd Change.enc 5 w A l) :
    Calls Try.prog 33 #[.slice A l.length c] w fun e w' => ∃ v, e = .returned (.tuple #[v, .int .i64 (patchPut l).2]) ∧ Own u8e 1 5 w.heap.size w' v (patchPut l).1 ∧ Below w.heap.size w w' := by
  have HA := Lib.hid h
  have HT := Lib.hid ht
  have hz : ∀ x ∈ l, x.key.size ≤ 9223372036854775807 ∧ x.was.size ≤ 9223372036854775807 ∧ x.now.size ≤ 9223372036854775807 := fun x hx => by have := ht x hx; omega
  have HZ := Lib.hid hz
  have hfl := Lib.hid (flat_changes ht)
  have h10 := Lib.hid (lebI_len10 l.length (by omega))
  have hwl : IntKind.u64.wrap (l.length : Int) = (l.length : Int) := by rw [IntKind.wrap_u64]; omega
  clear h ht hz
  by_cases e1 : patchErr l = 0
  rotate_left
  · have hv : Hid (patchPut l = ([], patchErr l)) := if_pos e1
    have hnb : (patchErr l != 0) = true := by simpa using e1
    clear e1
    go_enter Try.func33, Try.ntmps33
    go_wp2_with fail
    refine (Right_calls28 _ A c l (by omega) HZ.out HA.out).mono ?_
    rintro e w1 ⟨rfl, hb1⟩
    generalize patchErr l = pe at *
    go_wp2
    go_ret2
    exact ⟨.slice none 0 0, by rw [hv.out]; rfl, by rw [hv.out]; exact Own.nil, hb1⟩
  have E1 := Lib.hid e1
  have hv : Hid (patchPut l = (lebI l.length ++ l.flatMap changeI, 0)) := by show _ = _; unfold patchPut; rw [if_neg (by simp [e1])]; rfl
  clear e1
  go_enter Try.func33, Try.ntmps33
  go_wp2_with fail
  refine (Right_calls28 _ A c l (by omega) HZ.out HA.out).mono ?_
  rintro e w1 ⟨rfl, hb1⟩
  rw [E1.out]
  have B1 := Lib.hid hb1
  have W0 : Hid (WrAt w1.heap.size ((w1.alloc (.cells #[.slice none 0 0] 94)).alloc (.cells #[.int .u64 (l.length : Int)] 96)) w1.heap.size []) := ⟨Nat.le_refl _, _, blk_alloc (blk_new w1 _) _, Own.nil⟩
  have p0 : Hid (((w1.alloc (.cells #[.slice none 0 0] 94)).alloc (.cells #[.int .u64 (l.length : Int)] 96)).cell? ⟨w1.heap.size + 1, 0, none⟩ = some (.int .u64 (l.length : Int))) := by
    show _ = _
    have h2 := blk_new (w1.alloc (.cells #[.slice none 0 0] 94)) (.cells #[.int .u64 (l.length : Int)] 96)
    rw [World.size_alloc] at h2
    exact wr_cell h2
  have z0 : Hid (w1.heap.size + 1 < ((w1.alloc (.cells #[.slice none 0 0] 94)).alloc (.cells #[.int .u64 (l.length : Int)] 96)).heap.size) := by show _ < _; simp
  have B0 : Hid (Below w1.heap.size w1 ((w1.alloc (.cells #[.slice none 0 0] 94)).alloc (.cells #[.int .u64 (l.length : Int)] 96))) := bl_alloc (bl_alloc (Below.refl _ _) _) _
  clear hb1
  go_wp2_with fail
  refine (wNum_calls w1.heap.size _ w1.heap.size [] (w1.heap.size + 1) l.length (by omega) (by simp) W0.out p0.out z0.out).mono ?_
  rintro e w2 ⟨rfl, hW2, hb2, -⟩
  have W2 := Lib.hid hW2
  have B2 := Lib.hid (B0.out.trans hb2)
  clear hW2 hb2 W0 p0 z0 B0
  go_wp2
  go_loopg [23] l.length (fun n i wr => ∃ k : Nat, i = .int .i64 k ∧ k + n = l.length ∧ Hid (WrAt w1.heap.size wr w1.heap.size (lebI l.length ++ (l.take k).flatMap changeI)) ∧ Hid (Below w1.heap.size w1 wr))
  case atStart => exact ⟨0, rfl, by omega, by simpa [Hid] using W2.out, B2.out⟩
  case round =>
    obtain ⟨k, rfl, hk, hW, hb⟩ := hrel
    have hbw := Lib.hid (bl_then B1.out B1.out.size hb.out)
    by_cases hlt : k < l.length
    · obtain ⟨n', hn'⟩ : ∃ n', gk = n' + 1 := ⟨gk - 1, by omega⟩
      subst hn'
      rcases HA.out.below hbw.out (Nat.le_refl _) with h0 | ⟨b, off, rfl, hbl, hc⟩
      · simp [h0] at hlt
      have hx := List.getElem?_eq_getElem hlt
      have c0 : wr.cell? ⟨b, off + k * 5, none⟩ = some (.string l[k].key) := hc k l[k] hx 0 _ rfl
      have c1 : wr.cell? ⟨b, off + k * 5 + 1, none⟩ = some (.bool l[k].had) := hc k l[k] hx 1 _ rfl
      have c2 : wr.cell? ⟨b, off + k * 5 + 2, none⟩ = some (.string l[k].was) := hc k l[k] hx 2 _ rfl
      have c3 : wr.cell? ⟨b, off + k * 5 + 3, none⟩ = some (.bool l[k].has) := hc k l[k] hx 3 _ rfl
      have c4 : wr.cell? ⟨b, off + k * 5 + 4, none⟩ = some (.string l[k].now) := hc k l[k] hx 4 _ rfl
      have hd : Hid (lebI l.length ++ (l.take (k + 1)).flatMap changeI = lebI l.length ++ (l.take k).flatMap changeI ++ changeI l[k]) := by show _ = _; rw [List.take_add_one, hx]; simp only [Option.toList_some, List.flatMap_append, List.flatMap_cons, List.flatMap_nil, List.append_nil, List.append_assoc]
      have htn := Lib.hid (HT.out l[k] (List.getElem_mem hlt))
      have hln : Hid ((lebI l.length ++ (l.take k).flatMap changeI).length ≤ 310000) := by show _ ≤ _; rw [List.length_append]; have := h10.out; have := hfl.out k; omega
      generalize l[k] = x at *
      obtain ⟨key, had, was, has, now⟩ := x
      simp only at c0 c1 c2 c3 c4
      obtain ⟨t0, t1, t2⟩ := htn.out
      simp only at t0 t1 t2
      have q0 := Lib.hid (textI_len t0)
      have q1 := Lib.hid (textI_len t1)
      have q2 := Lib.hid (textI_len t2)
      obtain ⟨bs, hbs⟩ : ∃ x, x = lebI l.length ++ (l.take k).flatMap changeI := ⟨_, rfl⟩
      rw [← hbs] at hW hd hln
      clear hbs hc hx
      have hN := Lib.hid (blk_new wr (.cells #[.string key, .bool had, .string was, .bool has, .string now] 35))
      have hWa := Lib.hid (hW.out.below (bl_alloc (Below.refl _ _) (.cells #[.string key, .bool had, .string was, .bool has, .string now] 35)))
      have hBa := Lib.hid (bl_alloc hb.out (.cells #[.string key, .bool had, .string was, .bool has, .string now] 35))
      have n35 : Hid (35 ≠ 5 ∧ 35 ≠ 94) := by show _ ∧ _; decide
      have f0 := flagI_len had
      have f1 := flagI_len has
      go_wp2_with fail
      refine (wText_calls w1.heap.size _ w1.heap.size bs key (by omega) (by have := hln.out; omega) hWa.out).mono ?_
      rintro e x1 ⟨rfl, hW1, hb1, ht1⟩
      have W1 := Lib.hid hW1
      have D1 := Lib.hid (hBa.out.trans hb1)
      have N1 := Lib.hid (ht1 _ n35.out.1 n35.out.2 _ _ _ hN.out)
      have g1 : x1.cell? ⟨wr.heap.size, 1, none⟩ = some (.bool had) := by rw [blk_cell N1.out]; rfl
      clear hW1 hb1 ht1 c0 c1 c2 c3 c4
      go_wp2_with fail
      refine (wFlag_calls w1.heap.size _ w1.heap.size _ had (by have := hln.out; have := q0.out; have := q1.out; have := q2.out; simp only [List.length_append, f0, f1]; omega) W1.out).mono ?_
      rintro e x2 ⟨rfl, hW2, hb2, ht2⟩
      have W2 := Lib.hid hW2
      have D2 := Lib.hid (D1.out.trans hb2)
      have N2 := Lib.hid (ht2 _ n35.out.1 n35.out.2 _ _ _ N1.out)
      have g2 : x2.cell? ⟨wr.heap.size, 2, none⟩ = some (.string was) := by rw [blk_cell N2.out]; rfl
      clear hW2 hb2 ht2 g1
      go_wp2_with fail
      refine (wText_calls w1.heap.size _ w1.heap.size _ was (by omega) (by have := hln.out; have := q0.out; have := q1.out; have := q2.out; simp only [List.length_append, f0, f1]; omega) W2.out).mono ?_
      rintro e x3 ⟨rfl, hW3, hb3, ht3⟩
      have W3 := Lib.hid hW3
      have D3 := Lib.hid (D2.out.trans hb3)
      have N3 := Lib.hid (ht3 _ n35.out.1 n35.out.2 _ _ _ N2.out)
      have g3 : x3.cell? ⟨wr.heap.size, 3, none⟩ = some (.bool has) := by rw [blk_cell N3.out]; rfl
      clear hW3 hb3 ht3 g2
      go_wp2_with fail
      refine (wFlag_calls w1.heap.size _ w1.heap.size _ has (by have := hln.out; have := q0.out; have := q1.out; have := q2.out; simp only [List.length_append, f0, f1]; omega) W3.out).mono ?_
      rintro e x4 ⟨rfl, hW4, hb4, ht4⟩
      have W4 := Lib.hid hW4
      have D4 := Lib.hid (D3.out.trans hb4)
      have N4 := Lib.hid (ht4 _ n35.out.1 n35.out.2 _ _ _ N3.out)
      have g4 : x4.cell? ⟨wr.heap.size, 4, none⟩ = some (.string now) := by rw [blk_cell N4.out]; rfl
      clear hW4 hb4 ht4 g3
      go_wp2_with fail
      refine (wText_calls w1.heap.size _ w1.heap.size _ now (by omega) (by have := hln.out; have := q0.out; have := q1.out; have := q2.out; simp only [List.length_append, f0, f1]; omega) W4.out).mono ?_
      rintro e x5 ⟨rfl, hW5, hb5, ht5⟩
      have W5 := Lib.hid hW5
      have D5 := Lib.hid (D4.out.trans hb5)
      have N5 := Lib.hid (ht5 _ n35.out.1 n35.out.2 _ _ _ N4.out)
      clear hW5 hb5 ht5 g4
      go_wp2
      go_roundg n'
      case measure => omega
      case rel =>
        refine ⟨k + 1, by go_num, by omega, ?_, D5.out⟩
        show WrAt _ _ _ _
        rw [hd.out]
        have := W5.out
        unfold changeI
        simpa only [List.append_assoc] using this
    · have hk' : k = l.length := by omega
      subst hk'
      rw [List.take_length] at hW
      have hln : Hid ((lebI l.length ++ l.flatMap changeI).length ≤ 310000) := by show _ ≤ _; rw [List.length_append]; have := h10.out; have := hfl.out l.length; rw [List.take_length] at this; omega
      go_wp2_with fail
      refine (wBytes_calls w1.heap.size _ w1.heap.size _ (by have := hln.out; omega) hW.out).mono ?_
      rintro e w3 ⟨v, rfl, ho, hb3⟩
      have HO := Lib.hid (ho.mono hbw.out.size)
      have B3 := Lib.hid (bl_then hbw.out hbw.out.size hb3)
      clear ho hb3
      go_wp2
      go_ret2
      exact ⟨_, by rw [hv.out]; rfl, by rw [hv.out]; exact HO.out, B3.out⟩
end Go.Proofs.Ytofdmkglhjpbcaa
