/- Nodes in plain words: keys, what is wrong with one, its last key, where rows end. node: Key, Val, ends; fnv.Ends. node: keys, Last. Rows of rows: plain, and in memory. slices.Reverse of rows. node: Last, texts. node: texts. node: Right. -/
import Derived.Test.YtikgplhcadomcaaGreatKH
import Derived.Test.YtikgplhcadomcaaGreatKA
import Derived.Test.YtikgplhcadomcaaGreatKN
import Derived.Test.YtikgplhcadomcaaGreatProg
import Derived.Shelf.RegionOpenPlain
import Derived.Sort.WalkB12
import Derived.Sort.EncStr
import Derived.Lib.SlicesMore
namespace Go.Proofs.YtikgplhcadomcaaGreat
open Go.RowKit
set_option linter.unusedVariables false
set_option linter.unusedSimpArgs false
structure Kid where
  last : Str
  id : Int
deriving DecidableEq, Inhabited
def Kid.enc (k : Kid) : List Value := [.string k.last, .int .u64 k.id]
theorem Kid.ok : Enc Kid.enc 2 := ⟨fun _ => rfl, fun x u hu => by simp [Kid.enc] at hu; rcases hu with rfl | rfl <;> rfl, by omega⟩
structure NodeP where
  level : Int
  ents : List Entry
  kids : List Kid
deriving DecidableEq
def endsF (level : Int) (k : Str) : Bool := decide (fnvMore (fnvSum (strOfNums [level % 256])) k.data.toList / 1024 % 4 = 0)
def endsN (level : Int) (k : Str) : Bool := decide (level < 20) && endsF level k
def NodeP.keys (n : NodeP) : List Str := n.ents.map Entry.key ++ n.kids.map Kid.last
def kidsE : List Kid → Int
  | [] => 0
  | k :: l => if keyErr k.last ≠ 0 then keyErr k.last else kidsE l
def NodeP.texts (n : NodeP) : Int := if textErr n.ents ≠ 0 then textErr n.ents else kidsE n.kids
/-- What is wrong with a row of keys: one not greater than the one ahead, or one that ends a node ahead of the last. -/
def badKeys (level : Int) : List Str → Bool
  | [] => false
  | [_] => false
  | x :: y :: l => endsN level x || !(slt x y) || badKeys level (y :: l)
def NodeP.right (n : NodeP) : Int :=
  if n.texts ≠ 0 then n.texts
  else if n.level < 0 ∨ 20 < n.level ∨ (if 0 < n.level then n.kids.length else n.ents.length) = 0 ∨ 0 < (if 0 < n.level then n.ents.length else n.kids.length) then 90
  else if badKeys n.level n.keys then 90
  else if n.kids.any (fun k => decide (k.id = 0)) then 90 else 0
def NodeP.last (n : NodeP) : Str := n.keys.getLast?.getD ⟨#[]⟩
/-- A node as a value, its rows read in memory. -/
def NodeV (w : World) (v : Value) (n : NodeP) : Prop := ∃ A ca B cb, v = .agg #[.int .i64 n.level, .slice A n.ents.length ca, .slice B n.kids.length cb] ∧ n.ents.length ≤ ca ∧ n.kids.length ≤ cb ∧ Rd Entry.enc 2 w A n.ents ∧ Rd Kid.enc 2 w B n.kids ∧ (∀ x ∈ n.ents, x.key.size ≤ 1000000 ∧ x.val.size ≤ 1000000) ∧ (∀ k ∈ n.kids, k.last.size ≤ 1000000) ∧ n.ents.length ≤ 1000000 ∧ n.kids.length ≤ 1000000
theorem NodeV.below {w w' : World} {v : Value} {n : NodeP} (h : NodeV w v n) (hb : Below w.heap.size w w') : NodeV w' v n := by
  obtain ⟨A, ca, B, cb, e, h1, h2, h3, h4, h5⟩ := h
  exact ⟨A, ca, B, cb, e, h1, h2, h3.below hb (Nat.le_refl _), h4.below hb (Nat.le_refl _), h5⟩
end Go.Proofs.YtikgplhcadomcaaGreat

namespace Go.Proofs.YtikgplhcadomcaaGreat
open Go.RowKit
set_option linter.unusedVariables false
set_option linter.unusedSimpArgs false
set_option maxRecDepth 100000 in
set_option maxHeartbeats 1000000 in
theorem fnvEnds_calls (w : World) (level : Int) (k : Str) (hs : k.size ≤ 9223372036854775807) : Calls Tryz.prog 53 #[.int .i64 level, .string k] w fun e w' => e = .returned (.bool (endsF level k)) ∧ Below w.heap.size w w' := by
  have hb : Below w.heap.size w (w.alloc (.cells #[.int .u8 (level % 256)] 5)) := bl_alloc (Below.refl _ w) _
  obtain ⟨W1, hW1⟩ : ∃ W, w.alloc (.cells #[.int .u8 (level % 256)] 5) = W := ⟨_, rfl⟩
  have cv : (convert 51 9 (.slice (some ⟨w.heap.size, 0, none⟩) 1 1)).run Tryz.prog W1 = .ok (.string (strOfNums [level % 256])) W1 := string_of_rd 1 rfl (by rw [← hW1]; exact Rd.lit (blk_new w _) rfl)
  rw [hW1] at hb
  have HB := Lib.hid hb
  have hlt := fnvMore_lt (fnvSum (strOfNums [level % 256])) (fnvSum_lt _) k.data.toList
  have hdef : Hid (endsF level k = decide (fnvMore (fnvSum (strOfNums [level % 256])) k.data.toList / 1024 % 4 = 0)) := rfl
  clear hb
  go_enter Tryz.func53, Tryz.ntmps53
  go_wp2_with fail
  refine (fnvSum_calls _ (strOfNums [level % 256]) (by show ([level % 256].map _).toArray.size ≤ _; simp)).mono ?_
  rintro e w2 ⟨rfl, rfl⟩
  go_wp2_with fail
  refine (fnvMore_calls _ _ (fnvSum_lt _) k hs).mono ?_
  rintro e w2 ⟨rfl, rfl⟩
  generalize fnvMore (fnvSum (strOfNums [level % 256])) k.data.toList = X at *
  clear cv
  go_wp2
  go_ret
  refine ⟨?_, HB.out⟩
  rw [hdef.out]
  have e : (((X : Int) / 1024 % 4 == 0) : Bool) = decide (X / 1024 % 4 = 0) := by
    by_cases h : X / 1024 % 4 = 0
    · rw [decide_eq_true h]; simp; omega
    · rw [decide_eq_false h, beq_eq_false_iff_ne]; omega
  exact congrArg (fun b => Ending.returned (Value.bool b)) e
set_option maxRecDepth 100000 in
theorem ends_calls (w : World) (level : Int) (k : Str) (hs : k.size ≤ 9223372036854775807) : Calls Tryz.prog 111 #[.int .i64 level, .string k] w fun e w' => e = .returned (.bool (endsN level k)) ∧ Below w.heap.size w w' := by
  by_cases h : level < 20
  · have hv : Hid (endsN level k = endsF level k) := by show _ = _; unfold endsN; simp [h]
    go_enter Tryz.func111, Tryz.ntmps111
    go_wp2_with fail
    refine (fnvEnds_calls _ level k hs).mono ?_
    rintro e w2 ⟨rfl, hb⟩
    go_wp2
    go_ret
    exact ⟨by rw [hv.out]; rfl, hb⟩
  · have hv : Hid (endsN level k = false) := by show _ = _; unfold endsN; simp [h]
    have hd : decide (level < 20) = false := by simpa using h
    clear h
    go_enter Tryz.func111, Tryz.ntmps111
    go_wp2
    go_ret
    exact ⟨by rw [hv.out]; rfl, Below.refl _ _⟩
end Go.Proofs.YtikgplhcadomcaaGreat

namespace Go.Proofs.YtikgplhcadomcaaGreat
open Go.RowKit
set_option linter.unusedVariables false
set_option linter.unusedSimpArgs false
theorem infoSt : (Tryz.prog.info? 9).map (fun i => (i.zero, i.size, i.bytes)) = some (some (.string ⟨#[]⟩), 1, 16) := by kernel_rfl
def KeysR (w w' : World) (l : List Str) (e : Ending) : Prop := ∃ v, e = .returned v ∧ Own strEnc 1 9 w.heap.size w' v l ∧ Below w.heap.size w w'
set_option maxRecDepth 100000 in
set_option maxHeartbeats 2000000 in
theorem nodeKeys_calls (w : World) (A : Option Addr) (ca : Nat) (B : Option Addr) (cb : Nat) (lv : Int) (E : List Entry) (K : List Kid) (hca : E.length ≤ ca) (hcb : K.length ≤ cb) (hE : Rd Entry.enc 2 w A E) (hK : Rd Kid.enc 2 w B K) (le : E.length ≤ 1000000) (lk : K.length ≤ 1000000) :
    Calls Tryz.prog 106 #[.agg #[.int .i64 lv, .slice A E.length ca, .slice B K.length cb]] w fun e w' => KeysR w w' (E.map Entry.key ++ K.map Kid.last) e := by
  obtain ⟨W1, hW1⟩ : ∃ W, w.alloc (.cells #[.int .i64 lv, .slice A E.length ca, .slice B K.length cb] 98) = W := ⟨_, rfl⟩
  have hb1 : Below w.heap.size w W1 := by rw [← hW1]; exact bl_alloc (Below.refl _ w) _
  obtain ⟨q, hq⟩ : ∃ q, w.heap.size = q := ⟨_, rfl⟩
  have HZ : Hid (W1.heap[q]? = some (.cells #[.int .i64 lv, .slice A E.length ca, .slice B K.length cb] 98 (0, 0))) := by show _ = _; rw [← hW1, ← hq]; exact blk_new w _
  have HE := Lib.hid (hE.below hb1 (Nat.le_refl _))
  have HK := Lib.hid (hK.below hb1 (Nat.le_refl _))
  have HB1 := Lib.hid hb1
  have x1 := blk_cell HZ.out 1
  have xl := blk_lt HZ.out
  have t1 : Hid ((Value.string ⟨#[]⟩).cells.size = 1) := rfl
  clear hE hK hb1
  go_enter Tryz.func106, Tryz.ntmps106
  go_wp2
  go_loopg [3, 11] E.length (fun m s3 i wr => ∃ (k : Nat) (v : Value), v = s3 ∧ i = .int .i64 k ∧ k + m = E.length ∧ Hid (Own strEnc 1 9 W1.heap.size wr v ((E.take k).map Entry.key)) ∧ Hid (Below W1.heap.size W1 wr))
  case atStart => exact ⟨0, _, rfl, rfl, by omega, Own.nil, Below.refl _ _⟩
  case round =>
    clear x1 xl
    obtain ⟨k, v, rfl, rfl, hk, ho, hb⟩ := hrel
    by_cases hkn : k < E.length
    · obtain ⟨m', hm'⟩ : ∃ m', gk = m' + 1 := ⟨gk - 1, by omega⟩
      subst hm'
      have hki : (k : Int) < (E.length : Int) := by omega
      have hkz : (0 : Int) ≤ (k : Int) := by omega
      rcases HE.out with h0 | ⟨bb, off, rfl, hlt, hcell⟩
      · rw [h0] at hkn; simp at hkn
      have hxk : E[k]? = some E[k] := List.getElem?_eq_getElem hkn
      have hrg := (HE.out.below hb.out (Nat.le_refl _)).range hxk
      have z0 := hrg 0 _ rfl
      have z1 := hrg 1 _ rfl
      have hbl : bb < wr.heap.size := Nat.lt_of_lt_of_le hlt hb.out.size
      have htk : Hid ((E.take (k + 1)).map Entry.key = (E.take k).map Entry.key ++ [(E[k]).key]) := by show _ = _; rw [List.take_add_one, hxk, List.map_append]; rfl
      generalize E[k] = x at *
      obtain ⟨xk, xv⟩ := x
      have e1 : off + k * 2 + 0 = off + k * 2 := rfl
      rw [e1] at z0
      dsimp only at z0 z1 htk
      obtain ⟨W3, hW3⟩ : ∃ W, wr.alloc (.cells #[.string xk, .string xv] 113) = W := ⟨_, rfl⟩
      have hb3 : Below wr.heap.size wr W3 := by rw [← hW3]; exact bl_alloc (Below.refl _ wr) _
      have hz3 : W3.heap[wr.heap.size]? = some (.cells #[.string xk, .string xv] 113 (0, 0)) := by rw [← hW3]; exact blk_new wr _
      have y0 := blk_cell hz3 0
      have yl := blk_lt hz3
      have hb4 : Below W3.heap.size W3 (W3.alloc (.cells #[.string xk] 9)) := bl_alloc (Below.refl _ W3) _
      have B4 := Lib.hid (bl_then (bl_then hb.out hb.out.size hb3) (Nat.le_trans hb.out.size hb3.size) hb4)
      have O4 := Lib.hid ((ho.out.below hb3).below hb4)
      have z4 := Lib.hid B4.out.size
      have hlen : Hid (((E.take k).map Entry.key).length = k) := by show _ = _; rw [List.length_map, List.length_take]; omega
      have l1 : Hid ((((E.take k).map Entry.key).length + 1) * 16 ≤ 140737488355328) := by show _ ≤ _; rw [hlen.out]; omega
      have l2 : Hid (((E.take k).map Entry.key).length + 1 ≤ 140737488355328) := by show _ ≤ _; rw [hlen.out]; omega
      have nn : Hid ([xk] ≠ []) := by show _ ≠ _; simp
      have hmin : min k E.length = k := by omega
      clear hrg hcell hlt hxk hb3 hb4 hz3
      go_wp2_with (at_builtin; refine at_list rfl (fun K' hK' => op_ownN strOk _ _ _ _ _ _ rfl Tryz.underlying49 infoSt t1.out W1.heap.size _ ((E.take k).map Entry.key) (some ⟨W3.heap.size, 0, none⟩) 1 [xk] 1 rfl nn.out rfl rfl O4.out (Rd.lit (blk_new W3 _) rfl) z4.out l1.out l2.out (fun g7 cap w7 ho7 hg7 hat7 hlt7 => hK' _ _ ?_)); have O7 := Lib.hid ho7; have B7 := Lib.hid (B4.out.grown hg7 z4.out (fun k e => (O4.out.lt _ e).1)); clear ho7 hg7 hat7 hlt7)
      rw [← htk.out, hlen.out] at O7
      go_roundg m'
      case measure => omega
      case rel => exact ⟨k + 1, _, rfl, by go_num, by omega, O7.out, B7.out⟩
    · have hkk : ¬ (k : Int) < (E.length : Int) := by omega
      have hk' : E.take k = E := List.take_of_length_le (by omega)
      rw [hk'] at ho
      have hq1 := blk_below hb.out HZ.out (blk_lt HZ.out)
      have w2c := blk_cell hq1 2
      have wl := blk_lt hq1
      have hol : Hid ((E.map Entry.key).length = E.length) := List.length_map ..
      clear hq1 hk' hkn
      go_wp2
      go_loopg [3, 24] K.length (fun m s3 i wq => ∃ (j : Nat) (v : Value), v = s3 ∧ i = .int .i64 j ∧ j + m = K.length ∧ Hid (Own strEnc 1 9 W1.heap.size wq v (E.map Entry.key ++ (K.take j).map Kid.last)) ∧ Hid (Below W1.heap.size W1 wq))
      case atStart => exact ⟨0, _, rfl, rfl, by omega, by show Own _ _ _ _ _ _ _; simpa using ho.out, hb.out⟩
      case round =>
        clear w2c wl ho hb
        obtain ⟨j, v, rfl, rfl, hj, ho, hb⟩ := hrel
        by_cases hjn : j < K.length
        · obtain ⟨m', hm'⟩ : ∃ m', gk = m' + 1 := ⟨gk - 1, by omega⟩
          subst hm'
          have hji : (j : Int) < (K.length : Int) := by omega
          have hjz : (0 : Int) ≤ (j : Int) := by omega
          rcases HK.out with h0 | ⟨bb, off, rfl, hlt, hcell⟩
          · rw [h0] at hjn; simp at hjn
          have hxk : K[j]? = some K[j] := List.getElem?_eq_getElem hjn
          have hrg := (HK.out.below hb.out (Nat.le_refl _)).range hxk
          have z0 := hrg 0 _ rfl
          have z1 := hrg 1 _ rfl
          have hbl : bb < wr.heap.size := Nat.lt_of_lt_of_le hlt hb.out.size
          have htk : Hid ((K.take (j + 1)).map Kid.last = (K.take j).map Kid.last ++ [(K[j]).last]) := by show _ = _; rw [List.take_add_one, hxk, List.map_append]; rfl
          generalize K[j] = x at *
          obtain ⟨xk, xv⟩ := x
          have e1 : off + j * 2 + 0 = off + j * 2 := rfl
          rw [e1] at z0
          dsimp only at z0 z1 htk
          obtain ⟨W3, hW3⟩ : ∃ W, wr.alloc (.cells #[.string xk, .int .u64 xv] 109) = W := ⟨_, rfl⟩
          have hb3 : Below wr.heap.size wr W3 := by rw [← hW3]; exact bl_alloc (Below.refl _ wr) _
          have hz3 : W3.heap[wr.heap.size]? = some (.cells #[.string xk, .int .u64 xv] 109 (0, 0)) := by rw [← hW3]; exact blk_new wr _
          have y0 := blk_cell hz3 0
          have yl := blk_lt hz3
          have hb4 : Below W3.heap.size W3 (W3.alloc (.cells #[.string xk] 9)) := bl_alloc (Below.refl _ W3) _
          have B4 := Lib.hid (bl_then (bl_then hb.out hb.out.size hb3) (Nat.le_trans hb.out.size hb3.size) hb4)
          have O4 := Lib.hid ((ho.out.below hb3).below hb4)
          have z4 := Lib.hid B4.out.size
          have hlen : Hid ((E.map Entry.key ++ (K.take j).map Kid.last).length = E.length + j) := by show _ = _; rw [List.length_append, List.length_map, List.length_map, List.length_take]; omega
          have l1 : Hid (((E.map Entry.key ++ (K.take j).map Kid.last).length + 1) * 16 ≤ 140737488355328) := by show _ ≤ _; rw [hlen.out]; omega
          have l2 : Hid ((E.map Entry.key ++ (K.take j).map Kid.last).length + 1 ≤ 140737488355328) := by show _ ≤ _; rw [hlen.out]; omega
          have nn : Hid ([xk] ≠ []) := by show _ ≠ _; simp
          have hmin : min j K.length = j := by omega
          clear hrg hcell hlt hxk hb3 hb4 hz3
          go_wp2_with (at_builtin; refine at_list rfl (fun K' hK' => op_ownN strOk _ _ _ _ _ _ rfl Tryz.underlying49 infoSt t1.out W1.heap.size _ (E.map Entry.key ++ (K.take j).map Kid.last) (some ⟨W3.heap.size, 0, none⟩) 1 [xk] 1 rfl nn.out rfl rfl O4.out (Rd.lit (blk_new W3 _) rfl) z4.out l1.out l2.out (fun g7 cap w7 ho7 hg7 hat7 hlt7 => hK' _ _ ?_)); have O7 := Lib.hid ho7; have B7 := Lib.hid (B4.out.grown hg7 z4.out (fun k e => (O4.out.lt _ e).1)); clear ho7 hg7 hat7 hlt7)
          have O8 : Hid (Own strEnc 1 9 W1.heap.size w7 (.slice (some ⟨g7, 0, none⟩) ((E.map Entry.key ++ (K.take j).map Kid.last).length + 1) cap) (E.map Entry.key ++ (K.take (j + 1)).map Kid.last)) := by show Own _ _ _ _ _ _ _; rw [htk.out, ← List.append_assoc]; exact O7.out
          rw [hlen.out] at O8
          go_roundg m'
          case measure => omega
          case rel => exact ⟨j + 1, _, rfl, by go_num, by omega, O8.out, B7.out⟩
        · have hjj : ¬ (j : Int) < (K.length : Int) := by omega
          have hj' : K.take j = K := List.take_of_length_le (by omega)
          rw [hj'] at ho
          clear hj' hjn
          go_wp2
          go_ret
          exact ⟨_, rfl, ho.out.mono HB1.out.size, bl_then HB1.out HB1.out.size hb.out⟩
end Go.Proofs.YtikgplhcadomcaaGreat

namespace Go.Proofs.YtikgplhcadomcaaGreat
open Go.RowKit
set_option linter.unusedVariables false
set_option linter.unusedSimpArgs false
section
variable {α : Type}
/-- Elements in rows, each ended by one that is to end it, the last by the end. -/
def rowsF (p : α → Bool) : List α → List α → List (List α)
  | [], [] => []
  | x :: acc, [] => [x :: acc]
  | acc, x :: l => if p x then (acc ++ [x]) :: rowsF p [] l else rowsF p (acc ++ [x]) l
theorem rowsF_step (p : α → Bool) (acc : List α) (x : α) (l : List α) : rowsF p acc (x :: l) = if p x then (acc ++ [x]) :: rowsF p [] l else rowsF p (acc ++ [x]) l := by cases acc <;> rfl
theorem rowsF_last (p : α → Bool) (acc : List α) (x : α) : rowsF p acc [x] = [acc ++ [x]] := by
  rw [rowsF_step]
  split
  · rfl
  · cases acc <;> rfl
def splitAll (p : α → Bool) (l : List α) : List (List α) := rowsF p [] l
end
structure RowV where
  A : Option Addr
  len : Nat
  cap : Nat
def RowV.enc (r : RowV) : List Value := [.slice r.A r.len r.cap]
theorem RowV.ok : Enc RowV.enc 1 := ⟨fun _ => rfl, fun x u hu => by simp [RowV.enc] at hu; rcases hu with rfl; rfl, by omega⟩
section
variable {α : Type} {enc : α → List Value} {sz T base : Nat} {w w' : World} {v : Value}
/-- Rows that a call has made, each in a block of its own, and a row of them. -/
def Rws (enc : α → List Value) (sz T base : Nat) (w : World) (v : Value) (rows : List (List α)) : Prop :=
  ∃ vs : List RowV, Own RowV.enc 1 T base w v vs ∧ vs.length = rows.length ∧ ∀ (i : Nat) (r : RowV) (l : List α), vs[i]? = some r → rows[i]? = some l → r.len = l.length ∧ l.length ≤ r.cap ∧ Rd enc sz w r.A l ∧ ∀ a, r.A = some a → base ≤ a.block ∧ a.block < w.heap.size ∧ some a.block ≠ v.ownBlock
theorem Rws.nil : Rws enc sz T base w (.slice none 0 0) ([] : List (List α)) := ⟨[], Own.nil, rfl, fun i r l h => by simp at h⟩
theorem Rws.below {rows : List (List α)} (h : Rws enc sz T base w v rows) (hb : Below w.heap.size w w') : Rws enc sz T base w' v rows := by
  obtain ⟨vs, h1, h2, h3⟩ := h
  refine ⟨vs, h1.below hb, h2, fun i r l hr hl => ?_⟩
  obtain ⟨k1, k2, k3, k4⟩ := h3 i r l hr hl
  exact ⟨k1, k2, k3.below hb (Nat.le_refl _), fun a ha => ⟨(k4 a ha).1, Nat.lt_of_lt_of_le (k4 a ha).2.1 hb.size, (k4 a ha).2.2⟩⟩
theorem Rws.mono {rows : List (List α)} {base' : Nat} (h : Rws enc sz T base w v rows) (hb : base' ≤ base) : Rws enc sz T base' w v rows := by
  obtain ⟨vs, h1, h2, h3⟩ := h
  refine ⟨vs, h1.mono hb, h2, fun i r l hr hl => ?_⟩
  obtain ⟨k1, k2, k3, k4⟩ := h3 i r l hr hl
  exact ⟨k1, k2, k3, fun a ha => ⟨Nat.le_trans hb (k4 a ha).1, (k4 a ha).2⟩⟩
/-- One row more. -/
theorem Rws.push {rows : List (List α)} {vs : List RowV} {g : Nat} {l : List α} {r : RowV} {v' : Value}
    (h3 : ∀ (i : Nat) (r : RowV) (l : List α), vs[i]? = some r → rows[i]? = some l → r.len = l.length ∧ l.length ≤ r.cap ∧ Rd enc sz w r.A l ∧ ∀ a, r.A = some a → base ≤ a.block ∧ a.block < w.heap.size ∧ some a.block ≠ v.ownBlock)
    (h2 : vs.length = rows.length) (ho : Own RowV.enc 1 T base w' v' (vs ++ [r])) (hg : w.grownBy w' v.ownBlock) (hv' : v'.ownBlock = some g) (hgg : v.ownBlock = some g ∨ w.heap.size ≤ g)
    (hr : r.len = l.length ∧ l.length ≤ r.cap ∧ Rd enc sz w r.A l ∧ ∀ a, r.A = some a → base ≤ a.block ∧ a.block < w.heap.size ∧ some a.block ≠ v.ownBlock) : Rws enc sz T base w' v' (rows ++ [l]) := by
  have key : ∀ (r : RowV) (l : List α), (r.len = l.length ∧ l.length ≤ r.cap ∧ Rd enc sz w r.A l ∧ ∀ a, r.A = some a → base ≤ a.block ∧ a.block < w.heap.size ∧ some a.block ≠ v.ownBlock) → (r.len = l.length ∧ l.length ≤ r.cap ∧ Rd enc sz w' r.A l ∧ ∀ a, r.A = some a → base ≤ a.block ∧ a.block < w'.heap.size ∧ some a.block ≠ v'.ownBlock) := by
    rintro r l ⟨k1, k2, k3, k4⟩
    refine ⟨k1, k2, k3.grown hg (fun a ha => (k4 a ha).2.2), fun a ha => ⟨(k4 a ha).1, Nat.lt_of_lt_of_le (k4 a ha).2.1 hg.size, fun e => ?_⟩⟩
    rw [hv'] at e
    have e : a.block = g := by injection e
    rcases hgg with h | h
    · exact (k4 a ha).2.2 (by rw [h, e])
    · have := (k4 a ha).2.1; omega
  refine ⟨vs ++ [r], ho, by simp [h2], fun i r' l' hr' hl' => ?_⟩
  by_cases hi : i < vs.length
  · rw [List.getElem?_append_left hi] at hr'
    rw [List.getElem?_append_left (by omega)] at hl'
    exact key r' l' (h3 i r' l' hr' hl')
  · rw [List.getElem?_append_right (by omega)] at hr'
    rw [List.getElem?_append_right (by omega)] at hl'
    have hi0 : i - vs.length = 0 := by
      rcases Nat.eq_zero_or_pos (i - vs.length) with h | h
      · exact h
      · rw [List.getElem?_eq_none (by simp; omega)] at hr'; cases hr'
    rw [hi0] at hr'
    rw [show i - rows.length = 0 by omega] at hl'
    simp at hr' hl'
    subst hr' hl'
    exact key r l hr
end
end Go.Proofs.YtikgplhcadomcaaGreat

namespace Go.Proofs.YtikgplhcadomcaaGreat
open Go.RowKit Go.Lib Go.Sort Go.Shelf
set_option linter.unusedVariables false
set_option linter.unusedSimpArgs false
instance : Inhabited RowV := ⟨⟨none, 0, 0⟩⟩
def RowV.v (r : RowV) : Value := .slice r.A r.len r.cap
section
variable {α : Type} {enc : α → List Value} {sz T base : Nat} {w w' : World}
/-- Rows of rows, as they are read. -/
def RwR (enc : α → List Value) (sz : Nat) (w : World) (A : Option Addr) (rows : List (List α)) : Prop :=
  ∃ vs : List RowV, vs.length = rows.length ∧ Rd RowV.enc 1 w A vs ∧ ∀ (i : Nat) (r : RowV) (l : List α), vs[i]? = some r → rows[i]? = some l → r.len = l.length ∧ l.length ≤ r.cap ∧ Rd enc sz w r.A l
theorem RwR.below {A : Option Addr} {rows : List (List α)} (h : RwR enc sz w A rows) (hb : Below w.heap.size w w') : RwR enc sz w' A rows := by
  obtain ⟨vs, h1, h2, h3⟩ := h
  refine ⟨vs, h1, h2.below hb (Nat.le_refl _), fun i r l hr hl => ?_⟩
  obtain ⟨k1, k2, k3⟩ := h3 i r l hr hl
  exact ⟨k1, k2, k3.below hb (Nat.le_refl _)⟩
theorem Rws.rwr {rows : List (List α)} {v : Value} (h : Rws enc sz T base w v rows) : ∃ A c, v = .slice A rows.length c ∧ rows.length ≤ c ∧ c ≤ 9223372036854775807 ∧ RwR enc sz w A rows := by
  obtain ⟨vs, h1, h2, h3⟩ := h
  obtain ⟨A, c, rfl, k1, k2, k3, k4⟩ := h1.rd RowV.ok
  rw [h2] at k1 ⊢
  exact ⟨A, c, rfl, k1, k2, vs, h2, k3, fun i r l hr hl => by obtain ⟨a, b, c, d⟩ := h3 i r l hr hl; exact ⟨a, b, c⟩⟩
end
end Go.Proofs.YtikgplhcadomcaaGreat

namespace Go.Proofs.YtikgplhcadomcaaGreat
open Go.RowKit
set_option linter.unusedVariables false
set_option linter.unusedSimpArgs false
/-- A node's value, opened. -/
structure NdA where
  A : Option Addr
  ca : Nat
  B : Option Addr
  cb : Nat
def NdA.v (a : NdA) (n : NodeP) : Value := .agg #[.int .i64 n.level, .slice a.A n.ents.length a.ca, .slice a.B n.kids.length a.cb]
structure NdAt (w : World) (a : NdA) (n : NodeP) : Prop where
  ca : n.ents.length ≤ a.ca
  cb : n.kids.length ≤ a.cb
  hE : Rd Entry.enc 2 w a.A n.ents
  hK : Rd Kid.enc 2 w a.B n.kids
  sE : ∀ x ∈ n.ents, x.key.size ≤ 1000000 ∧ x.val.size ≤ 1000000
  sK : ∀ k ∈ n.kids, k.last.size ≤ 1000000
  le : n.ents.length ≤ 1000000
  lk : n.kids.length ≤ 1000000
theorem NdAt.below {w w' : World} {a : NdA} {n : NodeP} (h : NdAt w a n) (hb : Below w.heap.size w w') : NdAt w' a n := ⟨h.ca, h.cb, h.hE.below hb (Nat.le_refl _), h.hK.below hb (Nat.le_refl _), h.sE, h.sK, h.le, h.lk⟩
set_option maxRecDepth 100000 in
set_option maxHeartbeats 1000000 in
theorem nodeLast_calls (w : World) (a : NdA) (n : NodeP) (h : NdAt w a n) :
    Calls Tryz.prog 57 #[.agg #[.int .i64 n.level, .slice a.A n.ents.length a.ca, .slice a.B n.kids.length a.cb]] w fun e w' => e = .returned (.string n.last) ∧ Below w.heap.size w w' := by
  obtain ⟨W1, hW1⟩ : ∃ W, w.alloc (.cells #[.int .i64 n.level, .slice a.A n.ents.length a.ca, .slice a.B n.kids.length a.cb] 98) = W := ⟨_, rfl⟩
  have hb1 : Below w.heap.size w W1 := by rw [← hW1]; exact bl_alloc (Below.refl _ w) _
  obtain ⟨q, hq⟩ : ∃ q, w.heap.size = q := ⟨_, rfl⟩
  have hz : W1.heap[q]? = some (.cells #[.int .i64 n.level, .slice a.A n.ents.length a.ca, .slice a.B n.kids.length a.cb] 98 (0, 0)) := by rw [← hW1, ← hq]; exact blk_new w _
  have x0 := blk_cell hz 0
  have x1 := blk_cell hz 1
  have x2 := blk_cell hz 2
  have xl := blk_lt hz
  have h1 := h.below hb1
  have HKc := Lib.hid (nodeKeys_calls W1 a.A a.ca a.B a.cb n.level n.ents n.kids h.ca h.cb h1.hE h1.hK h.le h.lk)
  have HB1 := Lib.hid hb1
  have hlk := h.lk
  have hle := h.le
  clear hz h1 hb1 h
  go_enter Tryz.func57, Tryz.ntmps57
  go_wp2_with fail
  refine HKc.out.mono ?_
  rintro e w2 ⟨v, rfl, ho, hb2⟩
  obtain ⟨A2, c2, rfl, hc2, -, hr2, -⟩ := ho.rd strOk
  have hkl : (n.ents.map Entry.key ++ n.kids.map Kid.last).length = n.ents.length + n.kids.length := by rw [List.length_append, List.length_map, List.length_map]
  have hlast : Hid (n.last = (n.ents.map Entry.key ++ n.kids.map Kid.last).getLast?.getD ⟨#[]⟩) := rfl
  have B2 := Lib.hid (bl_then HB1.out HB1.out.size hb2)
  clear x0 x1 x2 xl hb2 ho
  obtain ⟨ks, hks⟩ : ∃ ks, n.ents.map Entry.key ++ n.kids.map Kid.last = ks := ⟨_, rfl⟩
  rw [hks] at hkl hlast hr2 hc2 ⊢
  have hkb : ks.length ≤ 2000000 := by omega
  clear hks hkl
  by_cases h0 : ks.length = 0
  · have hn : ks = [] := List.eq_nil_of_length_eq_zero h0
    have hv : Hid (n.last = ⟨#[]⟩) := by show _ = _; rw [hlast.out, hn]; rfl
    rw [h0]
    clear hn h0 hr2 hc2
    go_wp2
    go_ret
    exact ⟨by rw [hv.out]; rfl, B2.out⟩
  · rcases hr2 with q0 | ⟨bb, off, rfl, hlt, hcell⟩
    · rw [q0] at h0; simp at h0
    have hx : ks[ks.length - 1]? = some (ks[ks.length - 1]'(by omega)) := List.getElem?_eq_getElem _
    have z0 := hcell (ks.length - 1) _ hx 0 _ rfl
    have hv : Hid (n.last = ks[ks.length - 1]'(by omega)) := by show _ = _; rw [hlast.out, List.getLast?_eq_getElem?, hx]; rfl
    generalize ks[ks.length - 1]'(by omega) = x at *
    have e1 : off + (ks.length - 1) * 1 + 0 = off + (ks.length - 1) := by omega
    rw [e1] at z0
    have hnz : ((ks.length : Int) == 0) = false := by rw [beq_eq_false_iff_ne]; omega
    have hpos : 0 < ks.length := by omega
    have i0 : (0 : Int) ≤ (ks.length : Int) - 1 := by omega
    have i1 : (ks.length : Int) - 1 < (ks.length : Int) := by omega
    have i2 : ((ks.length : Int) - 1).toNat = ks.length - 1 := by omega
    clear hcell hx h0
    go_wp2
    go_ret
    exact ⟨by rw [hv.out]; rfl, B2.out⟩
end Go.Proofs.YtikgplhcadomcaaGreat

namespace Go.Proofs.YtikgplhcadomcaaGreat
open Go.RowKit
set_option linter.unusedVariables false
set_option linter.unusedSimpArgs false
theorem textErr_drop (E : List Entry) (k : Nat) (x : Entry) (h : E[k]? = some x) : textErr (E.drop k) = if keyErr x.key ≠ 0 then keyErr x.key else if valErr x.val ≠ 0 then valErr x.val else textErr (E.drop (k + 1)) := by
  have hl : k < E.length := (List.getElem?_eq_some_iff.1 h).1
  have he : E[k] = x := (List.getElem?_eq_some_iff.1 h).2
  rw [List.drop_eq_getElem_cons hl, he]; simp only [textErr]
theorem kidsE_drop (E : List Kid) (k : Nat) (x : Kid) (h : E[k]? = some x) : kidsE (E.drop k) = if keyErr x.last ≠ 0 then keyErr x.last else kidsE (E.drop (k + 1)) := by
  have hl : k < E.length := (List.getElem?_eq_some_iff.1 h).1
  have he : E[k] = x := (List.getElem?_eq_some_iff.1 h).2
  rw [List.drop_eq_getElem_cons hl, he]; simp only [kidsE]
set_option maxRecDepth 100000 in
set_option maxHeartbeats 2000000 in
theorem nodeTexts_calls (w : World) (a : NdA) (n : NodeP) (h : NdAt w a n) :
    Calls Tryz.prog 188 #[.agg #[.int .i64 n.level, .slice a.A n.ents.length a.ca, .slice a.B n.kids.length a.cb]] w fun e w' => e = .returned (.int .i64 n.texts) ∧ Below w.heap.size w w' := by
  obtain ⟨A, ca, B, cb⟩ := a
  obtain ⟨lv, E, K⟩ := n
  dsimp only
  obtain ⟨W1, hW1⟩ : ∃ W, w.alloc (.cells #[.int .i64 lv, .slice A E.length ca, .slice B K.length cb] 98) = W := ⟨_, rfl⟩
  have hb1 : Below w.heap.size w W1 := by rw [← hW1]; exact bl_alloc (Below.refl _ w) _
  obtain ⟨q, hq⟩ : ∃ q, w.heap.size = q := ⟨_, rfl⟩
  have HZ : Hid (W1.heap[q]? = some (.cells #[.int .i64 lv, .slice A E.length ca, .slice B K.length cb] 98 (0, 0))) := by show _ = _; rw [← hW1, ← hq]; exact blk_new w _
  have x1 := blk_cell HZ.out 1
  have xl := blk_lt HZ.out
  have h1 := h.below hb1
  have HE := Lib.hid h1.hE
  have HK := Lib.hid h1.hK
  have sE := Lib.hid h.sE
  have sK := Lib.hid h.sK
  have HB1 := Lib.hid hb1
  have hlk := h.lk
  have hle := h.le
  have htx : Hid (NodeP.texts ⟨lv, E, K⟩ = if textErr E ≠ 0 then textErr E else kidsE K) := rfl
  obtain ⟨t, ht⟩ : ∃ t, NodeP.texts ⟨lv, E, K⟩ = t := ⟨_, rfl⟩
  rw [ht] at htx
  rw [ht]
  clear h1 hb1 h ht
  go_enter Tryz.func188, Tryz.ntmps188
  go_wp2
  go_loopg [13] E.length (fun m i wr => ∃ k : Nat, i = .int .i64 k ∧ k + m = E.length ∧ Hid (textErr (E.drop k) = textErr E) ∧ Hid (Below W1.heap.size W1 wr))
  case atStart => exact ⟨0, rfl, by omega, rfl, Below.refl _ _⟩
  case round =>
    clear x1 xl
    obtain ⟨k, rfl, hk, ho, hb⟩ := hrel
    by_cases hkn : k < E.length
    · obtain ⟨m', hm'⟩ : ∃ m', gk = m' + 1 := ⟨gk - 1, by omega⟩
      subst hm'
      have hki : (k : Int) < (E.length : Int) := by omega
      have hkz : (0 : Int) ≤ (k : Int) := by omega
      rcases HE.out with h0 | ⟨bb, off, rfl, hlt, hcell⟩
      · rw [h0] at hkn; simp at hkn
      have hxk : E[k]? = some E[k] := List.getElem?_eq_getElem hkn
      have hrg := (HE.out.below hb.out (Nat.le_refl _)).range hxk
      have z0 := hrg 0 _ rfl
      have z1 := hrg 1 _ rfl
      have hbl : bb < wr.heap.size := Nat.lt_of_lt_of_le hlt hb.out.size
      have htk := Lib.hid (textErr_drop E k _ hxk)
      have hsx := sE.out _ (List.getElem_mem hkn)
      generalize E[k] = x at *
      obtain ⟨xk, xv⟩ := x
      have e1 : off + k * 2 + 0 = off + k * 2 := rfl
      rw [e1] at z0
      dsimp only at z0 z1 htk hsx
      have ks : xk.size ≤ 9223372036854775807 := by omega
      have vs : xv.size ≤ 9223372036854775807 := by omega
      obtain ⟨W3, hW3⟩ : ∃ W, wr.alloc (.cells #[.string xk, .string xv] 113) = W := ⟨_, rfl⟩
      have hb3 : Below wr.heap.size wr W3 := by rw [← hW3]; exact bl_alloc (Below.refl _ wr) _
      have hz3 : W3.heap[wr.heap.size]? = some (.cells #[.string xk, .string xv] 113 (0, 0)) := by rw [← hW3]; exact blk_new wr _
      have y0 := blk_cell hz3 0
      have y1 := blk_cell hz3 1
      have yl := blk_lt hz3
      have B4 := Lib.hid (bl_then hb.out hb.out.size hb3)
      clear hrg hcell hlt hxk hb3 hz3 hb
      go_wp2_with fail
      refine (nodeKey_calls _ xk ks).mono ?_
      rintro e w2 ⟨rfl, rfl⟩
      by_cases hk0 : keyErr xk = 0
      · have hk1 : (keyErr xk == 0) = true := by rw [hk0]; rfl
        rw [hk0]
        go_wp2_with fail
        refine (nodeVal_calls _ xv vs).mono ?_
        rintro e w2 ⟨rfl, rfl⟩
        by_cases hv0 : valErr xv = 0
        · rw [hv0]
          have hn : Hid (textErr (E.drop (k + 1)) = textErr E) := by show _ = _; rw [← ho.out, htk.out, hk0, hv0]; simp
          clear hk1 hk0 hv0 htk ho
          go_wp2
          go_roundg m'
          case measure => omega
          case rel => exact ⟨k + 1, by go_num, by omega, hn.out, B4.out⟩
        · have hn : Hid (t = valErr xv) := by
            show _ = _
            have e : textErr E = valErr xv := by rw [← ho.out, htk.out, hk0]; simp [hv0]
            rw [htx.out, e]; simp [hv0]
          have hv1 : (valErr xv == 0) = false := by rw [beq_eq_false_iff_ne]; exact hv0
          generalize valErr xv = ve at *
          clear hk1 hk0 hv0 htk ho htx
          go_wp2
          go_ret
          exact ⟨by rw [hn.out]; rfl, bl_then HB1.out HB1.out.size B4.out⟩
      · have hn : Hid (t = keyErr xk) := by
          show _ = _
          have e : textErr E = keyErr xk := by rw [← ho.out, htk.out]; simp [hk0]
          rw [htx.out, e]; simp [hk0]
        have hk1 : (keyErr xk == 0) = false := by rw [beq_eq_false_iff_ne]; exact hk0
        generalize keyErr xk = ke at *
        clear hk0 htk ho htx
        go_wp2
        go_ret
        exact ⟨by rw [hn.out]; rfl, bl_then HB1.out HB1.out.size B4.out⟩
    · have hkk : ¬ (k : Int) < (E.length : Int) := by omega
      have hn : Hid (t = kidsE K) := by
        show _ = _
        have e : textErr E = 0 := by rw [← ho.out, List.drop_eq_nil_of_le (by omega)]; rfl
        rw [htx.out, e]; simp
      have hq1 := blk_below hb.out HZ.out (blk_lt HZ.out)
      have w2c := blk_cell hq1 2
      have wl := blk_lt hq1
      clear hq1 hkn ho htx
      go_wp2
      go_loopg [33] K.length (fun m i wq => ∃ (j : Nat), i = .int .i64 j ∧ j + m = K.length ∧ Hid (kidsE (K.drop j) = kidsE K) ∧ Hid (Below W1.heap.size W1 wq))
      case atStart => exact ⟨0, rfl, by omega, rfl, hb.out⟩
      case round =>
        clear w2c wl hb
        obtain ⟨j, rfl, hj, ho, hb⟩ := hrel
        by_cases hjn : j < K.length
        · obtain ⟨m', hm'⟩ : ∃ m', gk = m' + 1 := ⟨gk - 1, by omega⟩
          subst hm'
          have hji : (j : Int) < (K.length : Int) := by omega
          have hjz : (0 : Int) ≤ (j : Int) := by omega
          rcases HK.out with h0 | ⟨bb, off, rfl, hlt, hcell⟩
          · rw [h0] at hjn; simp at hjn
          have hxk : K[j]? = some K[j] := List.getElem?_eq_getElem hjn
          have hrg := (HK.out.below hb.out (Nat.le_refl _)).range hxk
          have z0 := hrg 0 _ rfl
          have z1 := hrg 1 _ rfl
          have hbl : bb < wr.heap.size := Nat.lt_of_lt_of_le hlt hb.out.size
          have htk := Lib.hid (kidsE_drop K j _ hxk)
          have hsx := sK.out _ (List.getElem_mem hjn)
          generalize K[j] = x at *
          obtain ⟨xk, xv⟩ := x
          have e1 : off + j * 2 + 0 = off + j * 2 := rfl
          rw [e1] at z0
          dsimp only at z0 z1 htk hsx
          have ks : xk.size ≤ 9223372036854775807 := by omega
          obtain ⟨W3, hW3⟩ : ∃ W, wr.alloc (.cells #[.string xk, .int .u64 xv] 109) = W := ⟨_, rfl⟩
          have hb3 : Below wr.heap.size wr W3 := by rw [← hW3]; exact bl_alloc (Below.refl _ wr) _
          have hz3 : W3.heap[wr.heap.size]? = some (.cells #[.string xk, .int .u64 xv] 109 (0, 0)) := by rw [← hW3]; exact blk_new wr _
          have y0 := blk_cell hz3 0
          have yl := blk_lt hz3
          have B4 := Lib.hid (bl_then hb.out hb.out.size hb3)
          clear hrg hcell hlt hxk hb3 hz3 hb
          go_wp2_with fail
          refine (nodeKey_calls _ xk ks).mono ?_
          rintro e w2 ⟨rfl, rfl⟩
          by_cases hk0 : keyErr xk = 0
          · rw [hk0]
            have hm : Hid (kidsE (K.drop (j + 1)) = kidsE K) := by show _ = _; rw [← ho.out, htk.out, hk0]; simp
            clear hk0 htk ho
            go_wp2
            go_roundg m'
            case measure => omega
            case rel => exact ⟨j + 1, by go_num, by omega, hm.out, B4.out⟩
          · have hm : Hid (t = keyErr xk) := by
              show _ = _
              rw [hn.out, ← ho.out, htk.out]; simp [hk0]
            have hk1 : (keyErr xk == 0) = false := by rw [beq_eq_false_iff_ne]; exact hk0
            generalize keyErr xk = ke at *
            clear hk0 htk ho hn
            go_wp2
            go_ret
            exact ⟨by rw [hm.out]; rfl, bl_then HB1.out HB1.out.size B4.out⟩
        · have hjj : ¬ (j : Int) < (K.length : Int) := by omega
          have hm : Hid (t = 0) := by show _ = _; rw [hn.out, ← ho.out, List.drop_eq_nil_of_le (by omega)]; rfl
          clear hjn hn ho
          go_wp2
          go_ret
          rw [← hq]
          exact ⟨by rw [hm.out]; rfl, bl_then HB1.out HB1.out.size hb.out⟩
end Go.Proofs.YtikgplhcadomcaaGreat

namespace Go.Proofs.YtikgplhcadomcaaGreat
open Go.RowKit
set_option linter.unusedVariables false
set_option linter.unusedSimpArgs false
def keyBad (lv : Int) (ks : List Str) (i : Nat) : Bool := (decide (0 < i) && !(slt (ks.getD (i - 1) ⟨#[]⟩) (ks.getD i ⟨#[]⟩))) || (decide (i + 1 < ks.length) && endsN lv (ks.getD i ⟨#[]⟩))
theorem badKeys_iff (lv : Int) : ∀ ks : List Str, badKeys lv ks = true ↔ ∃ i, i < ks.length ∧ keyBad lv ks i = true
  | [] => by simp [badKeys]
  | [x] => by
    simp only [badKeys, Bool.false_eq_true, false_iff, not_exists, not_and]
    intro i hi
    have : i = 0 := by simp at hi; omega
    subst this
    simp [keyBad]
  | x :: y :: l => by
    have ih := badKeys_iff lv (y :: l)
    simp only [badKeys, Bool.or_eq_true, ih]
    constructor
    · rintro ((h | h) | ⟨i, hi, h⟩)
      · exact ⟨0, by simp, by simp [keyBad, h]⟩
      · exact ⟨1, by simp, by simp only [keyBad]; simp at h ⊢; exact .inl h⟩
      · refine ⟨i + 1, by simp at hi ⊢; omega, ?_⟩
        simp only [keyBad, Bool.or_eq_true, Bool.and_eq_true, decide_eq_true_eq] at h ⊢
        rcases h with ⟨h1, h2⟩ | ⟨h1, h2⟩
        · refine .inl ⟨by omega, ?_⟩
          obtain ⟨j, rfl⟩ : ∃ j, i = j + 1 := ⟨i - 1, by omega⟩
          simpa using h2
        · exact .inr ⟨by simp at h1 ⊢; omega, by simpa using h2⟩
    · rintro ⟨i, hi, h⟩
      simp only [keyBad, Bool.or_eq_true, Bool.and_eq_true, decide_eq_true_eq] at h
      match i, hi, h with
      | 0, _, h => rcases h with ⟨h1, -⟩ | ⟨-, h2⟩
                   · omega
                   · exact .inl (.inl (by simpa using h2))
      | 1, _, h => rcases h with ⟨-, h2⟩ | ⟨h1, h2⟩
                   · exact .inl (.inr (by simpa using h2))
                   · exact .inr ⟨0, by simp, by simp only [keyBad, Bool.or_eq_true, Bool.and_eq_true, decide_eq_true_eq]; exact .inr ⟨by simp at h1 ⊢; omega, by simpa using h2⟩⟩
      | j + 2, hi, h =>
        refine .inr ⟨j + 1, by simp at hi ⊢; omega, ?_⟩
        simp only [keyBad, Bool.or_eq_true, Bool.and_eq_true, decide_eq_true_eq]
        rcases h with ⟨-, h2⟩ | ⟨h1, h2⟩
        · exact .inl ⟨by omega, by simpa using h2⟩
        · exact .inr ⟨by simp at h1 ⊢; omega, by simpa using h2⟩
theorem badKeys_no (lv : Int) (ks : List Str) (h : ∀ i, i < ks.length → keyBad lv ks i = false) : badKeys lv ks = false := by
  rw [Bool.eq_false_iff]; intro e; obtain ⟨i, hi, hb⟩ := (badKeys_iff lv ks).1 e; rw [h i hi] at hb; exact absurd hb (by simp)
theorem keyBad_zero (lv : Int) (ks : List Str) (x : Str) (h : ks[0]? = some x) : keyBad lv ks 0 = (decide (1 < ks.length) && endsN lv x) := by
  simp [keyBad, List.getD, h]
theorem keyBad_succ (lv : Int) (ks : List Str) (j : Nat) (x y : Str) (hx : ks[j]? = some x) (hy : ks[j + 1]? = some y) : keyBad lv ks (j + 1) = (!(slt x y) || (decide (j + 2 < ks.length) && endsN lv y)) := by
  simp [keyBad, List.getD, hx, hy]
end Go.Proofs.YtikgplhcadomcaaGreat
