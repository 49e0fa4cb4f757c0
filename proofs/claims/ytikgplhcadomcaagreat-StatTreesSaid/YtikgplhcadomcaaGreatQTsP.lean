/- A store on a great device, told as the list of its texts: plain, no program. -/
import Derived.Test.YtikgplhcadomcaaGreatKM
namespace Go.Proofs.YtikgplhcadomcaaGreat
open Go.RowKit
set_option linter.unusedVariables false
set_option linter.unusedSimpArgs false
/-- Of 4096 pages those from k on are free. -/
def oneT (k : Int) : Fr := ⟨1, 4096, [⟨k, 4096 - k⟩]⟩
theorem take_oneT {k n : Int} (h0 : 1 ≤ n) (h1 : k + n < 4096) : (oneT k).take n = ((k, true), oneT (k + n)) := by
  have hr : room ⟨0, n⟩ ⟨k, 4096 - k⟩ = true := by simp only [room, decide_eq_true_eq]; omega
  have hp : place (room ⟨0, n⟩) (oneT k).l = 0 := by unfold oneT; rw [place_cons, if_pos hr]
  unfold Fr.take
  rw [if_neg (by omega), hp, if_neg (by omega)]
  have hg : ((oneT k).l.getD (0 : Int).toNat default) = ⟨k, 4096 - k⟩ := rfl
  rw [hg]
  unfold cutL
  rw [hg]
  unfold rest oneT
  dsimp only
  rw [if_neg (by omega), if_pos (by omega), show k + (4096 - k) - (k + n) = 4096 - (k + n) from by omega]
  rfl
theorem put_oneT {D : Dv} {P : Pg} {k : Int} {b : List Int} (hc : Calm D) (hn : D.n = 16384) (he : P.ended = false) (hf : P.fr = oneT k) (hk : 1 ≤ k) (n0 : needP b.length ≠ 0) (n1 : 1 ≤ needP b.length) (hk2 : k + needP b.length < 4096) (hb : byteL b) :
    putR D P b = ((⟨k, needP b.length⟩, 0), (writeT D k b).2, { P with fr := oneT (k + needP b.length), put := P.put ++ [⟨k, needP b.length⟩] }) ∧ Calm (writeT D k b).2 ∧ Grew D (writeT D k b).2 (wrs (k * 4) (textSecs b)) := by
  obtain ⟨w1, g, c⟩ := calm_writeT hc hb n0 (start := k) (by omega) (by rw [hn]; omega)
  have hL : layR D P b = ((⟨k, needP b.length⟩, 0), (writeT D k b).2, { P with fr := oneT (k + needP b.length) }) := by
    unfold layR
    simp only [if_neg n0]
    rw [hf, take_oneT n1 (by omega)]
    simp only [Bool.true_eq_false, if_false]
    rw [if_neg (by rw [w1]; simp)]
  refine ⟨?_, c, g⟩
  unfold putR
  rw [if_neg (by rw [he]; simp), hL]
  rfl
theorem needT {b : List Int} (h : b.length ≤ 131072) : needP b.length ≠ 0 ∧ 1 ≤ needP b.length ∧ needP b.length ≤ 1 + b.length / 124 := by
  rw [needP_ok (by omega) (by omega)]
  omega
theorem text_more {D D' : Dv} {st k : Int} {b : List Int} {ss : List (List Int)} (hc : Calm D') (h0 : 0 ≤ st) (h1 : (st + needP b.length) * 4 ≤ D'.n) (h : Text D st b) (g : Grew D D' (wrs (k * 4) ss)) (hk : st + needP b.length ≤ k) : Text D' st b :=
  text_keep hc h0 h1 h fun p p0 p1 => by rw [now_same g (fun x hx => by have := wrs_mem _ _ x hx; omega)]
/-- The numbers of texts of a sum. -/
def idsH (h : Int) : List (List Int) → Int → List Int
  | [], _ => []
  | b :: C, id => if hashB b = h then id :: idsH h C (id + 1) else idsH h C (id + 1)
theorem idsH_app (h : Int) (b : List Int) : ∀ (C : List (List Int)) (id : Int), idsH h (C ++ [b]) id = if hashB b = h then idsH h C id ++ [id + C.length] else idsH h C id
  | [], id => by simp [idsH]
  | c :: C, id => by
    have ih := idsH_app h b C (id + 1)
    have e : id + 1 + (C.length : Int) = id + ((C.length + 1 : Nat) : Int) := by omega
    simp only [List.cons_append, idsH, ih, List.length_cons, ← e]
    split <;> split <;> simp
theorem idsH_len (h : Int) : ∀ (C : List (List Int)) (id : Int), (idsH h C id).length ≤ C.length
  | [], id => by simp [idsH]
  | c :: C, id => by
    have ih := idsH_len h C (id + 1)
    simp only [idsH, List.length_cons]
    split <;> simp <;> omega
/-- The first of the numbers under which a text is told. -/
theorem idsH_find (g : Int → Option (List Int)) (b : List Int) : ∀ (C : List (List Int)) (id : Int), (∀ (i : Nat) c, C[i]? = some c → g (id + i) = some c) → (idsH (hashB b) C id).find? (fun j => decide (g j = some b)) = if b ∈ C then some (id + C.idxOf b) else none
  | [], id, _ => by simp [idsH]
  | c :: C, id, hg => by
    have ih := idsH_find g b C (id + 1) (fun i x hx => by have := hg (i + 1) x (by simpa using hx); rwa [show id + ((i + 1 : Nat) : Int) = id + 1 + i from by omega] at this)
    have h0 := hg 0 c rfl
    rw [show id + ((0 : Nat) : Int) = id from by omega] at h0
    by_cases hcb : c = b
    · subst hcb
      simp only [idsH, if_true, List.mem_cons, true_or, List.idxOf_cons_self]
      rw [List.find?_cons_of_pos (by simp [h0])]
      simp
    · have hbc : ¬ b = c := fun e => hcb e.symm
      have e1 : (idsH (hashB b) (c :: C) id).find? (fun j => decide (g j = some b)) = (idsH (hashB b) C (id + 1)).find? (fun j => decide (g j = some b)) := by
        simp only [idsH]
        split
        · rw [List.find?_cons_of_neg (by rw [h0]; simp [hcb])]
        · rfl
      rw [e1, ih]
      simp only [List.mem_cons, hbc, false_or]
      have hq : (c == b) = false := by simpa using hcb
      have hix : List.idxOf b (c :: C) = List.idxOf b C + 1 := by
        rw [List.idxOf_cons, hq]
        try rfl
      rw [hix]
      split
      · congr 1; omega
      · rfl
def addT (C : List (List Int)) (b : List Int) : List (List Int) := if b ∈ C then C else C ++ [b]
def numT (C : List (List Int)) (b : List Int) : Int := (C.idxOf b : Int) + 1
theorem numT_new {C : List (List Int)} {b : List Int} (h : b ∉ C) : numT C b = C.length + 1 := by unfold numT; rw [List.idxOf_eq_length h]
theorem addT_mem {C : List (List Int)} {b : List Int} (h : b ∈ C) : addT C b = C := if_pos h
theorem addT_new {C : List (List Int)} {b : List Int} (h : b ∉ C) : addT C b = C ++ [b] := if_neg h
/-- What a number tells. -/
def tellT (C : List (List Int)) (id : Int) : Option (List Int) := if 1 ≤ id then C[(id - 1).toNat]? else none
theorem tell_add (C : List (List Int)) (b : List Int) : tellT (addT C b) (numT C b) = some b := by
  have e : (numT C b - 1).toNat = C.idxOf b := by unfold numT; omega
  unfold tellT
  rw [if_pos (by unfold numT; omega), e]
  by_cases h : b ∈ C
  · rw [addT_mem h, List.getElem?_eq_getElem (List.idxOf_lt_length_of_mem h), List.getElem_idxOf]
  · rw [addT_new h, List.idxOf_eq_length h]; simp
theorem num_range (C : List (List Int)) (b : List Int) : 1 ≤ numT C b ∧ numT C b ≤ (addT C b).length := by
  unfold numT
  by_cases h : b ∈ C
  · rw [addT_mem h]; have := List.idxOf_lt_length_of_mem h; omega
  · rw [addT_new h, List.idxOf_eq_length h]; simp; omega
/-- C' is C with more behind it. -/
def More (C C' : List (List Int)) : Prop := C <+: C'
theorem More.refl (C : List (List Int)) : More C C := List.prefix_refl C
theorem More.trans {A B C : List (List Int)} (h : More A B) (k : More B C) : More A C := List.IsPrefix.trans h k
theorem more_add (C : List (List Int)) (b : List Int) : More C (addT C b) := by
  unfold addT
  split
  · exact More.refl C
  · exact List.prefix_append _ _
theorem More.tell {C C' : List (List Int)} (h : More C C') {id : Int} {b : List Int} (hb : tellT C id = some b) : tellT C' id = some b := by
  obtain ⟨t, rfl⟩ := h
  unfold tellT at hb ⊢
  by_cases h1 : 1 ≤ id
  · rw [if_pos h1] at hb ⊢
    rw [List.getElem?_append_left (List.getElem?_eq_some_iff.1 hb).1]; exact hb
  · rw [if_neg h1] at hb; cases hb
theorem endOf_ge : ∀ (l : List (List Int)) (k : Int), (∀ b ∈ l, b.length ≤ 131072) → k + l.length ≤ endOf k l
  | [], k, _ => by simp [endOf]
  | x :: l, k, h => by
    have h1 := needT (h x List.mem_cons_self)
    have h2 := endOf_ge l (k + needP x.length) (fun y hy => h y (List.mem_cons_of_mem _ hy))
    simp only [endOf, List.length_cons]
    omega
/-- The store S on the device D holds the texts C, and nothing else. -/
structure TreeS (C : List (List Int)) (D : Dv) (S : Stor) : Prop where
  calm : Calm D
  n : D.n = 16384
  ended : S.P.ended = false
  fr : S.P.fr = oneT (endOf 1 C)
  put : S.P.put.length ≤ C.length
  next : S.now.next = C.length + 1
  free : ∀ id : Int, id < 1 ∨ C.length < id → look S.now.places id = none
  ids : ∀ h, idsOf S.now h = idsH h C 1
  ndp : (S.now.places.map (·.1)).Nodup
  nds : (S.now.sums.map (·.1)).Nodup
  nd : C.Nodup
  bytes : ∀ b ∈ C, byteL b ∧ b.length ≤ 131072
  room : endOf 1 C ≤ 4096
  text : ∀ (i : Nat) b, C[i]? = some b → ∃ st, look S.now.places (i + 1) = some ⟨⟨st, needP b.length⟩, b.length⟩ ∧ 1 ≤ st ∧ st + needP b.length ≤ endOf 1 C ∧ Text D st b
  cache : (D.cache.length : Int) ≤ 4 * endOf 1 C
theorem TreeS.len {C : List (List Int)} {D : Dv} {S : Stor} (h : TreeS C D S) : (C.length : Int) ≤ 4095 := by
  have := endOf_ge C 1 (fun b hb => (h.bytes b hb).2)
  have := h.room
  omega
theorem TreeS.get {C : List (List Int)} {D : Dv} {S : Stor} (h : TreeS C D S) {i : Nat} {b : List Int} (hb : C[i]? = some b) : getC D S (i + 1) = (b, 0) := by
  obtain ⟨st, k1, k2, k3, k4⟩ := h.text i b hb
  have n0 := (needT (h.bytes b (List.mem_of_getElem? hb)).2).1
  unfold getC
  rw [k1]
  dsimp only
  unfold getR
  rw [if_neg (by rw [h.ended]; simp), if_neg (by rintro (q | q); exact n0 q; exact q rfl)]
  exact readT_has n0 k4
/-- What Get tells. -/
theorem TreeS.tells {C : List (List Int)} {D : Dv} {S : Stor} (h : TreeS C D S) (id : Int) : getC D S id = match tellT C id with | some b => (b, 0) | none => ([], 3) := by
  unfold tellT
  by_cases h1 : 1 ≤ id
  · rw [if_pos h1]
    cases hc : C[(id - 1).toNat]? with
    | some b =>
      have := h.get hc
      rwa [show (((id - 1).toNat : Nat) : Int) + 1 = id by omega] at this
    | none =>
      have := List.getElem?_eq_none_iff.1 hc
      unfold getC
      rw [h.free id (by omega)]
  · rw [if_neg h1]
    unfold getC
    rw [h.free id (by omega)]
theorem TreeS.find {C : List (List Int)} {D : Dv} {S : Stor} (h : TreeS C D S) (b : List Int) : findC D S b = if b ∈ C then (numT C b, true) else (0, false) := by
  have key := idsH_find (fun id => tellT C id) b C 1 (fun i c hc => by
    unfold tellT
    rw [if_pos (by omega), show ((1 : Int) + i - 1).toNat = i by omega]; exact hc)
  have e : (fun id => decide (getC D S id = (b, 0))) = fun j => decide (tellT C j = some b) := by
    funext j
    rw [h.tells j]
    cases tellT C j with
    | none => simp
    | some c => simp
  unfold findC
  rw [h.ids, e, key]
  by_cases hb : b ∈ C
  · rw [if_pos hb, if_pos hb]
    simp only [numT]
    rw [show (1 : Int) + (C.idxOf b : Int) = (C.idxOf b : Int) + 1 by omega]
  · rw [if_neg hb, if_neg hb]
/-- A text is put where there is room. -/
theorem TreeS.puts {C : List (List Int)} {D : Dv} {S : Stor} (h : TreeS C D S) {b : List Int} (hb : byteL b) (hl : b.length ≤ 131072) (hr : endOf 1 C + needP b.length < 4096) :
    (putC D S b).1 = (numT C b, 0) ∧ TreeS (addT C b) (putC D S b).2.1 (putC D S b).2.2 := by
  unfold putC
  rw [if_neg (by omega), h.find b]
  by_cases hm : b ∈ C
  · rw [if_pos hm]
    simp only [if_true]
    rw [addT_mem hm]
    exact ⟨trivial, h⟩
  · rw [if_neg hm]
    obtain ⟨n0, n1, n2⟩ := needT hl
    have hend := endOf_ge C 1 (fun b hb => (h.bytes b hb).2)
    obtain ⟨p1, c1, g1⟩ := put_oneT (P := S.P) h.calm h.n h.ended h.fr (by omega) n0 n1 hr hb
    simp only [Bool.false_eq_true, if_false]
    rw [p1]
    simp only [ne_eq, not_true_eq_false, if_false]
    rw [numT_new hm, addT_new hm]
    refine ⟨by rw [h.next], ?_⟩
    have hlk : look S.now.places S.now.next = none := h.free _ (by rw [h.next]; omega)
    have hlp : ∀ id, look (upd S.now.places S.now.next ⟨⟨endOf 1 C, needP b.length⟩, b.length⟩) id = if id = (C.length : Int) + 1 then some ⟨⟨endOf 1 C, needP b.length⟩, b.length⟩ else look S.now.places id := fun id => by
      rw [look_upd h.ndp, h.next]
    have hn1 : (writeT D (endOf 1 C) b).2.n = 16384 := by rw [g1.n, h.n]
    exact {
      calm := c1
      n := hn1
      ended := h.ended
      fr := by rw [endOf_app]
      put := by have := h.put; simp; omega
      next := by rw [List.length_append]; show S.now.next + 1 = _; rw [h.next]; simp
      free := fun id hid => by
        rw [List.length_append, List.length_singleton] at hid
        show look (upd S.now.places S.now.next _) id = _
        rw [hlp, if_neg (by omega)]
        exact h.free id (by omega)
      ids := fun x => by
        show (look (upd S.now.sums (hashB b) _) x).getD [] = _
        rw [look_upd h.nds, idsH_app]
        by_cases hx : x = hashB b
        · rw [if_pos hx, if_pos hx.symm, hx]
          have := h.ids (hashB b)
          simp only [Option.getD_some]
          rw [show idsOf (⟨S.now.places, S.now.sums, S.now.next + 1⟩ : Tbl) (hashB b) = idsOf S.now (hashB b) from rfl, this, h.next]
          rw [show (C.length : Int) + 1 = 1 + (C.length : Int) by omega]
        · rw [if_neg hx, if_neg (fun e => hx e.symm)]
          exact h.ids x
      ndp := upd_nodup h.ndp _ _
      nds := upd_nodup h.nds _ _
      nd := List.nodup_append.2 ⟨h.nd, by simp, fun x hx y hy => by simp at hy; subst hy; exact fun e => hm (e ▸ hx)⟩
      bytes := fun x hx => by
        rcases List.mem_append.1 hx with hx | hx
        · exact h.bytes x hx
        · simp at hx; subst hx; exact ⟨hb, hl⟩
      room := by rw [endOf_app]; omega
      text := fun i x hx => by
        rw [endOf_app]
        by_cases hi : i < C.length
        · rw [List.getElem?_append_left hi] at hx
          obtain ⟨st, k1, k2, k3, k4⟩ := h.text i x hx
          refine ⟨st, ?_, k2, by omega, text_more c1 (by omega) (by rw [hn1]; omega) k4 g1 k3⟩
          show look (upd S.now.places S.now.next _) _ = _
          rw [hlp, if_neg (by omega)]
          exact k1
        · have hlt := (List.getElem?_eq_some_iff.1 hx).1
          rw [List.length_append, List.length_singleton] at hlt
          have hiC : i = C.length := by omega
          subst hiC
          rw [List.getElem?_append_right (Nat.le_refl _), Nat.sub_self] at hx
          simp at hx
          subst hx
          refine ⟨endOf 1 C, ?_, by omega, Int.le_refl _, text_written g1 c1 hb (by omega) (by rw [h.n]; omega)⟩
          show look (upd S.now.places S.now.next _) _ = _
          rw [hlp, if_pos rfl]
      cache := by
        rw [endOf_app, g1.cache, List.length_append]
        have h2 : ∀ (l : List (List Int)) (p : Int), (wrs p l).length ≤ l.length := fun l => by
          induction l with
          | nil => intro p; exact Nat.le_refl _
          | cons x l ih =>
            intro p
            have := ih (p + 1)
            simp only [wrs]
            split <;> simp only [List.length_cons] <;> omega
        have h3 := h2 (textSecs b) (endOf 1 C * 4)
        rw [textSecs_len] at h3
        have := h.cache
        omega }
/-- A new store. -/
theorem treeS_new {D : Dv} (hF : Formed D) (hn : D.n = 16384) : TreeS [] D ⟨⟨sup1, oneT 1, [], [], false⟩, ⟨[], [], 1⟩, ⟨[], [], 1⟩, []⟩ where
  calm := hF.calm
  n := hn
  ended := rfl
  fr := rfl
  put := Nat.le_refl _
  next := rfl
  free := fun id _ => rfl
  ids := fun h => rfl
  ndp := List.nodup_nil
  nds := List.nodup_nil
  nd := List.nodup_nil
  bytes := fun b hb => by cases hb
  room := by decide
  text := fun i b hb => by simp at hb
  cache := by rw [hF.cache]; decide
end Go.Proofs.YtikgplhcadomcaaGreat
