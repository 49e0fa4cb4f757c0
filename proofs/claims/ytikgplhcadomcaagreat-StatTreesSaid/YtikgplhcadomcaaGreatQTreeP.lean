/- Trees in plain words: rows of nodes, put one by one; levels; towers of levels. -/
import Derived.Test.YtikgplhcadomcaaGreatQTsP
import Derived.Test.YtikgplhcadomcaaGreatQLebBack
import Derived.Test.YtikgplhcadomcaaGreatKP
namespace Go.Proofs.YtikgplhcadomcaaGreat
open Go.RowKit
set_option linter.unusedVariables false
set_option linter.unusedSimpArgs false
/-! ### Rows -/
section
variable {α β : Type}
theorem rowsF_flat (p : α → Bool) : ∀ (l acc : List α), (rowsF p acc l).flatten = acc ++ l
  | [], [] => by simp [rowsF]
  | [], x :: acc => by simp [rowsF]
  | x :: l, acc => by
    rw [rowsF_step]
    split
    · have := rowsF_flat p l []; simp [this]
    · have := rowsF_flat p l (acc ++ [x]); simp [this]
theorem rowsF_rows (p : α → Bool) : ∀ (l acc : List α), (∀ x ∈ acc, p x = false) → ∀ r ∈ rowsF p acc l, r ≠ [] ∧ ∀ x ∈ r.dropLast, p x = false
  | [], [], _, r, hr => by simp [rowsF] at hr
  | [], x :: acc, h, r, hr => by
    simp [rowsF] at hr
    subst hr
    exact ⟨by simp, fun y hy => h y ((List.dropLast_sublist _).subset hy)⟩
  | x :: l, acc, h, r, hr => by
    rw [rowsF_step] at hr
    by_cases hp : p x = true
    · rw [if_pos hp] at hr
      rcases List.mem_cons.1 hr with rfl | hr
      · exact ⟨by simp, fun y hy => h y (by simpa using hy)⟩
      · exact rowsF_rows p l [] (by simp) r hr
    · rw [if_neg hp] at hr
      refine rowsF_rows p l (acc ++ [x]) (fun y hy => ?_) r hr
      rcases List.mem_append.1 hy with hy | hy
      · exact h y hy
      · simp at hy; subst hy; simpa using hp
theorem rowsF_map (p : β → Bool) (f : α → β) : ∀ (l acc : List α), (rowsF (fun x => p (f x)) acc l).map (List.map f) = rowsF p (acc.map f) (l.map f)
  | [], [] => by simp [rowsF]
  | [], x :: acc => by simp [rowsF]
  | x :: l, acc => by
    rw [rowsF_step, List.map_cons, rowsF_step]
    split
    · rename_i h
      have := rowsF_map p f l []; simp [this]
    · have := rowsF_map p f l (acc ++ [x]); simp at this; exact this
theorem rowsF_len2 (p : α → Bool) : ∀ (l acc : List α), (rowsF p acc l).length ≤ l.length + (if acc = [] then 0 else 1)
  | [], [] => by simp [rowsF]
  | [], x :: acc => by simp [rowsF]
  | x :: l, acc => by
    rw [rowsF_step]
    split
    · have := rowsF_len2 p l []; simp at this ⊢; omega
    · have := rowsF_len2 p l (acc ++ [x]); simp at this ⊢; omega
theorem splitAll_len (p : α → Bool) (l : List α) : (splitAll p l).length ≤ l.length := by have := rowsF_len2 p l []; simpa [splitAll] using this
theorem splitAll_nil {p : α → Bool} {l : List α} (h : splitAll p l = []) : l = [] := by have := rowsF_flat p l []; rw [show rowsF p [] l = [] from h] at this; simpa using this.symm
/-- The last elements of rows are some of all elements. -/
theorem lasts_sub (f : α → β) (d : β) : ∀ rows : List (List α), (∀ r ∈ rows, r ≠ []) → (rows.map fun r => (r.getLast?.map f).getD d).Sublist (rows.flatten.map f)
  | [], _ => by simp
  | r :: rows, h => by
    have ih := lasts_sub f d rows (fun x hx => h x (List.mem_cons_of_mem _ hx))
    have hr := h r List.mem_cons_self
    simp only [List.map_cons, List.flatten_cons, List.map_append]
    have e : (r.getLast?.map f).getD d = f (r.getLast hr) := by rw [List.getLast?_eq_some_getLast hr]; rfl
    rw [e]
    refine List.Sublist.append (l₁ := [f (r.getLast hr)]) ?_ ih
    rw [List.singleton_sublist]
    exact List.mem_map.2 ⟨_, List.getLast_mem hr, rfl⟩
end
/-! ### Right nodes -/
def RiseS (ks : List Str) : Prop := ks.Pairwise fun a b => slt a b = true
theorem badKeys_rise (lv : Int) : ∀ ks : List Str, RiseS ks → (∀ x ∈ ks.dropLast, endsN lv x = false) → badKeys lv ks = false
  | [], _, _ => rfl
  | [_], _, _ => rfl
  | x :: y :: l, h, he => by
    have h2 := List.pairwise_cons.1 h
    have ih := badKeys_rise lv (y :: l) h2.2 (fun z hz => he z (by simp only [List.dropLast_cons_cons]; exact List.mem_cons_of_mem _ hz))
    have e1 := he x (by simp)
    have e2 := h2.1 y List.mem_cons_self
    simp only [badKeys, e1, e2, ih]
    rfl
theorem kidsE_zero : ∀ l : List Kid, (∀ k ∈ l, keyErr k.last = 0) → kidsE l = 0
  | [], _ => rfl
  | k :: l, h => by
    have h1 := h k List.mem_cons_self
    simp only [kidsE, h1, ne_eq, not_true_eq_false, if_false]
    exact kidsE_zero l fun x hx => h x (List.mem_cons_of_mem _ hx)
theorem textErr_zero : ∀ l : List Entry, (∀ x ∈ l, keyErr x.key = 0 ∧ valErr x.val = 0) → textErr l = 0
  | [], _ => rfl
  | k :: l, h => by
    have h1 := h k List.mem_cons_self
    simp only [textErr, h1.1, h1.2, ne_eq, not_true_eq_false, if_false]
    exact textErr_zero l fun x hx => h x (List.mem_cons_of_mem _ hx)
theorem leaf_right {row : List Entry} (h0 : row ≠ []) (h1 : ∀ x ∈ row, keyErr x.key = 0 ∧ valErr x.val = 0) (h2 : RiseS (row.map Entry.key)) (h3 : ∀ x ∈ row.dropLast, endsN 0 x.key = false) : NodeP.right ⟨0, row, []⟩ = 0 := by
  have hb : badKeys 0 (NodeP.keys ⟨0, row, []⟩) = false := by
    unfold NodeP.keys
    simp only [List.map_nil, List.append_nil]
    refine badKeys_rise 0 _ h2 fun x hx => ?_
    rw [← List.map_dropLast] at hx
    obtain ⟨y, hy, rfl⟩ := List.mem_map.1 hx
    exact h3 y hy
  have ht : NodeP.texts ⟨0, row, []⟩ = 0 := by
    unfold NodeP.texts
    rw [textErr_zero row h1]
    rfl
  have hl : row.length ≠ 0 := fun e => h0 (List.eq_nil_of_length_eq_zero e)
  unfold NodeP.right
  rw [ht, hb]
  simp
  exact h0
theorem inner_right {lv : Nat} {row : List Kid} (hl : 1 ≤ lv ∧ lv ≤ 20) (h0 : row ≠ []) (h1 : ∀ k ∈ row, keyErr k.last = 0 ∧ 1 ≤ k.id) (h2 : RiseS (row.map Kid.last)) (h3 : ∀ k ∈ row.dropLast, endsN lv k.last = false) : NodeP.right ⟨lv, [], row⟩ = 0 := by
  have hb : badKeys lv (NodeP.keys ⟨lv, [], row⟩) = false := by
    unfold NodeP.keys
    simp only [List.map_nil, List.nil_append]
    refine badKeys_rise lv _ h2 fun x hx => ?_
    rw [← List.map_dropLast] at hx
    obtain ⟨y, hy, rfl⟩ := List.mem_map.1 hx
    exact h3 y hy
  have ht : NodeP.texts ⟨lv, [], row⟩ = 0 := by
    unfold NodeP.texts
    rw [textErr_zero [] (by simp), kidsE_zero row fun k hk => (h1 k hk).1]
    rfl
  have hp : (0 : Int) < (lv : Int) := by omega
  have hid : (row.any fun k => decide (k.id = 0)) = false := by
    rw [List.any_eq_false]
    intro k hk
    have := (h1 k hk).2
    simp
    omega
  have hl2 : row.length ≠ 0 := fun e => h0 (List.eq_nil_of_length_eq_zero e)
  unfold NodeP.right
  rw [ht, hb, hid]
  simp only [ne_eq, not_true_eq_false, if_false, if_pos hp, List.length_nil, Nat.lt_irrefl, or_false]
  rw [if_neg (by omega)]
  simp
/-! ### Nodes put one by one -/
def NodeP.bytes (n : NodeP) : List Int := nodeI n.level n.ents n.kids
def putNs (C : List (List Int)) : List NodeP → List Kid × List (List Int)
  | [] => ([], C)
  | n :: ns => (⟨n.last, numT C n.bytes⟩ :: (putNs (addT C n.bytes) ns).1, (putNs (addT C n.bytes) ns).2)
theorem putNs_more : ∀ (ns : List NodeP) (C : List (List Int)), More C (putNs C ns).2
  | [], C => More.refl C
  | n :: ns, C => (more_add C n.bytes).trans (putNs_more ns _)
theorem putNs_len : ∀ (ns : List NodeP) (C : List (List Int)), (putNs C ns).1.length = ns.length
  | [], C => rfl
  | n :: ns, C => by simp [putNs, putNs_len ns]
theorem putNs_app (n : NodeP) : ∀ (ns : List NodeP) (C : List (List Int)), putNs C (ns ++ [n]) = ((putNs C ns).1 ++ [⟨n.last, numT (putNs C ns).2 n.bytes⟩], addT (putNs C ns).2 n.bytes)
  | [], C => rfl
  | m :: ns, C => by simp only [List.cons_append, putNs, putNs_app n ns]
/-- The kids tell the nodes. -/
def LvOk (C : List (List Int)) (ks : List Kid) (ns : List NodeP) : Prop := ks.length = ns.length ∧ ∀ (i : Nat) n k, ns[i]? = some n → ks[i]? = some k → k.last = n.last ∧ tellT C k.id = some n.bytes ∧ 1 ≤ k.id ∧ k.id ≤ C.length ∧ n.right = 0
theorem LvOk.more {C C' : List (List Int)} {ks : List Kid} {ns : List NodeP} (h : LvOk C ks ns) (hm : More C C') : LvOk C' ks ns :=
  ⟨h.1, fun i n k hn hk => by
    obtain ⟨h1, h2, h3, h4, h5⟩ := h.2 i n k hn hk
    exact ⟨h1, hm.tell h2, h3, Int.le_trans h4 (by have := hm.length_le; omega), h5⟩⟩
theorem putNs_ok : ∀ (ns : List NodeP) (C : List (List Int)), (∀ n ∈ ns, n.right = 0) → LvOk (putNs C ns).2 (putNs C ns).1 ns
  | [], C, _ => ⟨rfl, fun i n k h => by simp at h⟩
  | n :: ns, C, h => by
    have ih := putNs_ok ns (addT C n.bytes) fun m hm => h m (List.mem_cons_of_mem _ hm)
    refine ⟨by simp [putNs, putNs_len], fun i m k hm hk => ?_⟩
    cases i with
    | zero =>
      simp only [putNs, List.getElem?_cons_zero, Option.some.injEq] at hm hk
      subst hm hk
      have hr := num_range C n.bytes
      have hmore := putNs_more ns (addT C n.bytes)
      exact ⟨rfl, hmore.tell (tell_add C n.bytes), hr.1, Int.le_trans hr.2 (by have := hmore.length_le; simp only [putNs]; omega), h n List.mem_cons_self⟩
    | succ i =>
      simp only [putNs, List.getElem?_cons_succ] at hm hk
      exact ih.2 i m k hm hk
def costN (n : NodeP) : Nat := 4 * n.ents.length + 2 * n.kids.length
theorem nodeI_small {n : NodeP} (h : n.right = 0) (hk : KidsOk n.kids) (h1 : n.ents.length ≤ 100) (h2 : n.kids.length ≤ 100) : n.bytes.length ≤ 131072 ∧ needP n.bytes.length ≤ costN n := by
  obtain ⟨z1, z2, z3, z4, z5, z6, z7⟩ := right_zero h
  obtain ⟨t1, t2⟩ := right_texts0 h
  have f1 := flat_ents (textErr_small n.ents t1) n.ents.length
  have f2 := flat_kids (kidsE_small n.kids t2) hk n.kids.length
  rw [List.take_length] at f1 f2
  have l1 := lebI_len10 n.level.toNat (by omega)
  have l2 := lebI_len10 (n.ents.length + n.kids.length) (by omega)
  have hl : n.bytes.length ≤ 20 + 420 * n.ents.length + 220 * n.kids.length := by
    unfold NodeP.bytes nodeI
    simp only [List.length_append]
    omega
  have hpos : 1 ≤ n.ents.length + n.kids.length := by
    rcases Nat.eq_zero_or_pos (n.ents.length + n.kids.length) with e | e
    · have e1 : n.ents.length = 0 := by omega
      have e2 : n.kids.length = 0 := by omega
      rw [e1, e2] at z4; simp at z4
    · exact e
  refine ⟨by omega, ?_⟩
  rw [needP_ok (by omega) (by omega)]
  unfold costN
  omega
theorem endOf_add {C : List (List Int)} {b : List Int} (k : Int) (h : b.length ≤ 131072) : endOf k (addT C b) ≤ endOf k C + needP b.length := by
  have := (needT h).2.1
  unfold addT
  split
  · omega
  · rw [endOf_app]; omega
def costNs (ns : List NodeP) : Nat := (ns.map costN).sum
/-! ### Levels -/
def leafNs (rows : List (List Entry)) : List NodeP := rows.map fun r => ⟨0, r, []⟩
def innerNs (lv : Nat) (rows : List (List Kid)) : List NodeP := rows.map fun r => ⟨lv, [], r⟩
theorem cost_leaf : ∀ rows : List (List Entry), costNs (leafNs rows) = 4 * rows.flatten.length
  | [] => rfl
  | r :: rows => by
    have ih := cost_leaf rows
    unfold costNs leafNs at ih ⊢
    simp only [List.map_cons, List.sum_cons, List.flatten_cons, List.length_append, ih, costN, List.length_nil]
    omega
theorem cost_inner (lv : Nat) : ∀ rows : List (List Kid), costNs (innerNs lv rows) = 2 * rows.flatten.length
  | [] => rfl
  | r :: rows => by
    have ih := cost_inner lv rows
    unfold costNs innerNs at ih ⊢
    simp only [List.map_cons, List.sum_cons, List.flatten_cons, List.length_append, ih, costN, List.length_nil]
    omega
def splitE (l : List Entry) : List (List Entry) := splitAll (fun x => endsN 0 x.key) l
def groupK (lv : Nat) (ks : List Kid) : List (List Kid) := splitAll (fun k => endsN lv k.last) ks
/-- The levels of a tree in a store, the highest ahead. -/
def Tower (C : List (List Int)) : List (List Kid) → List Entry → Prop
  | [], _ => False
  | [ks], l => LvOk C ks (leafNs (splitE l))
  | ks :: ks' :: T, l => LvOk C ks (innerNs (T.length + 1) (groupK (T.length + 1) ks')) ∧ Tower C (ks' :: T) l
theorem Tower.more {C C' : List (List Int)} (hm : More C C') : ∀ {T : List (List Kid)} {l : List Entry}, Tower C T l → Tower C' T l
  | [], _, h => h.elim
  | [ks], l, h => LvOk.more h hm
  | ks :: ks' :: T, l, h => ⟨h.1.more hm, Tower.more hm h.2⟩
/-- A map's entries. -/
structure MapOk (l : List Entry) : Prop where
  ok : ∀ x ∈ l, keyErr x.key = 0 ∧ valErr x.val = 0
  rise : RiseS (l.map Entry.key)
  len : l.length ≤ 60
structure KidsGood (ks : List Kid) : Prop where
  ok : ∀ k ∈ ks, keyErr k.last = 0 ∧ 1 ≤ k.id
  rise : RiseS (ks.map Kid.last)
  len : ks.length ≤ 60
def upK (lv : Int) (ks : List Str) : List Str := (rowsF (fun k => endsN lv k) [] ks).map fun r => r.getLast?.getD ⟨#[]⟩
theorem leaf_last (r : List Entry) : NodeP.last ⟨0, r, []⟩ = ((r.map Entry.key).getLast?).getD ⟨#[]⟩ := by unfold NodeP.last NodeP.keys; simp
theorem inner_last (lv : Int) (r : List Kid) : NodeP.last ⟨lv, [], r⟩ = ((r.map Kid.last).getLast?).getD ⟨#[]⟩ := by unfold NodeP.last NodeP.keys; simp
theorem lasts_of {C : List (List Int)} {ks : List Kid} {ns : List NodeP} (h : LvOk C ks ns) : ks.map Kid.last = ns.map NodeP.last := by
  apply List.ext_getElem?
  intro i
  rw [List.getElem?_map, List.getElem?_map]
  by_cases hi : i < ks.length
  · have hn : i < ns.length := by rw [← h.1]; exact hi
    rw [List.getElem?_eq_getElem hi, List.getElem?_eq_getElem hn]
    simp only [Option.map_some]
    rw [(h.2 i _ _ (List.getElem?_eq_getElem hn) (List.getElem?_eq_getElem hi)).1]
  · rw [List.getElem?_eq_none (by omega), List.getElem?_eq_none (by have := h.1; omega)]
    rfl
theorem lasts_leaf {C : List (List Int)} {ks : List Kid} {l : List Entry} (h : LvOk C ks (leafNs (splitE l))) : ks.map Kid.last = upK 0 (l.map Entry.key) := by
  rw [lasts_of h]
  have := rowsF_map (fun k => endsN 0 k) Entry.key l []
  unfold upK
  simp only [List.map_nil] at this
  rw [← this, leafNs, List.map_map, List.map_map]
  exact List.map_congr_left fun r _ => leaf_last r
theorem lasts_inner {C : List (List Int)} {lv : Nat} {ks ks' : List Kid} (h : LvOk C ks (innerNs lv (groupK lv ks'))) : ks.map Kid.last = upK lv (ks'.map Kid.last) := by
  rw [lasts_of h]
  have := rowsF_map (fun k => endsN lv k) Kid.last ks' []
  unfold upK
  simp only [List.map_nil] at this
  rw [← this, innerNs, List.map_map, List.map_map]
  exact List.map_congr_left fun r _ => inner_last lv r
theorem upK_sub (lv : Int) (ks : List Str) : (upK lv ks).Sublist ks := by
  have h := lasts_sub (fun x : Str => x) ⟨#[]⟩ (rowsF (fun k => endsN lv k) [] ks) (fun r hr => (rowsF_rows _ ks [] (by simp) r hr).1)
  rw [rowsF_flat] at h
  unfold upK
  simpa using h
theorem good_of {C : List (List Int)} {ks : List Kid} {ns : List NodeP} {K : List Str} (h : LvOk C ks ns) (hs : (ks.map Kid.last).Sublist K) (hK : ∀ k ∈ K, keyErr k = 0) (hr : RiseS K) (hl : K.length ≤ 60) : KidsGood ks := by
  refine ⟨fun k hk => ?_, hr.sublist hs, by have := hs.length_le; simp at this; omega⟩
  refine ⟨hK _ (hs.subset (List.mem_map.2 ⟨k, hk, rfl⟩)), ?_⟩
  obtain ⟨i, hi⟩ := List.getElem?_of_mem hk
  have hin : i < ns.length := by rw [← h.1]; exact (List.getElem?_eq_some_iff.1 hi).1
  exact (h.2 i _ k (List.getElem?_eq_getElem hin) hi).2.2.1
theorem leaf_good {C : List (List Int)} {ks : List Kid} {l : List Entry} (hl : MapOk l) (h : LvOk C ks (leafNs (splitE l))) : KidsGood ks :=
  good_of h (by rw [lasts_leaf h]; exact upK_sub _ _) (fun k hk => by obtain ⟨x, hx, rfl⟩ := List.mem_map.1 hk; exact (hl.ok x hx).1) hl.rise (by simpa using hl.len)
theorem inner_good {C : List (List Int)} {lv : Nat} {ks ks' : List Kid} (hk : KidsGood ks') (h : LvOk C ks (innerNs lv (groupK lv ks'))) : KidsGood ks :=
  good_of h (by rw [lasts_inner h]; exact upK_sub _ _) (fun k hk' => by obtain ⟨x, hx, rfl⟩ := List.mem_map.1 hk'; exact (hk.ok x hx).1) hk.rise (by simpa using hk.len)
theorem leafs_right {l : List Entry} (hl : MapOk l) : ∀ n ∈ leafNs (splitE l), n.right = 0 := fun n hn => by
  obtain ⟨r, hr, rfl⟩ := List.mem_map.1 hn
  obtain ⟨h1, h2⟩ := rowsF_rows _ l [] (by simp) r hr
  have hsub : r.Sublist l := by have := List.sublist_flatten_of_mem hr; rwa [show (splitE l).flatten = l from by have := rowsF_flat (fun x : Entry => endsN 0 x.key) l []; simpa [splitE, splitAll] using this] at this
  exact leaf_right h1 (fun x hx => hl.ok x (hsub.subset hx)) (hl.rise.sublist (hsub.map _)) h2
theorem groups_right {lv : Nat} {ks : List Kid} (hv : 1 ≤ lv ∧ lv ≤ 20) (hk : KidsGood ks) : ∀ n ∈ innerNs lv (groupK lv ks), n.right = 0 := fun n hn => by
  obtain ⟨r, hr, rfl⟩ := List.mem_map.1 hn
  obtain ⟨h1, h2⟩ := rowsF_rows _ ks [] (by simp) r hr
  have hsub : r.Sublist ks := by have := List.sublist_flatten_of_mem hr; rwa [show (groupK lv ks).flatten = ks from by have := rowsF_flat (fun x : Kid => endsN lv x.last) ks []; simpa [groupK, splitAll] using this] at this
  exact inner_right hv h1 (fun x hx => hk.ok x (hsub.subset hx)) (hk.rise.sublist (hsub.map _)) h2
theorem splitE_flat (l : List Entry) : (splitE l).flatten = l := by have := rowsF_flat (fun x : Entry => endsN 0 x.key) l []; simpa [splitE, splitAll] using this
theorem groupK_flat (lv : Nat) (l : List Kid) : (groupK lv l).flatten = l := by have := rowsF_flat (fun x : Kid => endsN lv x.last) l []; simpa [groupK, splitAll] using this
end Go.Proofs.YtikgplhcadomcaaGreat
