/- Levels put one node by one: what holds between; tree.leaves. tree.leaves. -/
import Derived.Test.YtikgplhcadomcaaGreatKR
import Derived.Test.YtikgplhcadomcaaGreatQNr3
namespace Go.Proofs.YtikgplhcadomcaaGreat
open Go.RowKit
set_option linter.unusedVariables false
set_option linter.unusedSimpArgs false
/-! ### Plain -/
theorem costNs_take {ns : List NodeP} {k : Nat} {n : NodeP} (h : ns[k]? = some n) : costNs (ns.take k) + costN n ≤ costNs ns := by
  have hk := (List.getElem?_eq_some_iff.1 h)
  have e : ns = ns.take k ++ n :: ns.drop (k + 1) := by
    have := List.take_append_drop k ns
    rw [List.drop_eq_getElem_cons hk.1, hk.2] at this
    exact this.symm
  have : costNs ns = costNs (ns.take k) + (costN n + costNs (ns.drop (k + 1))) := by
    conv => lhs; rw [e]
    unfold costNs
    simp
  omega
theorem room_ns : ∀ (ns : List NodeP) (C : List (List Int)), (∀ n ∈ ns, NodeOk n) → endOf 1 (putNs C ns).2 ≤ endOf 1 C + costNs ns
  | [], C, _ => by simp [putNs, costNs]
  | n :: ns, C, h => by
    have ih := room_ns ns (addT C n.bytes) fun m hm => h m (List.mem_cons_of_mem _ hm)
    have hn := h n List.mem_cons_self
    have h1 := nodeI_small hn.right hn.kids hn.le hn.lk
    have h2 := endOf_add (C := C) 1 h1.1
    have e : costNs (n :: ns) = costN n + costNs ns := by unfold costNs; simp
    simp only [putNs]
    omega
theorem room_at {ns : List NodeP} {C : List (List Int)} {k : Nat} {n : NodeP} (h : ∀ n ∈ ns, NodeOk n) (hk : ns[k]? = some n) : endOf 1 (putNs C (ns.take k)).2 + needP n.bytes.length ≤ endOf 1 C + costNs ns := by
  have h1 := room_ns (ns.take k) C fun m hm => h m (List.mem_of_mem_take hm)
  have h2 := costNs_take hk
  have hn := h n (List.mem_of_getElem? hk)
  have h3 := (nodeI_small hn.right hn.kids hn.le hn.lk).2
  omega
theorem putNs_take {ns : List NodeP} {C : List (List Int)} {k : Nat} {n : NodeP} (hk : ns[k]? = some n) : putNs C (ns.take (k + 1)) = ((putNs C (ns.take k)).1 ++ [⟨n.last, numT (putNs C (ns.take k)).2 n.bytes⟩], addT (putNs C (ns.take k)).2 n.bytes) := by
  rw [List.take_add_one, hk]
  exact putNs_app n _ C
/-! ### In memory -/
/-- The first k nodes have been put; the kids lie in u. -/
def LvS (w1 : World) (F : Nat → Prop) (s p g : Nat) (C : List (List Int)) (ns : List NodeP) (k : Nat) (u : Value) (wr : World) : Prop :=
  ∃ F', TSt wr s p g F' (putNs C (ns.take k)).2 ∧ Chg F w1 wr ∧ (∀ i, F' i → F i ∨ w1.heap.size ≤ i) ∧ Own Kid.enc 2 109 w1.heap.size wr u (putNs C (ns.take k)).1 ∧ ∀ x, u.ownBlock = some x → ¬ F' x
/-- One node more, of which the kid is not in u yet. -/
def LvM (w1 : World) (F : Nat → Prop) (s p g : Nat) (C : List (List Int)) (ns : List NodeP) (k : Nat) (u : Value) (wr : World) : Prop :=
  ∃ F', TSt wr s p g F' (putNs C (ns.take (k + 1))).2 ∧ Chg F w1 wr ∧ (∀ i, F' i → F i ∨ w1.heap.size ≤ i) ∧ Own Kid.enc 2 109 w1.heap.size wr u (putNs C (ns.take k)).1 ∧ ∀ x, u.ownBlock = some x → ¬ F' x
section
variable {w1 wr w' : World} {F : Nat → Prop} {s p g : Nat} {C : List (List Int)} {ns : List NodeP} {k : Nat} {u : Value}
theorem LvS.size (h : LvS w1 F s p g C ns k u wr) : w1.heap.size ≤ wr.heap.size := by obtain ⟨F', a, b, c, d, e⟩ := h; exact b.size
theorem LvM.size (h : LvM w1 F s p g C ns k u wr) : w1.heap.size ≤ wr.heap.size := by obtain ⟨F', a, b, c, d, e⟩ := h; exact b.size
theorem LvM.own (h : LvM w1 F s p g C ns k u wr) : Own Kid.enc 2 109 w1.heap.size wr u (putNs C (ns.take k)).1 := by obtain ⟨F', a, b, c, d, e⟩ := h; exact d
theorem LvS.own (h : LvS w1 F s p g C ns k u wr) : Own Kid.enc 2 109 w1.heap.size wr u (putNs C (ns.take k)).1 := by obtain ⟨F', a, b, c, d, e⟩ := h; exact d
theorem LvS.chgd (h : LvS w1 F s p g C ns k u wr) : Chg F w1 wr := by obtain ⟨F', a, b, c, d, e⟩ := h; exact b
theorem LvS.start (h : TSt w1 s p g F C) : LvS w1 F s p g C ns 0 (.slice none 0 0) w1 := ⟨F, h, Chg.refl _ _, fun i hi => .inl hi, Own.nil, fun x hx => by cases hx⟩
theorem LvS.below (h : LvS w1 F s p g C ns k u wr) (hb : Below wr.heap.size wr w') : LvS w1 F s p g C ns k u w' := by
  obtain ⟨F', a, b, c, d, e⟩ := h
  exact ⟨F', a.below hb, b.trans (Below.chg hb F) (fun _ _ h => h), c, d.below hb, e⟩
theorem LvM.below (h : LvM w1 F s p g C ns k u wr) (hb : Below wr.heap.size wr w') : LvM w1 F s p g C ns k u w' := by
  obtain ⟨F', a, b, c, d, e⟩ := h
  exact ⟨F', a.below hb, b.trans (Below.chg hb F) (fun _ _ h => h), c, d.below hb, e⟩
/-- A node is put. -/
theorem LvS.puts (h : LvS w1 F s p g C ns k u wr) {n : NodeP} (hk : ns[k]? = some n) (hns : ∀ n ∈ ns, NodeOk n) (hroom : endOf 1 C + costNs ns < 4096) (a : NdA) (hN : NdAt wr a n) (hA : ∀ x, a.A = some x → ¬ F x.block ∧ x.block < w1.heap.size) (hB : ∀ x, a.B = some x → ¬ F x.block ∧ x.block < w1.heap.size) :
    Calls Tryz.prog 107 #[.pointer (some ⟨s, 0, none⟩), .agg #[.int .i64 n.level, .slice a.A n.ents.length a.ca, .slice a.B n.kids.length a.cb]] wr fun e w' => e = .returned (.tuple #[.agg #[.string n.last, .int .u64 (numT (putNs C (ns.take k)).2 n.bytes)], .int .i64 0]) ∧ LvM w1 F s p g C ns k u w' := by
  obtain ⟨F', h1, h2, h3, h4, h5⟩ := h
  have hr := room_at (C := C) hns hk
  refine (treePut_calls h1 a n hN (fun x hx hf => ?_) (fun x hx hf => ?_) (hns n (List.mem_of_getElem? hk)) (by omega)).mono ?_
  · have := hA x hx
    rcases h3 _ hf with q | q
    · exact this.1 q
    · omega
  · have := hB x hx
    rcases h3 _ hf with q | q
    · exact this.1 q
    · omega
  · intro e w' hh
    obtain ⟨e1, F2, c1, c2, c3⟩ := hh
    refine ⟨e1, F2, by rw [putNs_take hk]; exact c1, h2.trans c2 (fun i hi hf => ?_), fun i hi => ?_, h4.chg c2 h5, fun x hx hf => ?_⟩
    · rcases h3 i hf with q | q
      · exact q
      · omega
    · rcases c3 i hi with q | q
      · exact h3 i q
      · exact .inr (Nat.le_trans h2.size q)
    · rcases c3 x hf with q | q
      · exact h5 x hx q
      · have := (h4.lt x hx).2; omega
/-- Its kid is laid behind the others. -/
theorem LvM.app (h : LvM w1 F s p g C ns k u wr) {n : NodeP} (hk : ns[k]? = some n) {g8 n8 cap8 : Nat} (hg : wr.grownBy w' u.ownBlock) (hat : u.ownBlock = some g8 ∨ wr.heap.size ≤ g8) (ho : Own Kid.enc 2 109 w1.heap.size w' (.slice (some ⟨g8, 0, none⟩) n8 cap8) ((putNs C (ns.take k)).1 ++ [⟨n.last, numT (putNs C (ns.take k)).2 n.bytes⟩])) :
    LvS w1 F s p g C ns (k + 1) (.slice (some ⟨g8, 0, none⟩) n8 cap8) w' := by
  obtain ⟨F', h1, h2, h3, h4, h5⟩ := h
  have hc : Chg (fun i => u.ownBlock = some i) wr w' := Chg.grownO hg (fun g e => e)
  refine ⟨F', h1.chg hc (fun i hi e => h5 i e hi), h2.trans hc (fun i hi e => by have := (h4.lt i e).1; omega), h3, by rw [putNs_take hk]; exact ho, fun x hx hf => ?_⟩
  have hx : x = g8 := by injection hx with hx; exact hx.symm
  subst hx
  rcases hat with q | q
  · exact h5 x q hf
  · have := h1.lt x hf; omega
end
def LvR (F : Nat → Prop) (w w' : World) (s p g : Nat) (C : List (List Int)) (ks : List Kid) (u : Value) : Prop := ∃ F', TSt w' s p g F' C ∧ Chg F w w' ∧ (∀ i, F' i → F i ∨ w.heap.size ≤ i) ∧ Own Kid.enc 2 109 w.heap.size w' u ks ∧ ∀ x, u.ownBlock = some x → ¬ F' x
theorem LvS.done {w w1 wr : World} {F : Nat → Prop} {s p g : Nat} {C : List (List Int)} {ns : List NodeP} {k : Nat} {u : Value} (h : LvS w1 F s p g C ns k u wr) (hk : ns.length ≤ k) (hb : Below w.heap.size w w1) : LvR F w wr s p g (putNs C ns).2 (putNs C ns).1 u := by
  obtain ⟨F', h1, h2, h3, h4, h5⟩ := h
  rw [List.take_of_length_le hk] at h1 h4
  exact ⟨F', h1, (Below.chg hb F).trans h2 (fun _ _ h => h), fun i hi => (h3 i hi).imp_right (Nat.le_trans hb.size), h4.mono hb.size, h5⟩
theorem leaf_ok {l : List Entry} (hl : MapOk l) : ∀ n ∈ leafNs (splitE l), NodeOk n := fun n hn => by
  have hr := leafs_right hl n hn
  obtain ⟨r, hr1, rfl⟩ := List.mem_map.1 hn
  have hsub : r.Sublist l := by have := List.sublist_flatten_of_mem hr1; rwa [splitE_flat] at this
  have h1 := hsub.length_le
  have h2 := hl.len
  exact ⟨hr, (fun x hx => by cases hx), (by dsimp only; omega), (by simp)⟩
end Go.Proofs.YtikgplhcadomcaaGreat

namespace Go.Proofs.YtikgplhcadomcaaGreat
open Go.RowKit
set_option linter.unusedVariables false
set_option linter.unusedSimpArgs false
section
variable {w : World} {s p g : Nat} {F : Nat → Prop} {C : List (List Int)}
set_option maxRecDepth 100000 in
set_option maxHeartbeats 4000000 in
theorem leaves_calls (h : TSt w s p g F C) (A : Option Addr) (c : Nat) (E : List Entry) (hc : E.length ≤ c) (hbig : c ≤ 9223372036854775807) (hE : Rd Entry.enc 2 w A E) (hm : MapOk E) (hroom : endOf 1 C + 4 * E.length < 4096) :
    Calls Tryz.prog 61 #[.pointer (some ⟨s, 0, none⟩), .slice A E.length c] w fun e w' => ∃ u, e = .returned (.tuple #[u, .int .i64 0]) ∧ LvR F w w' s p g (putNs C (leafNs (splitE E))).2 (putNs C (leafNs (splitE E))).1 u := by
  have hsz : ∀ x ∈ E, x.key.size ≤ 40 ∧ x.val.size ≤ 200 := textErr_small E (textErr_zero E hm.ok)
  have HS := Lib.hid (split_calls w A c E hc hbig hE (fun x hx => by have := hsz x hx; omega) (by have := hm.len; omega))
  have HT := Lib.hid h
  have HOK := Lib.hid (leaf_ok hm)
  have HSZ := Lib.hid hsz
  have HRO : Hid (endOf 1 C + costNs (leafNs (splitE E)) < 4096) := by show _ < _; rw [cost_leaf, splitE_flat]; omega
  have hlE := hm.len
  clear h hE hm hsz hroom
  go_enter Tryz.func61, Tryz.ntmps61
  go_wp2_with fail
  refine HS.out.mono ?_
  rintro e w1 ⟨v, rfl, hv, hb1⟩
  obtain ⟨vs, hO, hvl, hvs⟩ := hv
  obtain ⟨A1, c1, rfl, i1, i1', hr1, hA1⟩ := hO.rd RowV.ok
  have T1 := Lib.hid (HT.out.below hb1)
  have B1 := Lib.hid hb1
  have FW := Lib.hid HT.out.lt
  have HR1 := Lib.hid hr1
  have HA1 := Lib.hid hA1
  have HVS : Hid (∀ (i : Nat) (r : RowV) (l : List Entry), vs[i]? = some r → (splitE E)[i]? = some l → r.len = l.length ∧ l.length ≤ r.cap ∧ Rd Entry.enc 2 w1 r.A l ∧ ∀ a, r.A = some a → w.heap.size ≤ a.block ∧ a.block < w1.heap.size) := fun i r l h1 h2 => by
    obtain ⟨k1, k2, k3, k4⟩ := hvs i r l h1 h2
    exact ⟨k1, k2, k3, fun a ha => ⟨(k4 a ha).1, (k4 a ha).2.1⟩⟩
  have hvl2 : Hid (vs.length = (splitE E).length) := hvl
  have hvb : vs.length ≤ 60 := by rw [hvl]; exact Nat.le_trans (splitAll_len _ _) hlE
  clear hb1 hr1 hA1 hvs hvl HS hO i1
  go_wp2
  go_loopg [6, 14] vs.length (fun m u i wr => ∃ k : Nat, i = .int .i64 k ∧ k + m = vs.length ∧ Hid (LvS w1 F s p g C (leafNs (splitE E)) k u wr))
  case atStart => exact ⟨0, rfl, by omega, LvS.start T1.out⟩
  case round =>
    obtain ⟨k, rfl, hk, hs⟩ := hrel
    by_cases hkn : k < vs.length
    · obtain ⟨m', hm'⟩ : ∃ m', gk = m' + 1 := ⟨gk - 1, by omega⟩
      subst hm'
      have hki : (k : Int) < (vs.length : Int) := by omega
      have hkz : (0 : Int) ≤ (k : Int) := by omega
      rcases HR1.out with h0 | ⟨bb, off, rfl, hlt, hcell⟩
      · rw [h0] at hkn; simp at hkn
      have hbb : w.heap.size ≤ bb := HA1.out _ rfl
      have hR : Rd RowV.enc 1 wr (some ⟨bb, off, none⟩) vs := HR1.out.chg hs.out.chgd (fun x hx hf => by cases hx; have := FW.out _ hf; dsimp only at this; omega)
      have hvk : vs[k]? = some vs[k] := List.getElem?_eq_getElem hkn
      have hkn2 : k < (splitE E).length := by rw [← hvl2.out]; exact hkn
      have hlk : (splitE E)[k]? = some (splitE E)[k] := List.getElem?_eq_getElem hkn2
      obtain ⟨q1, q2, q3, q4⟩ := HVS.out k _ _ hvk hlk
      have z0 := Rd.range hR hvk 0 _ rfl
      have hbl : bb < wr.heap.size := Nat.lt_of_lt_of_le hlt hs.out.chgd.size
      have q3r := q3.chg hs.out.chgd (fun x hx hf => by have := FW.out _ hf; have := (q4 x hx).1; omega)
      have hnk : Hid ((leafNs (splitE E))[k]? = some ⟨0, (splitE E)[k], []⟩) := by show _ = _; unfold leafNs; rw [List.getElem?_map, hlk]; rfl
      have hrl : (splitE E)[k].length ≤ 60 := by
        have := (List.sublist_flatten_of_mem (List.getElem_mem hkn2)).length_le
        rw [splitE_flat] at this; omega
      have hsub : ∀ x ∈ (splitE E)[k], x ∈ E := fun x hx => by
        have := (List.sublist_flatten_of_mem (List.getElem_mem hkn2)).subset hx
        rwa [splitE_flat] at this
      generalize (splitE E)[k] = row at *
      generalize vs[k] = r at *
      obtain ⟨rA, rl, rc⟩ := r
      dsimp only at q1 q2 q3r q4
      subst q1
      have e1 : off + k * 1 + 0 = off + k := by omega
      rw [e1] at z0
      have HN : Hid (NdAt wr ⟨rA, rc, none, 0⟩ ⟨0, row, []⟩) := ⟨q2, Nat.le_refl _, q3r, .inl rfl, (fun x hx => by have := HSZ.out x (hsub x hx); omega), (fun x hx => by cases hx), (by dsimp only; omega), Nat.zero_le _⟩
      have HP := Lib.hid (hs.out.puts hnk.out HOK.out HRO.out ⟨rA, rc, none, 0⟩ HN.out (fun x hx => ⟨fun hf => by have := FW.out _ hf; have := (q4 x hx).1; omega, (q4 x hx).2⟩) (fun x hx => by cases hx))
      clear hR hvk hlk hcell hlt q2 q3 q3r q4 hsub hrl hkn2 hbb
      go_wp2_with fail
      refine HP.out.mono ?_
      rintro e w5 ⟨rfl, h5⟩
      obtain ⟨n, hn⟩ : ∃ n, NodeP.mk 0 row [] = n := ⟨_, rfl⟩
      rw [hn] at hnk ⊢
      have hl6 : Hid ((putNs C ((leafNs (splitE E)).take k)).1.length ≤ 60) := by show _ ≤ _; rw [putNs_len, List.length_take]; omega
      obtain ⟨kl, ki, HKI⟩ : ∃ kl ki, Hid (n.last = kl ∧ numT (putNs C ((leafNs (splitE E)).take k)).2 n.bytes = ki) := ⟨_, _, rfl, rfl⟩
      rw [HKI.out.1, HKI.out.2]
      obtain ⟨W6, hW6⟩ : ∃ W, w5.alloc (.cells #[.string kl, .int .u64 ki] 109) = W := ⟨_, rfl⟩
      have hb6 : Below w5.heap.size w5 W6 := by rw [← hW6]; exact bl_alloc (Below.refl _ w5) _
      have M6 := Lib.hid (h5.below hb6)
      have Y6 : Hid (W6.heap[w5.heap.size]? = some (.cells #[.string kl, .int .u64 ki] 109 (0, 0))) := by show _ = _; rw [← hW6]; exact blk_new w5 _
      obtain ⟨r, hr⟩ : ∃ r, w5.heap.size = r := ⟨_, rfl⟩
      rw [hr] at Y6
      have y0 := blk_cell Y6.out 0
      have y1 := blk_cell Y6.out 1
      have yl := blk_lt Y6.out
      have O6 := Lib.hid M6.out.own
      have hz6 := Lib.hid M6.out.size
      have m1 : Hid (((putNs C ((leafNs (splitE E)).take k)).1.length + 1) * 24 ≤ 140737488355328) := by show _ ≤ _; have := hl6.out; omega
      have m2 : Hid ((putNs C ((leafNs (splitE E)).take k)).1.length + 1 ≤ 140737488355328) := by show _ ≤ _; have := hl6.out; omega
      clear h5 hb6 HP hn HN z0 hbl
      go_wp2_with (at_builtin; refine ap_own Kid.ok rfl _ _ _ _ _ _ rfl Tryz.underlying96 infoKn rfl w1.heap.size u6 _ ⟨kl, ki⟩ #[_, _] rfl rfl W6.heap.size rfl rfl O6.out hz6.out m1.out m2.out ?_; intro g8 cap8 w8 o8 hg8 hat8 hlt8)
      have L8 := Lib.hid (M6.out.app hnk.out hg8 hat8 (by rw [HKI.out.1, HKI.out.2]; exact o8))
      clear hg8 hat8 hlt8 o8
      go_roundg m'
      case measure => omega
      case rel => exact ⟨k + 1, by go_num, by omega, L8.out⟩
    · have hkk : ¬ (k : Int) < (vs.length : Int) := by omega
      have HD := Lib.hid (hs.out.done (by unfold leafNs; rw [List.length_map, ← hvl2.out]; omega) B1.out)
      clear hkn
      go_wp2
      go_ret2
      exact ⟨_, rfl, HD.out⟩
end
end Go.Proofs.YtikgplhcadomcaaGreat
