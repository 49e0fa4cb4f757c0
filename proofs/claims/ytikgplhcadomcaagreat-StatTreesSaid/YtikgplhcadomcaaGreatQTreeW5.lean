/- tree.raise -/
import Derived.Test.YtikgplhcadomcaaGreatKS
namespace Go.Proofs.YtikgplhcadomcaaGreat
open Go.RowKit
set_option linter.unusedVariables false
set_option linter.unusedSimpArgs false
/-! ### Plain -/
theorem rowsF_none {α : Type} (p : α → Bool) : ∀ (l acc : List α), (∀ x ∈ l, p x = false) → (rowsF p acc l).length ≤ 1
  | [], [], _ => by simp [rowsF]
  | [], x :: acc, _ => by simp [rowsF]
  | x :: l, acc, h => by
    rw [rowsF_step, if_neg (by rw [h x List.mem_cons_self]; simp)]
    exact rowsF_none p l _ fun y hy => h y (List.mem_cons_of_mem _ hy)
theorem group_top (ks : List Kid) : (groupK 20 ks).length ≤ 1 := rowsF_none _ ks [] fun x _ => by unfold endsN; simp
theorem tower_ne {C : List (List Int)} : ∀ {T : List (List Kid)} {ks : List Kid} {l : List Entry}, Tower C (ks :: T) l → ks = [] → l = []
  | [], ks, l, h, e => by
    have := h.1
    rw [e] at this
    have h2 : (splitE l).length = 0 := by simpa [leafNs] using this.symm
    exact splitAll_nil (List.eq_nil_of_length_eq_zero h2)
  | ks' :: T, ks, l, h, e => by
    have := h.1.1
    rw [e] at this
    have h2 : (groupK (T.length + 1) ks').length = 0 := by simpa [innerNs] using this.symm
    exact tower_ne h.2 (splitAll_nil (List.eq_nil_of_length_eq_zero h2))
theorem tower_ids {C : List (List Int)} {T : List (List Kid)} {ks : List Kid} {l : List Entry} (h : Tower C (ks :: T) l) : ∀ k ∈ ks, 1 ≤ k.id ∧ k.id ≤ C.length := by
  have key : ∀ {ns : List NodeP}, LvOk C ks ns → ∀ k ∈ ks, 1 ≤ k.id ∧ k.id ≤ C.length := fun {ns} hl k hk => by
    obtain ⟨i, hi⟩ := List.getElem?_of_mem hk
    have hin : i < ns.length := by rw [← hl.1]; exact (List.getElem?_eq_some_iff.1 hi).1
    obtain ⟨-, -, h3, h4, -⟩ := hl.2 i _ k (List.getElem?_eq_getElem hin) hi
    exact ⟨h3, h4⟩
  cases T with
  | nil => exact key h
  | cons ks' T => exact key h.1
theorem tower_kids {C : List (List Int)} {T : List (List Kid)} {ks : List Kid} {l : List Entry} (h : Tower C (ks :: T) l) (hC : (C.length : Int) ≤ 4095) : KidsOk ks := fun k hk => by have := tower_ids h k hk; omega
theorem inner_ok {lv : Nat} {ks : List Kid} (hv : 1 ≤ lv ∧ lv ≤ 20) (hg : KidsGood ks) (hi : KidsOk ks) : ∀ n ∈ innerNs lv (groupK lv ks), NodeOk n := fun n hn => by
  have hr := groups_right hv hg n hn
  obtain ⟨r, hr1, rfl⟩ := List.mem_map.1 hn
  have hsub : r.Sublist ks := by have := List.sublist_flatten_of_mem hr1; rwa [groupK_flat] at this
  have h1 := hsub.length_le
  have h2 := hg.len
  exact ⟨hr, (fun x hx => hi x (hsub.subset hx)), (by simp), (by dsimp only; omega)⟩
/-! ### In memory -/
/-- Within raise: the tower's levels up to ks. -/
structure RaS (N : Nat) (w : World) (F : Nat → Prop) (s p g : Nat) (C : List (List Int)) (E : List Entry) (T : List (List Kid)) (ks : List Kid) (A : Option Addr) (c : Nat) (C' : List (List Int)) (F' : Nat → Prop) (wr : World) : Prop where
  st : TSt wr s p g F' C'
  chg : Chg F w wr
  sub : ∀ i, F' i → F i ∨ w.heap.size ≤ i
  tower : Tower C' (ks :: T) E
  good : KidsGood ks
  more : More C C'
  cap : ks.length ≤ c
  big : c ≤ 9223372036854775807
  rd : Rd Kid.enc 2 wr A ks
  top : T.length = 20 → ks.length ≤ 1
  len : T.length ≤ 20
  room : endOf 1 C' ≤ endOf 1 C + 2 * ((N * T.length : Nat) : Int)
  small : ks.length ≤ N
  many : ∀ x ∈ T, 1 < x.length
def BuiltR (F : Nat → Prop) (w w' : World) (s p g : Nat) (C : List (List Int)) (E : List Entry) (root : Int) (most : Int) : Prop :=
  ∃ F' C', TSt w' s p g F' C' ∧ Chg F w w' ∧ (∀ i, F' i → F i ∨ w.heap.size ≤ i) ∧ More C C' ∧ endOf 1 C' ≤ endOf 1 C + most ∧ ((E = [] ∧ root = 0) ∨ ∃ k T, root = k.id ∧ Tower C' ([k] :: T) E ∧ T.length ≤ 20 ∧ ∀ x ∈ T, 1 < x.length)
section
variable {w : World} {s p g : Nat} {F : Nat → Prop} {C : List (List Int)}
set_option maxRecDepth 100000 in
set_option maxHeartbeats 4000000 in
theorem raise_calls (h : TSt w s p g F C) (A : Option Addr) (c : Nat) (E : List Entry) (ks : List Kid) (hc : ks.length ≤ c) (hbig : c ≤ 9223372036854775807) (hK : Rd Kid.enc 2 w A ks) (hg : KidsGood ks) (ht : Tower C [ks] E) (hroom : endOf 1 C + 40 * ks.length < 4096) :
    Calls Tryz.prog 62 #[.pointer (some ⟨s, 0, none⟩), .int .i64 1, .slice A ks.length c] w fun e w' => ∃ root, e = .returned (.tuple #[.int .u64 root, .int .i64 0]) ∧ BuiltR F w w' s p g C E root (40 * ks.length) := by
  obtain ⟨N, hN⟩ : ∃ N, ks.length = N := ⟨_, rfl⟩
  have hNk : ks.length ≤ N := by omega
  have H0 : Hid (RaS N w F s p g C E [] ks A c C F w) := ⟨h, Chg.refl _ _, fun i hi => .inl hi, ht, hg, More.refl _, hc, hbig, hK, (fun e => by cases e), Nat.zero_le _, (by simp), hNk, (fun x hx => by cases hx)⟩
  have HRO : Hid (endOf 1 C + 40 * (N : Int) < 4096) := by show _ < _; rw [← hN]; exact hroom
  have HNN : Hid (((40 * ks.length : Nat) : Int) = 40 * (N : Int)) := by show _ = _; rw [← hN]; omega
  have HBR : Hid (∀ (w' : World) (root : Int), BuiltR F w w' s p g C E root (40 * (N : Int)) → BuiltR F w w' s p g C E root (40 * (ks.length : Int))) := fun w' root h => by rw [hN]; exact h
  clear h hc hbig hK hg ht hroom hN hNk
  go_enter Tryz.func62, Tryz.ntmps62
  go_wp2
  go_loopg [1, 2] 20 (fun m lv u wr => ∃ (T : List (List Kid)) (ks : List Kid) (A : Option Addr) (c : Nat) (C' : List (List Int)) (F' : Nat → Prop), lv = .int .i64 ((T.length : Int) + 1) ∧ u = .slice A ks.length c ∧ m + T.length = 20 ∧ Hid (RaS N w F s p g C E T ks A c C' F' wr))
  case atStart => exact ⟨[], ks, A, c, C, F, rfl, rfl, rfl, H0.out⟩
  case round =>
    clear H0 A c
    obtain ⟨ks0, hks0⟩ : ∃ k, ks = k := ⟨_, rfl⟩
    obtain ⟨T, ks, A, c, C1, F1, rfl, rfl, hm, hs⟩ := hrel
    by_cases h1 : ks.length ≤ 1
    · by_cases h0 : ks = []
      · subst h0
        have HE := Lib.hid (tower_ne hs.out.tower rfl)
        clear h1
        go_wp2
        go_ret2
        have hS := hs.out
        exact ⟨0, rfl, HBR.out _ _ ⟨F1, C1, hS.st, hS.chg, hS.sub, hS.more, by have h1 := hS.room; have h2 := Nat.mul_le_mul_left N hS.len; omega, .inl ⟨HE.out, rfl⟩⟩⟩
      · obtain ⟨k, rfl⟩ : ∃ k, ks = [k] := by
          rcases ks with _ | ⟨k, _ | ⟨k2, ks⟩⟩
          · exact absurd rfl h0
          · exact ⟨k, rfl⟩
          · simp only [List.length_cons] at h1; omega
        rcases hs.out.rd with h0 | ⟨bb, off, rfl, hlt, hcell⟩
        · cases h0
        have z1 := hcell 0 k rfl 1 _ rfl
        simp only [Nat.zero_mul, Nat.add_zero] at z1
        clear hcell h1 h0
        go_wp2
        go_ret2
        have hS := hs.out
        exact ⟨k.id, rfl, HBR.out _ _ ⟨F1, C1, hS.st, hS.chg, hS.sub, hS.more, by have h1 := hS.room; have h2 := Nat.mul_le_mul_left N hS.len; omega, .inr ⟨k, T, rfl, hS.tower, hS.len, hS.many⟩⟩⟩
    · obtain ⟨m', hm'⟩ : ∃ m', gk = m' + 1 := ⟨gk - 1, by
        have := hs.out.top
        by_cases h20 : T.length = 20
        · exact absurd (this h20) h1
        · omega⟩
      subst hm'
      obtain ⟨lv, hlv⟩ : ∃ lv : Nat, T.length + 1 = lv := ⟨_, rfl⟩
      have hlv2 : 1 ≤ lv ∧ lv ≤ 20 := by omega
      have hlvi : (T.length : Int) + 1 = (lv : Int) := by omega
      rw [hlvi]
      have hcl := hs.out.st.len
      have hgood := hs.out.good
      have hkids := tower_kids hs.out.tower hcl
      have hlast : ∀ x ∈ ks, x.last.size ≤ 40 := kidsE_small ks (kidsE_zero ks fun k hk => (hgood.ok k hk).1)
      have HS := Lib.hid (group_calls wr A c ks hs.out.cap hs.out.big hs.out.rd (fun x hx => by have := hlast x hx; omega) lv (by have := hgood.len; omega))
      have HOK := Lib.hid (inner_ok hlv2 hgood hkids)
      have HLA := Lib.hid hlast
      have HRO2 : Hid (endOf 1 C1 + costNs (innerNs lv (groupK lv ks)) < 4096) := by
        show _ < _
        rw [cost_inner, groupK_flat]
        have h1 := hs.out.room
        have h2 := HRO.out
        have h3 := hs.out.small
        have h4 := Nat.mul_le_mul_left N (show T.length ≤ 19 by omega)
        omega
      have hlK := hgood.len
      have hk1 : (1 : Int) < (ks.length : Int) := by omega
      have HK1 : Hid (1 < ks.length) := by show _ < _; omega
      obtain ⟨G, hG⟩ : ∃ G, G = m' + 1 := ⟨_, rfl⟩
      have HLV := Lib.hid hlv
      have HM := Lib.hid hm
      clear hlast hkids hgood hcl h1 hlvi hlv hm
      go_wp2_with fail
      refine HS.out.mono ?_
      rintro e w1 ⟨v, rfl, hv, hb1⟩
      obtain ⟨vs, hO, hvl, hvs⟩ := hv
      obtain ⟨A1, c1, rfl, i1, i1', hr1, hA1⟩ := hO.rd RowV.ok
      have T1 := Lib.hid (hs.out.st.below hb1)
      have B1 := Lib.hid hb1
      have FW := Lib.hid hs.out.st.lt
      have HR1 := Lib.hid hr1
      have HA1 := Lib.hid hA1
      have HVS : Hid (∀ (i : Nat) (r : RowV) (l : List Kid), vs[i]? = some r → (groupK lv ks)[i]? = some l → r.len = l.length ∧ l.length ≤ r.cap ∧ Rd Kid.enc 2 w1 r.A l ∧ ∀ a, r.A = some a → wr.heap.size ≤ a.block ∧ a.block < w1.heap.size) := fun i r l h1 h2 => by
        obtain ⟨k1, k2, k3, k4⟩ := hvs i r l h1 h2
        exact ⟨k1, k2, k3, fun a ha => ⟨(k4 a ha).1, (k4 a ha).2.1⟩⟩
      have hvl2 : Hid (vs.length = (groupK lv ks).length) := hvl
      have hvb : vs.length ≤ 60 := by rw [hvl]; exact Nat.le_trans (splitAll_len _ _) hlK
      obtain ⟨w0, hw0⟩ : ∃ w0, wr = w0 := ⟨_, rfl⟩
      rw [hw0] at hs HVS HA1 B1 FW
      clear hb1 hr1 hA1 hvs hvl HS hO i1 hw0
      go_wp2
      go_loopg [8, 22] vs.length (fun m u i wr => ∃ k : Nat, i = .int .i64 k ∧ k + m = vs.length ∧ Hid (LvS w1 F1 s p g C1 (innerNs lv (groupK lv ks)) k u wr))
      case atStart => exact ⟨0, rfl, by omega, LvS.start T1.out⟩
      case round =>
        obtain ⟨k, rfl, hk, hs5⟩ := hrel
        by_cases hkn : k < vs.length
        · obtain ⟨m2, hm2⟩ : ∃ m', gk = m' + 1 := ⟨gk - 1, by omega⟩
          subst hm2
          have hki : (k : Int) < (vs.length : Int) := by omega
          have hkz : (0 : Int) ≤ (k : Int) := by omega
          rcases HR1.out with h0 | ⟨bb, off, rfl, hlt, hcell⟩
          · rw [h0] at hkn; simp at hkn
          have hbb : w0.heap.size ≤ bb := HA1.out _ rfl
          have hR : Rd RowV.enc 1 wr (some ⟨bb, off, none⟩) vs := HR1.out.chg hs5.out.chgd (fun x hx hf => by cases hx; have := FW.out _ hf; dsimp only at this; omega)
          have hvk : vs[k]? = some vs[k] := List.getElem?_eq_getElem hkn
          have hkn2 : k < (groupK lv ks).length := by rw [← hvl2.out]; exact hkn
          have hlk : (groupK lv ks)[k]? = some (groupK lv ks)[k] := List.getElem?_eq_getElem hkn2
          obtain ⟨q1, q2, q3, q4⟩ := HVS.out k _ _ hvk hlk
          have z0 := Rd.range hR hvk 0 _ rfl
          have hbl : bb < wr.heap.size := Nat.lt_of_lt_of_le hlt hs5.out.chgd.size
          have q3r := q3.chg hs5.out.chgd (fun x hx hf => by have := FW.out _ hf; have := (q4 x hx).1; omega)
          have hnk : Hid ((innerNs lv (groupK lv ks))[k]? = some ⟨lv, [], (groupK lv ks)[k]⟩) := by show _ = _; unfold innerNs; rw [List.getElem?_map, hlk]; rfl
          have hrl : (groupK lv ks)[k].length ≤ 60 := by
            have := (List.sublist_flatten_of_mem (List.getElem_mem hkn2)).length_le
            rw [groupK_flat] at this; omega
          have hsub : ∀ x ∈ (groupK lv ks)[k], x ∈ ks := fun x hx => by
            have := (List.sublist_flatten_of_mem (List.getElem_mem hkn2)).subset hx
            rwa [groupK_flat] at this
          generalize (groupK lv ks)[k] = row at *
          generalize vs[k] = r at *
          obtain ⟨rA, rl, rc⟩ := r
          dsimp only at q1 q2 q3r q4
          subst q1
          have e1 : off + k * 1 + 0 = off + k := by omega
          rw [e1] at z0
          have HN : Hid (NdAt wr ⟨none, 0, rA, rc⟩ ⟨lv, [], row⟩) := ⟨Nat.le_refl _, q2, .inl rfl, q3r, (fun x hx => by cases hx), (fun x hx => by have := HLA.out x (hsub x hx); omega), Nat.zero_le _, (by dsimp only; omega)⟩
          have HP := Lib.hid (hs5.out.puts hnk.out HOK.out HRO2.out ⟨none, 0, rA, rc⟩ HN.out (fun x hx => by cases hx) (fun x hx => ⟨fun hf => by have := FW.out _ hf; have := (q4 x hx).1; omega, (q4 x hx).2⟩))
          clear hR hvk hlk hcell hlt q2 q3 q3r q4 hsub hrl hkn2 hbb
          go_wp2_with fail
          refine HP.out.mono ?_
          rintro e w5 ⟨rfl, h5⟩
          obtain ⟨n, hn⟩ : ∃ n, NodeP.mk (lv : Int) [] row = n := ⟨_, rfl⟩
          rw [hn] at hnk ⊢
          have hl6 : Hid ((putNs C1 ((innerNs lv (groupK lv ks)).take k)).1.length ≤ 60) := by show _ ≤ _; rw [putNs_len, List.length_take]; omega
          obtain ⟨kl, ki, HKI⟩ : ∃ kl ki, Hid (n.last = kl ∧ numT (putNs C1 ((innerNs lv (groupK lv ks)).take k)).2 n.bytes = ki) := ⟨_, _, rfl, rfl⟩
          rw [HKI.out.1, HKI.out.2]
          obtain ⟨W6, hW6⟩ : ∃ W, w5.alloc (.cells #[.string kl, .int .u64 ki] 109) = W := ⟨_, rfl⟩
          have hb6 : Below w5.heap.size w5 W6 := by rw [← hW6]; exact bl_alloc (Below.refl _ w5) _
          have M6 := Lib.hid (h5.below hb6)
          have Y6 : Hid (W6.heap[w5.heap.size]? = some (.cells #[.string kl, .int .u64 ki] 109 (0, 0))) := by show _ = _; rw [← hW6]; exact blk_new w5 _
          obtain ⟨r, hr⟩ : ∃ r, w5.heap.size = r := ⟨_, rfl⟩
          rw [hr] at Y6
          have y0 := blk_cell Y6.out 0
          have y1 := blk_cell Y6.out 1
          have yl := blk_lt Y6.out
          have O6 := Lib.hid M6.out.own
          have hz6 := Lib.hid M6.out.size
          have m1 : Hid (((putNs C1 ((innerNs lv (groupK lv ks)).take k)).1.length + 1) * 24 ≤ 140737488355328) := by show _ ≤ _; have := hl6.out; omega
          have m2c : Hid ((putNs C1 ((innerNs lv (groupK lv ks)).take k)).1.length + 1 ≤ 140737488355328) := by show _ ≤ _; have := hl6.out; omega
          clear h5 hb6 HP hn HN z0 hbl
          go_wp2_with (at_builtin; refine ap_own Kid.ok rfl _ _ _ _ _ _ rfl Tryz.underlying96 infoKn rfl w1.heap.size u8 _ ⟨kl, ki⟩ #[_, _] rfl rfl W6.heap.size rfl rfl O6.out hz6.out m1.out m2c.out ?_; intro g8 cap8 w8 o8 hg8 hat8 hlt8)
          have L8 := Lib.hid (M6.out.app hnk.out hg8 hat8 (by rw [HKI.out.1, HKI.out.2]; exact o8))
          clear hg8 hat8 hlt8 o8
          go_roundg m2
          case measure => omega
          case rel => exact ⟨k + 1, by go_num, by omega, L8.out⟩
        · have hkk : ¬ (k : Int) < (vs.length : Int) := by omega
          have HD := Lib.hid (hs5.out.done (w := w0) (by unfold innerNs; rw [List.length_map, ← hvl2.out]; omega) B1.out)
          obtain ⟨F3, d1, d2, d3, d4, d5⟩ := HD.out
          obtain ⟨A3, c3, rfl, j1, j2, j3, -⟩ := d4.rd Kid.ok
          have hT3 : Tower (putNs C1 (innerNs lv (groupK lv ks))).2 ((putNs C1 (innerNs lv (groupK lv ks))).1 :: ks :: T) E := by
            refine ⟨?_, hs.out.tower.more (putNs_more _ _)⟩
            have := putNs_ok (innerNs lv (groupK lv ks)) C1 (fun n hn => (HOK.out n hn).right)
            rwa [HLV.out]
          have hr3 := room_ns (innerNs lv (groupK lv ks)) C1 HOK.out
          rw [cost_inner, groupK_flat] at hr3
          have R3 : Hid (RaS N w F s p g C E (ks :: T) (putNs C1 (innerNs lv (groupK lv ks))).1 A3 c3 (putNs C1 (innerNs lv (groupK lv ks))).2 F3 wr) := {
            st := d1
            chg := hs.out.chg.trans d2 (fun i hi hf => by rcases hs.out.sub i hf with q | q; exact q; omega)
            sub := fun i hi => by
              rcases d3 i hi with q | q
              · exact hs.out.sub i q
              · exact .inr (Nat.le_trans hs.out.chg.size q)
            tower := hT3
            good := inner_good hs.out.good (by have := hT3.1; rwa [HLV.out] at this)
            more := hs.out.more.trans (putNs_more _ _)
            cap := j1
            big := j2
            rd := j3
            top := fun e => by
              have e20 : lv = 20 := by have := HLV.out; simp only [List.length_cons] at e; omega
              rw [putNs_len, e20]
              unfold innerNs
              rw [List.length_map]
              exact group_top ks
            len := by have := HLV.out; simp only [List.length_cons]; omega
            room := by have h1 := hs.out.room; have h2 := hs.out.small; simp only [List.length_cons, Nat.mul_add, Nat.mul_one]; omega
            small := by rw [putNs_len]; unfold innerNs; rw [List.length_map]; exact Nat.le_trans (splitAll_len _ _) hs.out.small
            many := fun x hx => by
              rcases List.mem_cons.1 hx with rfl | hx
              · exact HK1.out
              · exact hs.out.many x hx }
          clear hkn d1 d2 d3 d4 d5 j1 j2 j3 hT3 hr3 HD
          go_wp2
          go_roundg m'
          case measure => omega
          case rel => exact ⟨ks :: T, _, A3, c3, _, F3, by have := HLV.out; simp only [List.length_cons]; go_num, rfl, by have := HM.out; simp only [List.length_cons]; omega, R3.out⟩
end
end Go.Proofs.YtikgplhcadomcaaGreat
