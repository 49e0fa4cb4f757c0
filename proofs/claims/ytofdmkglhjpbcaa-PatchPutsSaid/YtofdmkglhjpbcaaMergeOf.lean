/- merge.Of -/
import Derived.Test.YtofdmkglhjpbcaaAll
import Derived.Test.YtofdmkglhjpbcaaMergeKey
namespace Go.Proofs.Ytofdmkglhjpbcaa
open Go.RowKit Go.Maps
set_option linter.unusedVariables false
set_option linter.unusedSimpArgs false

/-- Two rows of the call's own do not share a block. -/
def Apart (v u : Value) : Prop := v.ownBlock = none ∨ u.ownBlock = none ∨ v.ownBlock ≠ u.ownBlock
theorem Apart.symm {v u : Value} (h : Apart v u) : Apart u v := by
  rcases h with h | h | h
  · exact .inr (.inl h)
  · exact .inl h
  · exact .inr (.inr (Ne.symm h))
theorem Apart.kept {v u : Value} (h : Apart v u) : u.ownBlock = none ∨ u.ownBlock ≠ v.ownBlock := by
  rcases h with h | h | h
  · cases hu : u.ownBlock with
    | none => exact .inl rfl
    | some k => exact .inr (by rw [h]; simp)
  · exact .inl h
  · exact .inr (Ne.symm h)
theorem Apart.next {α : Type} {enc : α → List Value} {sz e base g n c : Nat} {W : World} {v u : Value} {xs : List α} (h : Apart v u) (ho : Own enc sz e base W u xs) (hat : v.ownBlock = some g ∨ W.heap.size ≤ g) : Apart (.slice (some ⟨g, 0, none⟩) n c) u := by
  cases hu : u.ownBlock with
  | none => exact .inr (.inl hu)
  | some k =>
    refine .inr (.inr ?_)
    rw [hu]
    intro e
    have e' : g = k := by injection e
    subst e'
    have hk := (ho.lt _ hu).2
    rcases hat with hat | hat
    · rcases h with h | h | h
      · rw [hat] at h; cases h
      · rw [hu] at h; cases h
      · rw [hat, hu] at h; exact h rfl
    · omega
theorem infoEnM : (Try.prog.info? 72).map (fun i => (i.zero, i.size, i.bytes)) = some (some (.agg #[.string ⟨#[]⟩, .string ⟨#[]⟩]), 2, 32) := by kernel_rfl
theorem infoCl : (Try.prog.info? 47).map (fun i => (i.zero, i.size, i.bytes)) = some (some (.agg #[.string ⟨#[]⟩, .bool false, .string ⟨#[]⟩, .bool false, .string ⟨#[]⟩, .bool false, .string ⟨#[]⟩]), 7, 88) := by kernel_rfl
theorem look_side {W : World} {g n : Nat} {f : Str → Option Side} (h : MapG Try.prog 9 sideV W g n f) (key : Str) (hk : key.size ≤ maxLen) {s : Side} (hs : (f key).getD noSide = s) :
    (Instr.lookup 86 (.map (some g)) (.string key) false).run Try.prog W = .ok (.agg #[.bool s.has, .string s.val]) W := by
  have := h.look Try.underlying9 86 Try.underlying86 noSide (Try.zeroValue45 W) key hk
  rw [hs] at this
  exact this
theorem take_flat {α : Type} {f : Str → List α} {ks : List Str} {k : Nat} {x : Str} (h : ks[k]? = some x) : (ks.take (k + 1)).flatMap f = (ks.take k).flatMap f ++ f x := by
  rw [List.take_add_one, h]; simp [List.flatMap_append]
theorem flat_take_len {α : Type} {f : Str → List α} (h : ∀ k, (f k).length ≤ 1) (ks : List Str) (k : Nat) : ((ks.take k).flatMap f).length ≤ k :=
  Nat.le_trans (flat_len_le f h _) (by rw [List.length_take]; omega)
def Small' (l : List Entry) : Prop := ∀ x ∈ l, x.key.size ≤ 9223372036854775807 ∧ x.val.size ≤ 9223372036854775807
theorem keys_size {b o t : List Entry} (hb : Small' b) (ho : Small' o) (ht : Small' t) : ∀ k ∈ keysOf [b, o, t], k.size ≤ maxLen := by
  intro k hk
  rw [mem_keysOf] at hk
  obtain ⟨l, hl, hk⟩ := hk
  obtain ⟨x, hx, rfl⟩ := List.mem_map.1 hk
  simp only [List.mem_cons, List.not_mem_nil, or_false] at hl
  unfold maxLen
  rcases hl with rfl | rfl | rfl
  · exact (hb x hx).1
  · exact (ho x hx).1
  · exact (ht x hx).1
theorem any3 (b o t : List Entry) (g1 g2 g3 : Nat) (k : Str) : anyHas [(g1, sidesOf b), (g2, sidesOf o), (g3, sidesOf t)] k = true ↔ k ∈ keysOf [b, o, t] := by
  rw [mem_keysOf]
  simp only [anyHas, List.any_cons, List.any_nil, Bool.or_eq_true, Bool.or_false, sidesOf_isSome, get_has, List.mem_cons, List.not_mem_nil, or_false, exists_eq_or_imp, exists_eq_left]


set_option maxRecDepth 100000 in
set_option maxHeartbeats 2000000 in
theorem MergeOf_calls (w : World) (A B C : Option Addr) (ca cb cc : Nat) (b o t : List Entry) (lb : b.length ≤ 100) (lo : o.length ≤ 100) (lt : t.length ≤ 100) (zb : Small' b) (zo : Small' o) (zt : Small' t)
    (hA : Rd Entry.enc 2 w A b) (hB : Rd Entry.enc 2 w B o) (hC : Rd Entry.enc 2 w C t)
    (hA' : b ≠ [] → ∀ a, A = some a → a.block < w.heap.size) (hB' : o ≠ [] → ∀ a, B = some a → a.block < w.heap.size) (hC' : t ≠ [] → ∀ a, C = some a → a.block < w.heap.size) :
    Calls Try.prog 25 #[.slice A b.length ca, .slice B o.length cb, .slice C t.length cc] w fun e w' => ∃ v u, e = .returned (.tuple #[v, u]) ∧
      Own Entry.enc 2 72 w.heap.size w' v (mergeE b o t) ∧ Own Clash.enc 7 47 w.heap.size w' u (mergeC b o t) ∧ Below w.heap.size w w' := by
  have HA := Lib.hid hA
  have HB := Lib.hid hB
  have HC := Lib.hid hC
  have HA' := Lib.hid hA'
  have HB' := Lib.hid hB'
  have HC' := Lib.hid hC'
  have ZB := Lib.hid zb
  have ZO := Lib.hid zo
  have ZT := Lib.hid zt
  clear hA hB hC hA' hB' hC' zb zo zt
  go_enter Try.func25, Try.ntmps25
  go_wp2_with fail
  refine (msides_calls _ A ca b (by omega) ZB.out HA'.out HA.out).mono ?_
  rintro e w1 ⟨g1, rfl, hg1, hm1, hb1⟩
  have M1 := Lib.hid hm1
  have B1 := Lib.hid hb1
  clear hm1 hb1
  go_wp2_with fail
  refine (msides_calls _ B cb o (by omega) ZO.out (fun h a ha => Nat.lt_of_lt_of_le (HB'.out h a ha) B1.out.size) (HB.out.below B1.out (Nat.le_refl _))).mono ?_
  rintro e w2 ⟨g2, rfl, hg2, hm2, hb2⟩
  have M2 := Lib.hid hm2
  have M1 := Lib.hid (M1.out.below hb2 M1.out.lt)
  have B2 := Lib.hid (bl_then B1.out B1.out.size hb2)
  clear hm2 hb2
  go_wp2_with fail
  refine (msides_calls _ C cc t (by omega) ZT.out (fun h a ha => Nat.lt_of_lt_of_le (HC'.out h a ha) B2.out.size) (HC.out.below B2.out (Nat.le_refl _))).mono ?_
  rintro e w3 ⟨g3, rfl, hg3, hm3, hb3⟩
  have M3 := Lib.hid hm3
  have M1 := Lib.hid (M1.out.below hb3 M1.out.lt)
  have M2 := Lib.hid (M2.out.below hb3 M2.out.lt)
  have B3 := Lib.hid (bl_then B2.out B2.out.size hb3)
  clear hm3 hb3
  have hR : Hid (Rd mapEnc 1 (w3.alloc (.cells #[.map (some g1), .map (some g2), .map (some g3)] 86)) (some ⟨w3.heap.size, 0, none⟩) [(g1, sidesOf b), (g2, sidesOf o), (g3, sidesOf t)]) := by
    refine .inr ⟨w3.heap.size, 0, rfl, by simp, fun i x hx j v hv => ?_⟩
    rw [blk_cell (blk_new w3 _)]
    cases j with
    | succ j => simp [mapEnc] at hv
    | zero =>
      match i, hx with
      | 0, hx => cases hx; cases hv; rfl
      | 1, hx => cases hx; cases hv; rfl
      | 2, hx => cases hx; cases hv; rfl
  go_wp2_with fail
  have n1 : Hid (∀ p ∈ ([(g1, sidesOf b), (g2, sidesOf o), (g3, sidesOf t)] : List MSide), MapG Try.prog 9 sideV (w3.alloc (.cells #[.map (some g1), .map (some g2), .map (some g3)] 86)) p.1 100 p.2) := by
    intro p hp
    simp only [List.mem_cons, List.not_mem_nil, or_false] at hp
    rcases hp with rfl | rfl | rfl
    · exact (M1.out.kept (World.grownBy_alloc _ _ none) (by simp)).mono lb
    · exact (M2.out.kept (World.grownBy_alloc _ _ none) (by simp)).mono lo
    · exact (M3.out.kept (World.grownBy_alloc _ _ none) (by simp)).mono lt
  refine (all_calls _ (some ⟨w3.heap.size, 0, none⟩) 3 100 [(g1, sidesOf b), (g2, sidesOf o), (g3, sidesOf t)] (by simp) (by omega) hR.out n1.out).mono ?_
  rintro e w4 ⟨vk, ks, rfl, hok, hsk, hmk, hb4⟩
  have hks : ks = keysOf [b, o, t] := srt_ext hsk (srt_keysOf _) fun k => by rw [hmk, any3]
  have hz3 : Hid (w3.heap.size + 1 ≤ w4.heap.size) := by show _ ≤ _; have := hb4.size; simpa using this
  have K1 : Hid (MapG Try.prog 9 sideV w4 g1 b.length (sidesOf b)) := (M1.out.kept (World.grownBy_alloc _ _ none) (by simp)).below hb4 (by have := M1.out.lt; simp; omega)
  have K2 : Hid (MapG Try.prog 9 sideV w4 g2 o.length (sidesOf o)) := (M2.out.kept (World.grownBy_alloc _ _ none) (by simp)).below hb4 (by have := M2.out.lt; simp; omega)
  have K3 : Hid (MapG Try.prog 9 sideV w4 g3 t.length (sidesOf t)) := (M3.out.kept (World.grownBy_alloc _ _ none) (by simp)).below hb4 (by have := M3.out.lt; simp; omega)
  have B4 : Hid (Below w.heap.size w w4) := bl_then (bl_alloc B3.out _) (bl_alloc B3.out _).size hb4
  obtain ⟨Ak, ck, rfl, kc, kc', kr, kbase⟩ := hok.rd strOk
  have KR := Lib.hid kr
  have KSz : Hid (∀ k ∈ ks, k.size ≤ maxLen) := by rw [hks]; exact keys_size ZB.out ZO.out ZT.out
  have KLen : ks.length ≤ 300 := by rw [hks]; have := keys3_len b o t; omega
  have HE : Hid (mergeE b o t = ks.flatMap (entAt b o t)) := by rw [hks]; rfl
  have HCl : Hid (mergeC b o t = ks.flatMap (claAt b o t)) := by rw [hks]; rfl
  clear hok hsk hmk hb4 kr kbase hks M1 M2 M3 B1 B2 B3 n1 hR HA HB HC HA' HB' HC' ZB ZO ZT
  go_wp2
  go_loopg [11, 12, 29] ks.length (fun n v u i wr => ∃ k : Nat, i = .int .i64 k ∧ k + n = ks.length ∧ Hid (Own Entry.enc 2 72 w4.heap.size wr v ((ks.take k).flatMap (entAt b o t))) ∧ Hid (Own Clash.enc 7 47 w4.heap.size wr u ((ks.take k).flatMap (claAt b o t))) ∧ Hid (Apart v u) ∧ Hid (Below w4.heap.size w4 wr))
  case atStart => exact ⟨0, rfl, by omega, Own.nil, Own.nil, .inl rfl, Below.refl _ _⟩
  case round =>
    obtain ⟨k, rfl, hk, hoe, hoc, hap, hb⟩ := hrel
    by_cases hlt : k < ks.length
    · obtain ⟨n', hn'⟩ : ∃ n', gk = n' + 1 := ⟨gk - 1, by omega⟩
      subst hn'
      have hrk := Lib.hid (KR.out.below hb.out (Nat.le_refl _))
      rcases hrk.out with h0 | ⟨bk, off, rfl, hbl, hcell⟩
      · simp [h0] at hlt
      have hx := List.getElem?_eq_getElem hlt
      have c0 : wr.cell? ⟨bk, off + k, none⟩ = some (.string ks[k]) := by have := hcell k ks[k] hx 0 _ rfl; simpa using this
      have hde : Hid ((ks.take (k + 1)).flatMap (entAt b o t) = (ks.take k).flatMap (entAt b o t) ++ entAt b o t ks[k]) := take_flat hx
      have hdc : Hid ((ks.take (k + 1)).flatMap (claAt b o t) = (ks.take k).flatMap (claAt b o t) ++ claAt b o t ks[k]) := take_flat hx
      have hle := Lib.hid (flat_take_len (ent_len b o t) ks k)
      have hlc := Lib.hid (flat_take_len (cla_len b o t) ks k)
      have hkz := Lib.hid (KSz.out ks[k] (List.getElem_mem hlt))
      have hk1 : Hid (k ≤ 300) := by show _ ≤ _; omega
      generalize ks[k] = key at *
      clear hcell hx hrk
      obtain ⟨de, hde0⟩ : ∃ de, de = (ks.take k).flatMap (entAt b o t) := ⟨_, rfl⟩
      obtain ⟨dc, hdc0⟩ : ∃ dc, dc = (ks.take k).flatMap (claAt b o t) := ⟨_, rfl⟩
      rw [← hde0] at hoe hde hle
      rw [← hdc0] at hoc hdc hlc
      clear hde0 hdc0
      have pb := plain_get b key
      have po := plain_get o key
      have pt := plain_get t key
      have gb := Lib.hid (sidesOf_get b key)
      have go' := Lib.hid (sidesOf_get o key)
      have gt := Lib.hid (sidesOf_get t key)
      have hee : Hid (entAt b o t key = entOf key (pickP (get b key) (get o key) (get t key))) := rfl
      have hec : Hid (claAt b o t key = claOf key (get b key) (get o key) (get t key) (pickP (get b key) (get o key) (get t key))) := rfl
      generalize get b key = sb at *
      generalize get o key = so at *
      generalize get t key = st at *
      have LK : Hid (∀ W, Below w4.heap.size w4 W → (Instr.lookup 86 (.map (some g1)) (.string key) false).run Try.prog W = .ok (.agg #[.bool sb.has, .string sb.val]) W ∧
          (Instr.lookup 86 (.map (some g2)) (.string key) false).run Try.prog W = .ok (.agg #[.bool so.has, .string so.val]) W ∧
          (Instr.lookup 86 (.map (some g3)) (.string key) false).run Try.prog W = .ok (.agg #[.bool st.has, .string st.val]) W) := fun W hW =>
        ⟨look_side (K1.out.below hW K1.out.lt) key hkz.out gb.out, look_side (K2.out.below hW K2.out.lt) key hkz.out go'.out, look_side (K3.out.below hW K3.out.lt) key hkz.out gt.out⟩
      have KEY := Lib.hid (fun W => Key_calls W sb so st pb po pt)
      clear pb po pt gb go' gt
      generalize pickP sb so st = p at *
      obtain ⟨⟨has, val⟩, is⟩ := p
      obtain ⟨r1, r2, r3⟩ := LK.out _ hb.out
      go_wp2_with fail
      refine (KEY.out _).mono ?_
      rintro e w5 ⟨rfl, hb5⟩
      have hb6 := Lib.hid (bl_then hb.out hb.out.size hb5)
      have ho5 := Lib.hid (hoe.out.below hb5)
      have hc5 := Lib.hid (hoc.out.below hb5)
      clear hb5 r1 r2 r3 hoe hoc c0
      have hb7 := Lib.hid (bl_alloc hb6.out (.cells #[.bool has, .string val] 45))
      have ho6 := Lib.hid (ho5.out.alloc (.cells #[.bool has, .string val] 45))
      have hc6 := Lib.hid (hc5.out.alloc (.cells #[.bool has, .string val] 45))
      have hz6 : Hid ((w5.alloc (.cells #[.bool has, .string val] 45)).heap.size = w5.heap.size + 1) := by show _ = _; simp
      have hbs6 : Hid (w4.heap.size ≤ (w5.alloc (.cells #[.bool has, .string val] 45)).heap.size) := hb7.out.size
      have HC2 : Hid ((de.length + 1) * 32 ≤ 140737488355328) := by show _ ≤ _; have := hle.out; have := hk1.out; omega
      have HC3 : Hid (de.length + 1 ≤ 140737488355328) := by show _ ≤ _; have := hle.out; have := hk1.out; omega
      have HD2 : Hid ((dc.length + 1) * 88 ≤ 140737488355328) := by show _ ≤ _; have := hlc.out; have := hk1.out; omega
      have HD3 : Hid (dc.length + 1 ≤ 140737488355328) := by show _ ≤ _; have := hlc.out; have := hk1.out; omega
      cases has with
      | true =>
        have hee2 : Hid (entAt b o t key = [⟨key, val⟩]) := hee.out
        cases is with
        | true =>
          have hec2 : Hid (claAt b o t key = []) := hec.out
          clear hee hec KEY
          go_wp2_with (at_builtin; refine ap_own Entry.ok rfl _ _ _ _ _ _ rfl Try.underlying22 infoEnM rfl w4.heap.size u11 de ⟨key, val⟩ #[_, _] rfl rfl (w5.heap.size + 1) hz6.out rfl ho6.out hbs6.out HC2.out HC3.out ?_; intro gg cap w7 o7 hg7 hat7 hlt7)
          have O7 := Lib.hid o7
          have hob := Lib.hid ho6.out.lt
          have C7 := Lib.hid (hc6.out.kept hg7 hap.out.kept)
          have P7 := Lib.hid (hap.out.next (n := de.length + 1) (c := cap) hc6.out hat7)
          have hb8 := Lib.hid (hb7.out.grown hg7 hb7.out.size (fun k e => (hob.out _ e).1))
          go_roundg n'
          case measure => omega
          case rel =>
            refine ⟨k + 1, by go_num, by omega, ?_, ?_, P7.out, hb8.out⟩
            · show Own _ _ _ _ _ _ _
              rw [hde.out, hee2.out]
              simpa using O7.out
            · show Own _ _ _ _ _ _ _
              rw [hdc.out, hec2.out]
              simpa using C7.out
        | false =>
          have hec2 : Hid (claAt b o t key = [⟨key, sb, so, st⟩]) := hec.out
          clear hee hec KEY
          go_wp2_with (first
            | (at_builtin; refine ap_own Entry.ok rfl _ _ _ _ _ _ rfl Try.underlying22 infoEnM rfl w4.heap.size u11 de ⟨key, val⟩ #[_, _] rfl rfl (w5.heap.size + 1) hz6.out rfl ho6.out hbs6.out HC2.out HC3.out ?_; intro gg cap w7 o7 hg7 hat7 hlt7; have O7 := Lib.hid o7; have hob := Lib.hid ho6.out.lt; have C7 := Lib.hid (hc6.out.kept hg7 hap.out.kept); have P7 := Lib.hid (hap.out.next (n := de.length + 1) (c := cap) hc6.out hat7); have hb8 := Lib.hid (hb7.out.grown hg7 hb7.out.size (fun k e => (hob.out _ e).1)); clear o7 hg7 hat7; obtain ⟨r1, r2, r3⟩ := LK.out _ hb8.out; have hz8 : Hid (w4.heap.size ≤ w7.heap.size) := hb8.out.size)
            | (at_builtin; refine ap_own Clash.ok rfl _ _ _ _ _ _ rfl Try.underlying39 infoCl rfl w4.heap.size u12 dc ⟨key, sb, so, st⟩ #[_, _, _, _, _, _, _] rfl rfl w7.heap.size rfl rfl C7.out hz8.out HD2.out HD3.out ?_; intro g2' cap2 w9 o9 hg9 hat9 hlt9))
          have hoc9 := Lib.hid C7.out.lt
          have E9 := Lib.hid (O7.out.kept hg9 P7.out.symm.kept)
          have P9 := Lib.hid ((P7.out.symm.next (n := dc.length + 1) (c := cap2) O7.out hat9).symm)
          have hb9 := Lib.hid (hb8.out.grown hg9 hb8.out.size (fun k e => (hoc9.out _ e).1))
          go_roundg n'
          case measure => omega
          case rel =>
            refine ⟨k + 1, by go_num, by omega, ?_, ?_, P9.out, hb9.out⟩
            · show Own _ _ _ _ _ _ _
              rw [hde.out, hee2.out]
              simpa using E9.out
            · show Own _ _ _ _ _ _ _
              rw [hdc.out, hec2.out]
              simpa using o9
      | false =>
        have hee2 : Hid (entAt b o t key = []) := hee.out
        cases is with
        | true =>
          have hec2 : Hid (claAt b o t key = []) := hec.out
          clear hee hec KEY
          go_wp2
          go_roundg n'
          case measure => omega
          case rel =>
            refine ⟨k + 1, by go_num, by omega, ?_, ?_, hap.out, hb7.out⟩
            · show Own _ _ _ _ _ _ _
              rw [hde.out, hee2.out]
              simpa using ho6.out
            · show Own _ _ _ _ _ _ _
              rw [hdc.out, hec2.out]
              simpa using hc6.out
        | false =>
          have hec2 : Hid (claAt b o t key = [⟨key, sb, so, st⟩]) := hec.out
          clear hee hec KEY
          obtain ⟨r1, r2, r3⟩ := LK.out _ hb7.out
          go_wp2_with (at_builtin; refine ap_own Clash.ok rfl _ _ _ _ _ _ rfl Try.underlying39 infoCl rfl w4.heap.size u12 dc ⟨key, sb, so, st⟩ #[_, _, _, _, _, _, _] rfl rfl (w5.heap.size + 1) hz6.out rfl hc6.out hbs6.out HD2.out HD3.out ?_; intro g2' cap2 w9 o9 hg9 hat9 hlt9)
          have hoc9 := Lib.hid hc6.out.lt
          have E9 := Lib.hid (ho6.out.kept hg9 hap.out.symm.kept)
          have P9 := Lib.hid ((hap.out.symm.next (n := dc.length + 1) (c := cap2) ho6.out hat9).symm)
          have hb9 := Lib.hid (hb7.out.grown hg9 hb7.out.size (fun k e => (hoc9.out _ e).1))
          go_roundg n'
          case measure => omega
          case rel =>
            refine ⟨k + 1, by go_num, by omega, ?_, ?_, P9.out, hb9.out⟩
            · show Own _ _ _ _ _ _ _
              rw [hde.out, hee2.out]
              simpa using E9.out
            · show Own _ _ _ _ _ _ _
              rw [hdc.out, hec2.out]
              simpa using o9
    · have hk' : k = ks.length := by omega
      subst hk'
      rw [List.take_length] at hoe hoc
      clear hlt hk
      go_wp2
      go_ret2
      exact ⟨_, _, rfl, by rw [HE.out]; exact hoe.out.mono B4.out.size, by rw [HCl.out]; exact hoc.out.mono B4.out.size, bl_then B4.out B4.out.size hb.out⟩
end Go.Proofs.Ytofdmkglhjpbcaa
