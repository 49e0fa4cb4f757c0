/- (*counter).walk. -/
import Derived.Test.YtikgplhcadomcaaGreatKX
import Derived.Test.YtikgplhcadomcaaGreatKR
namespace Go.Proofs.YtikgplhcadomcaaGreat
open Go.RowKit
set_option linter.unusedVariables false
set_option linter.unusedSimpArgs false
theorem storeGet_calls {w : World} {s p g : Nat} {F : Nat → Prop} {C : List (List Int)} (h : TSt w s p g F C) (id : Int) (b : List Int) (ht : tellT C id = some b) : Calls Tryz.prog 46 #[.pointer (some ⟨s, 0, none⟩), .int .u64 id] w fun e w' => ReadR w w' b 0 e := by
  obtain ⟨D, S, a, b'⟩ := h
  have := chGet_calls a id
  rw [b'.tells id, ht] at this
  exact this
theorem seeInner (K : Cn) (deep m : Nat) (ks : List Kid) : K.plus deep 1 0 ⟨0, 1, (NodeP.bytes ⟨(m : Int), [], ks⟩).length, 0 + ks.length, oneC⟩ = K.plus deep 1 0 (innerTot m ks Tot.zero) := by
  have : (⟨0, 1, (NodeP.bytes ⟨(m : Int), [], ks⟩).length, 0 + ks.length, oneC⟩ : Tot) = innerTot m ks Tot.zero := Tot.ext' rfl rfl rfl (by show 0 + ks.length = max ks.length 0; omega) (fun d => rfl)
  rw [this]
def CwR (w w' : World) (G : Nat → Prop) (cc s : Nat) (K : Cn) (e : Ending) : Prop := e = .returned (.int .i64 0) ∧ ∃ ud', CnX w G cc s ud' K w'
set_option maxRecDepth 100000 in
set_option maxHeartbeats 4000000 in
theorem cwLeaf_calls {s p g : Nat} {F : Nat → Prop} {C : List (List Int)} {cc : Nat} (w : World) (G : Nat → Prop) (ud : Value) (K : Cn) (k : Kid) (l : List Entry) (N : Tot) (deep b : Nat) (hs : SubN C 0 k l N) (hT : TSt w s p g F C) (hG : CnT G cc s ud K w) (hFG : ∀ i, F i → ¬ G i) (hK : K.Le b) (hb : b + 131072 * (N.lf + N.inn) ≤ 1000000000000000) (hd : deep ≤ K.ds.length) (hdl : K.ds.length ≤ 1000) (hdn : deep + 0 ≤ 900) :
    Calls Tryz.prog 119 #[.pointer (some ⟨cc, 0, none⟩), .int .u64 k.id, .int .i64 deep] w fun e w' => CwR w w' G cc s (K.plus deep (0 + 1) l.length N) e := by
  have HN : Hid (N = leafTot l) := hs.2
  obtain ⟨⟨hok, htell, -⟩, -⟩ := hs
  obtain ⟨kL, ki⟩ := k
  dsimp only at htell ⊢
  have HOK := Lib.hid hok
  have HT := Lib.hid hT
  have HG := Lib.hid hG
  have HFG := Lib.hid hFG
  have HK := Lib.hid hK
  have HB := Lib.hid hb
  have HD := Lib.hid (And.intro hd hdl)
  have HDN := Lib.hid hdn
  have HTELL := Lib.hid htell
  have HBL : Hid ((NodeP.bytes ⟨((0 : Nat) : Int), l, []⟩).length ≤ 131072) := (nodeI_small hok.right hok.kids hok.le hok.lk).1
  have HGET := Lib.hid (storeGet_calls hT ki _ htell)
  have c0 : w.cell? ⟨cc, 0, none⟩ = some (.pointer (some ⟨s, 0, none⟩)) := by rw [blk_cell hG.blk]; rfl
  have cl := blk_lt hG.blk
  clear hT hG hFG hK hok htell hd hdl hb hdn
  go_enter Tryz.func119, Tryz.ntmps119
  go_wp2_with fail
  refine HGET.out.mono ?_
  rintro e w2 ⟨Ab, cb, rfl, hcb, -, -, hb2⟩
  have B2 := Lib.hid hb2
  have HL := Lib.hid (treeLoad_calls (HT.out.below hb2) ki ⟨((0 : Nat) : Int), l, []⟩ HOK.out HTELL.out)
  have d0 : w2.cell? ⟨cc, 0, none⟩ = some (.pointer (some ⟨s, 0, none⟩)) := by rw [blk_cell (HG.out.chg (Below.chg hb2 fun _ => False) (fun _ _ h => h)).blk]; rfl
  have dl := blk_lt (HG.out.chg (Below.chg hb2 fun _ => False) (fun _ _ h => h)).blk
  clear hb2 c0 cl HGET
  go_wp2_with fail
  refine HL.out.mono ?_
  rintro e w3 ⟨a, rfl, hN3, hfrom, hb3⟩
  obtain ⟨W4, hW4⟩ : ∃ W, w3.alloc (.cells #[.int .i64 0, .slice a.A l.length a.ca, .slice a.B 0 a.cb] 98) = W := ⟨_, rfl⟩
  have hb4 : Below w3.heap.size w3 W4 := by rw [← hW4]; exact bl_alloc (Below.refl _ w3) _
  obtain ⟨q7, hq7⟩ : ∃ q, w3.heap.size = q := ⟨_, rfl⟩
  have hz4 : W4.heap[q7]? = some (.cells #[.int .i64 0, .slice a.A l.length a.ca, .slice a.B 0 a.cb] 98 (0, 0)) := by rw [← hW4, ← hq7]; exact blk_new w3 _
  have B4 : Hid (Below w.heap.size w W4) := bl_then (bl_then B2.out B2.out.size hb3) (Nat.le_trans B2.out.size hb3.size) hb4
  have N4 : Hid (NdAt W4 a ⟨((0 : Nat) : Int), l, []⟩) := hN3.below hb4
  have T4 := Lib.hid (HT.out.below B4.out)
  have G4 := Lib.hid (HG.out.chg (Below.chg B4.out fun _ => False) (fun _ _ h => h))
  have HQG : Hid (¬ G q7) := fun hg => by have := HG.out.lt _ hg; have := B2.out.size; have := hb3.size; omega
  have HBG : Hid (∀ x, a.B = some x → ¬ G x.block) := fun x hx hg => by have h1 := hfrom.2 x hx; have h2 := HG.out.lt _ hg; have h3 := B2.out.size; omega
  have HZ4 := Lib.hid hz4
  have e0 := blk_cell hz4 0
  have e1 := blk_cell hz4 1
  have e2 := blk_cell hz4 2
  have el := blk_lt hz4
  have hl100 := HOK.out.le
  dsimp only at hl100
  have HSEE := Lib.hid (see_calls W4 G cc s ud K G4.out 0 a l.length 0 deep 1 0 (NodeP.bytes ⟨((0 : Nat) : Int), l, []⟩).length b (.inl ⟨rfl, rfl, rfl⟩) HK.out (by have := HB.out; omega) hl100 (by omega) HBL.out HD.out.1 HD.out.2)
  clear hN3 hfrom hb3 hb4 hz4 d0 dl HL
  go_wp2_with fail
  refine HSEE.out.mono ?_
  rintro e w5 ⟨rfl, ud5, hx5⟩
  have X5 := Lib.hid hx5
  have hz5 := hx5.chgd.blk HZ4.out HQG.out
  clear hx5 HSEE
  have f0 := blk_cell hz5 0
  have f1 := blk_cell hz5 1
  have f2 := blk_cell hz5 2
  have fl := blk_lt hz5
  clear e0 e1 e2 el hz5
  go_wp2
  go_loopg [51] 0 (fun m i wr => i = .int .i64 0 ∧ wr = w5)
  case atStart => exact ⟨rfl, rfl⟩
  case round =>
    obtain ⟨rfl, rfl⟩ := hrel
    go_wp2
    go_ret
    refine ⟨rfl, ud5, ?_⟩
    rw [HN.out]
    exact X5.out.since B4.out
set_option maxRecDepth 100000 in
set_option maxHeartbeats 4000000 in
theorem cwStep_calls {s p g : Nat} {F : Nat → Prop} {C : List (List Int)} {cc : Nat} (n : Nat) (ih : ∀ (w : World) (G : Nat → Prop) (ud : Value) (K : Cn) (k : Kid) (l : List Entry) (N : Tot) (deep b : Nat), SubN C n k l N → TSt w s p g F C → CnT G cc s ud K w → (∀ i, F i → ¬ G i) → K.Le b → b + 131072 * (N.lf + N.inn) ≤ 1000000000000000 → deep ≤ K.ds.length → K.ds.length ≤ 1000 → deep + n ≤ 900 →
      Calls Tryz.prog 119 #[.pointer (some ⟨cc, 0, none⟩), .int .u64 k.id, .int .i64 deep] w fun e w' => CwR w w' G cc s (K.plus deep (n + 1) l.length N) e) (w : World) (G : Nat → Prop) (ud : Value) (K : Cn) (k : Kid) (l : List Entry) (N : Tot) (deep b : Nat) (hs : SubN C (n + 1) k l N) (hT : TSt w s p g F C) (hG : CnT G cc s ud K w) (hFG : ∀ i, F i → ¬ G i) (hK : K.Le b) (hb : b + 131072 * (N.lf + N.inn) ≤ 1000000000000000) (hd : deep ≤ K.ds.length) (hdl : K.ds.length ≤ 1000) (hdn : deep + (n + 1) ≤ 900) :
    Calls Tryz.prog 119 #[.pointer (some ⟨cc, 0, none⟩), .int .u64 k.id, .int .i64 deep] w fun e w' => CwR w w' G cc s (K.plus deep ((n + 1) + 1) l.length N) e := by
  have HTO := Lib.hid hs.ok
  obtain ⟨ks, xs, hok, htell, hpl, hpf, hN, hsub⟩ := hs
  have HN := Lib.hid hN
  have HPF := Lib.hid hpf
  have HSUB := Lib.hid hsub
  have HPL := Lib.hid hpl
  have HIH := Lib.hid ih
  clear hpf hsub hpl ih hN
  obtain ⟨kL, ki⟩ := k
  dsimp only at htell ⊢
  have HOK := Lib.hid hok
  have HT := Lib.hid hT
  have HG := Lib.hid hG
  have HFG := Lib.hid hFG
  have HK := Lib.hid hK
  have HB := Lib.hid hb
  have HD := Lib.hid (And.intro hd hdl)
  have HDN := Lib.hid hdn
  have HTELL := Lib.hid htell
  have HBL : Hid ((NodeP.bytes ⟨((n + 1 : Nat) : Int), [], ks⟩).length ≤ 131072) := (nodeI_small hok.right hok.kids hok.le hok.lk).1
  have HGET := Lib.hid (storeGet_calls hT ki _ htell)
  have c0 : w.cell? ⟨cc, 0, none⟩ = some (.pointer (some ⟨s, 0, none⟩)) := by rw [blk_cell hG.blk]; rfl
  have cl := blk_lt hG.blk
  clear hT hG hFG hK hok htell hd hdl hb hdn
  go_enter Tryz.func119, Tryz.ntmps119
  go_wp2_with fail
  refine HGET.out.mono ?_
  rintro e w2 ⟨Ab, cb, rfl, hcb, -, -, hb2⟩
  have B2 := Lib.hid hb2
  have HL := Lib.hid (treeLoad_calls (HT.out.below hb2) ki ⟨((n + 1 : Nat) : Int), [], ks⟩ HOK.out HTELL.out)
  have d0 : w2.cell? ⟨cc, 0, none⟩ = some (.pointer (some ⟨s, 0, none⟩)) := by rw [blk_cell (HG.out.chg (Below.chg hb2 fun _ => False) (fun _ _ h => h)).blk]; rfl
  have dl := blk_lt (HG.out.chg (Below.chg hb2 fun _ => False) (fun _ _ h => h)).blk
  clear hb2 c0 cl HGET
  go_wp2_with fail
  refine HL.out.mono ?_
  rintro e w3 ⟨a, rfl, hN3, hfrom, hb3⟩
  obtain ⟨W4, hW4⟩ : ∃ W, w3.alloc (.cells #[.int .i64 ((n : Int) + 1), .slice a.A 0 a.ca, .slice a.B ks.length a.cb] 98) = W := ⟨_, rfl⟩
  have hb4 : Below w3.heap.size w3 W4 := by rw [← hW4]; exact bl_alloc (Below.refl _ w3) _
  obtain ⟨q7, hq7⟩ : ∃ q, w3.heap.size = q := ⟨_, rfl⟩
  have hz4 : W4.heap[q7]? = some (.cells #[.int .i64 ((n : Int) + 1), .slice a.A 0 a.ca, .slice a.B ks.length a.cb] 98 (0, 0)) := by rw [← hW4, ← hq7]; exact blk_new w3 _
  have B4 : Hid (Below w.heap.size w W4) := bl_then (bl_then B2.out B2.out.size hb3) (Nat.le_trans B2.out.size hb3.size) hb4
  have N4 : Hid (NdAt W4 a ⟨((n + 1 : Nat) : Int), [], ks⟩) := hN3.below hb4
  have T4 := Lib.hid (HT.out.below B4.out)
  have G4 := Lib.hid (HG.out.chg (Below.chg B4.out fun _ => False) (fun _ _ h => h))
  have HQG : Hid (¬ G q7) := fun hg => by have := HG.out.lt _ hg; have := B2.out.size; have := hb3.size; omega
  have HBG : Hid (∀ x, a.B = some x → ¬ G x.block) := fun x hx hg => by have h1 := hfrom.2 x hx; have h2 := HG.out.lt _ hg; have h3 := B2.out.size; omega
  have HBQ : Hid (∀ x, a.B = some x → x.block < W4.heap.size) := fun x hx => by
    rcases N4.out.hK with h0 | ⟨bb, off, hAB, hlt, -⟩
    · have := ok_ne HOK.out
      dsimp only at h0 this
      rw [h0] at this; simp at this
    · rw [hAB] at hx; injection hx with hx; subst hx; exact hlt
  have HZ4 := Lib.hid hz4
  have e0 := blk_cell hz4 0
  have e1 := blk_cell hz4 1
  have e2 := blk_cell hz4 2
  have el := blk_lt hz4
  have hk100 := HOK.out.lk
  have hn20 : n ≤ 20 := by have h1 := (right_zero HOK.out.right).2.2.1; dsimp only at h1; omega
  dsimp only at hk100
  have HSEE := Lib.hid (see_calls W4 G cc s ud K G4.out ((n : Int) + 1) a 0 ks.length deep 0 1 (NodeP.bytes ⟨((n + 1 : Nat) : Int), [], ks⟩).length b (.inr ⟨by omega, rfl, rfl⟩) HK.out (by have := HB.out; omega) (by omega) hk100 HBL.out HD.out.1 HD.out.2)
  clear hN3 hfrom hb3 hb4 hz4 d0 dl HL
  go_wp2_with fail
  refine HSEE.out.mono ?_
  rintro e w5 ⟨rfl, ud5, hx5⟩
  have X5 : Hid (CnX W4 G cc s ud5 (K.plus deep 1 0 (innerTot (n + 1) ks Tot.zero)) w5) := by rw [← seeInner]; exact hx5
  have hz5 := hx5.chgd.blk HZ4.out HQG.out
  clear hx5 HSEE
  have f0 := blk_cell hz5 0
  have f1 := blk_cell hz5 1
  have f2 := blk_cell hz5 2
  have fl := blk_lt hz5
  clear e0 e1 e2 el hz5
  rcases N4.out.hK with h0 | ⟨bb, off, hAB, -, -⟩
  · have := ok_ne HOK.out
    dsimp only at h0 this
    rw [h0] at this
    simp at this
  rw [hAB] at f2
  go_wp2
  clear f0 f1 f2 fl
  go_loopg [51] ks.length (fun m i wr => ∃ (j : Nat) (ud : Value), i = .int .i64 j ∧ j + m = ks.length ∧ Hid (CnX W4 G cc s ud (K.plus deep (if j = 0 then 1 else n + 2) ((xs.map Prod.fst).take j).flatten.length (innerTot (n + 1) ks (sumN ((xs.map Prod.snd).take j)))) wr))
  case atStart => exact ⟨0, ud5, rfl, by omega, X5.out⟩
  case round =>
    clear X5
    obtain ⟨j, ud9, rfl, hj, hx⟩ := hrel
    by_cases hjn : j < ks.length
    · obtain ⟨m', hm'⟩ : ∃ m', gk = m' + 1 := ⟨gk - 1, by omega⟩
      subst hm'
      have hji : (j : Int) < (ks.length : Int) := by omega
      have hjz : (0 : Int) ≤ (j : Int) := by omega
      rcases N4.out.hK.chg hx.out.chgd HBG.out with h0 | ⟨bb2, off2, hAB2, hlt, hcell⟩
      · dsimp only at h0; rw [h0] at hjn; simp at hjn
      rw [hAB] at hAB2
      obtain ⟨rfl, rfl⟩ : bb = bb2 ∧ off = off2 := by injection hAB2 with e; injection e with e1 e2; exact ⟨e1, e2⟩
      have hxk : ks[j]? = some ks[j] := List.getElem?_eq_getElem hjn
      have hpj : j < xs.length := by rw [← HPL.out]; exact hjn
      have hpk : xs[j]? = some xs[j] := List.getElem?_eq_getElem hpj
      have z0 := hcell j _ hxk 0 _ rfl
      have z1 := hcell j _ hxk 1 _ rfl
      have hsubj := HSUB.out j _ _ hxk hpk
      obtain ⟨S, hS⟩ : ∃ S, sumN ((xs.map Prod.snd).take j) = S := ⟨_, rfl⟩
      obtain ⟨fl, hfl⟩ : ∃ fl, ((xs.map Prod.fst).take j).flatten.length = fl := ⟨_, rfl⟩
      have hS2 : Hid (sumN ((xs.map Prod.snd).take (j + 1)) = S.add xs[j].2) := by
        show _ = _
        rw [sumN_take _ j xs[j].2 (by rw [List.getElem?_map, hpk]; rfl), hS]
      have hfl2 : Hid (((xs.map Prod.fst).take (j + 1)).flatten.length = fl + xs[j].1.length) := by
        show _ = _
        rw [List.take_add_one, List.getElem?_map, hpk, List.flatten_append, List.length_append, hfl]
        simp
      have hall : Hid (S.lf + S.inn + (xs[j].2.lf + xs[j].2.inn) + 1 ≤ N.lf + N.inn) := by
        show _ ≤ _
        have h1 : sumN (xs.map Prod.snd) = (S.add xs[j].2).add (sumN ((xs.map Prod.snd).drop (j + 1))) := by
          rw [← hS2.out, ← sumN_app, List.take_append_drop]
        rw [HN.out, h1]
        show _ ≤ S.lf + xs[j].2.lf + _ + (S.inn + xs[j].2.inn + _ + 1)
        omega
      have hSok : Hid (TotOk (n + 1) fl (innerTot (n + 1) ks S)) := by
        have h1 := TotOk.sum (n := n) (xs.take j) (fun x hx => by
          obtain ⟨i, hi, hx⟩ := List.mem_iff_getElem.1 hx
          have hi2 : i < xs.length := by rw [List.length_take] at hi; omega
          refine SubN.ok (HSUB.out i _ x (List.getElem?_eq_getElem (by rw [HPL.out]; exact hi2)) ?_)
          rw [List.getElem?_eq_getElem hi2, ← hx, List.getElem_take])
        rw [List.map_take, List.map_take, hS, hfl] at h1
        exact TotOk.inner HOK.out h1
      rw [hS, hfl] at hx
      have hSv : Hid (∀ d, (if j = 0 then 1 else n + 2) ≤ d + 1 → S.cv d = 0) := fun d hd => by
        by_cases h0 : j = 0
        · subst h0
          rw [← hS]; rfl
        · rw [if_neg h0] at hd
          have := hSok.out.van (d + 1) (by omega)
          exact this
      clear hS hfl
      generalize xs[j] = px at *
      generalize ks[j] = x at *
      simp only [Nat.add_zero] at z0
      obtain ⟨W9, hW9⟩ : ∃ W, wr.alloc (.cells #[.string x.last, .int .u64 x.id] 109) = W := ⟨_, rfl⟩
      have hb9 : Below wr.heap.size wr W9 := by rw [← hW9]; exact bl_alloc (Below.refl _ wr) _
      have hz9 : W9.heap[wr.heap.size]? = some (.cells #[.string x.last, .int .u64 x.id] 109 (0, 0)) := by rw [← hW9]; exact blk_new wr _
      have y0 := blk_cell hz9 0
      have y1 := blk_cell hz9 1
      have yl := blk_lt hz9
      have X9 := Lib.hid (hx.out.below hb9)
      have T9 := Lib.hid (T4.out.chg X9.out.chgd HFG.out)
      obtain ⟨G9, ga, gb, gc⟩ := X9.out
      have GB := Lib.hid gb
      have GC := Lib.hid gc
      have HF9 : Hid (∀ i, F i → ¬ G9 i) := fun i hi hg => by
        rcases gc i hg with q | q
        · exact HFG.out i hi q
        · have h1 := T4.out.lt i hi; omega
      obtain ⟨hh, hhh⟩ : ∃ hh, (if j = 0 then 1 else n + 2) = hh := ⟨_, rfl⟩
      have hh1 : Hid (1 ≤ hh ∧ hh ≤ n + 2 ∧ max hh (n + 2) = (if j + 1 = 0 then 1 else n + 2)) := by
        have : 1 ≤ hh ∧ hh ≤ n + 2 := by rw [← hhh]; split <;> omega
        exact ⟨this.1, this.2, by rw [if_neg (by omega)]; omega⟩
      rw [hhh] at ga hSv
      have hdl9 : (K.plus deep hh fl (innerTot (n + 1) ks S)).ds.length = max K.ds.length (deep + hh) := dsP_len _ _ _ _
      have hdeep : (deep : Int) ≤ 900 := by have := HDN.out; omega
      have hdeep0 : (0 : Int) ≤ (deep : Int) := by omega
      have HC := Lib.hid (HIH.out W9 G9 ud9 _ x px.1 px.2 (deep + 1) (b + 131072 * (S.lf + (S.inn + 1))) hsubj T9.out ga HF9.out (HK.out.plus hSok.out deep hh) (by have h1 := hall.out; have h2 := HB.out; omega) (by rw [hdl9]; have := hh1.out; omega) (by rw [hdl9]; have := hh1.out; have := HD.out; have := HDN.out; omega) (by have := HDN.out; omega))
      have hbl : bb < wr.heap.size := hlt
      clear hcell hlt hxk hpj hpk hsubj hb9 hz9 ga gb gc hx X9 T9 hdl9 hhh
      go_wp2_with fail
      refine HC.out.mono ?_
      rintro e w10 ⟨rfl, ud2, hx2⟩
      rw [Cn.plus_plus _ _ _ _ _ _ _ _ _ _ hSv.out hh1.out.1 (by omega), hh1.out.2.2, ← hS2.out, ← hfl2.out] at hx2
      have X10 := Lib.hid (hx2.trans GB.out GC.out)
      clear hx2 HC GB GC HF9 y0 y1 yl z0 z1 hbl
      go_wp2
      go_roundg m'
      case measure => omega
      case rel => exact ⟨j + 1, ud2, by go_num, by omega, X10.out⟩
    · have hjj : ¬ (j : Int) < (ks.length : Int) := by omega
      have hj0 : j = ks.length := by omega
      have hkne : Hid (ks ≠ []) := by
        show _ ≠ _
        have := ok_ne HOK.out
        simpa using this
      have hfull1 : Hid ((xs.map Prod.fst).take j = xs.map Prod.fst) := List.take_of_length_le (by rw [List.length_map, ← HPL.out]; omega)
      have hfull2 : Hid ((xs.map Prod.snd).take j = xs.map Prod.snd) := List.take_of_length_le (by rw [List.length_map, ← HPL.out]; omega)
      have hjp : Hid (¬ j = 0) := fun h0 => by
        have : ks.length = 0 := by omega
        exact hkne.out (List.eq_nil_of_length_eq_zero this)
      have XF := Lib.hid hx.out
      rw [hfull1.out, hfull2.out, if_neg hjp.out, HPF.out, ← HN.out] at XF
      clear hx hjn hj0
      go_wp2
      go_ret
      exact ⟨rfl, ud9, XF.out.since B4.out⟩
theorem cwalk_calls {s p g : Nat} {F : Nat → Prop} {C : List (List Int)} {cc : Nat} : ∀ (n : Nat) (w : World) (G : Nat → Prop) (ud : Value) (K : Cn) (k : Kid) (l : List Entry) (N : Tot) (deep b : Nat), SubN C n k l N → TSt w s p g F C → CnT G cc s ud K w → (∀ i, F i → ¬ G i) → K.Le b → b + 131072 * (N.lf + N.inn) ≤ 1000000000000000 → deep ≤ K.ds.length → K.ds.length ≤ 1000 → deep + n ≤ 900 →
    Calls Tryz.prog 119 #[.pointer (some ⟨cc, 0, none⟩), .int .u64 k.id, .int .i64 deep] w fun e w' => CwR w w' G cc s (K.plus deep (n + 1) l.length N) e
  | 0, w, G, ud, K, k, l, N, deep, b, h1, h2, h3, h4, h5, h6, h7, h8, h9 => cwLeaf_calls w G ud K k l N deep b h1 h2 h3 h4 h5 h6 h7 h8 h9
  | n + 1, w, G, ud, K, k, l, N, deep, b, h1, h2, h3, h4, h5, h6, h7, h8, h9 => cwStep_calls n (cwalk_calls n) w G ud K k l N deep b h1 h2 h3 h4 h5 h6 h7 h8 h9
end Go.Proofs.YtikgplhcadomcaaGreat
