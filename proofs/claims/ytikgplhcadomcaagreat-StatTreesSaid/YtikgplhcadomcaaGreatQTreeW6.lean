/- tree.Build -/
import Derived.Test.YtikgplhcadomcaaGreatQTreeW5
import Derived.Test.YtikgplhcadomcaaGreatKN
namespace Go.Proofs.YtikgplhcadomcaaGreat
open Go.RowKit
set_option linter.unusedVariables false
set_option linter.unusedSimpArgs false
theorem rises_pw : ∀ l : List Entry, rises l = true → RiseS (l.map Entry.key)
  | [], _ => List.Pairwise.nil
  | [x], _ => by simp [RiseS]
  | x :: y :: l, h => by
    rw [rises] at h
    simp only [Bool.and_eq_true] at h
    have ih := rises_pw (y :: l) h.2
    refine List.pairwise_cons.2 ⟨fun z hz => ?_, ih⟩
    simp only [List.map_cons, List.mem_cons] at hz
    rcases hz with rfl | hz
    · exact h.1
    · have := (List.pairwise_cons.1 ih).1 z hz
      exact slt_trans h.1 this
theorem textErr_mem : ∀ l : List Entry, textErr l = 0 → ∀ x ∈ l, keyErr x.key = 0 ∧ valErr x.val = 0
  | [], _, x, h => by cases h
  | y :: l, h, x, hx => by
    unfold textErr at h
    by_cases h1 : keyErr y.key = 0
    · by_cases h2 : valErr y.val = 0
      · simp only [h1, h2, ne_eq, not_true_eq_false, if_false] at h
        rcases List.mem_cons.1 hx with rfl | hx
        · exact ⟨h1, h2⟩
        · exact textErr_mem l h x hx
      · simp only [h1, ne_eq, not_true_eq_false, if_false, h2, not_false_eq_true, if_true] at h
    · simp only [h1, ne_eq, not_false_eq_true, if_true] at h
theorem mapOk_of {l : List Entry} (h : right l = 0) (hl : l.length ≤ 60) : MapOk l := by
  unfold right at h
  by_cases ht : textErr l = 0
  · rw [if_neg (by rw [ht]; simp)] at h
    by_cases hr : rises l = true
    · exact ⟨textErr_mem l ht, rises_pw l hr, hl⟩
    · rw [if_neg hr] at h; cases h
  · rw [if_pos ht] at h; exact absurd h ht
def BuildRes (F : Nat → Prop) (w w' : World) (s p g : Nat) (C : List (List Int)) (E : List Entry) (e : Ending) : Prop := ∃ root, e = .returned (.tuple #[.int .u64 root, .int .i64 (right E)]) ∧ ((right E ≠ 0 ∧ root = 0 ∧ Below w.heap.size w w') ∨ (right E = 0 ∧ BuiltR F w w' s p g C E root (44 * E.length)))
section
variable {w : World} {s p g : Nat} {F : Nat → Prop} {C : List (List Int)}
theorem build_bad {w' : World} {E : List Entry} {e : Ending} {n : Int} (h : right E = n) (hn : n ≠ 0) (he : e = .returned (.tuple #[.int .u64 0, .int .i64 n])) (hb : Below w.heap.size w w') : BuildRes F w w' s p g C E e := ⟨0, by rw [he, h], .inl ⟨by rw [h]; exact hn, rfl, hb⟩⟩
set_option maxRecDepth 100000 in
set_option maxHeartbeats 4000000 in
theorem build_calls (h : TSt w s p g F C) (A : Option Addr) (c : Nat) (E : List Entry) (hc : E.length ≤ c) (hbig : c ≤ 9223372036854775807) (hE : Rd Entry.enc 2 w A E) (hlen : E.length ≤ 60) (hsz : ∀ x ∈ E, x.key.size ≤ 9223372036854775807 ∧ x.val.size ≤ 9223372036854775807) (hroom : endOf 1 C + 44 * E.length < 4096) :
    Calls Tryz.prog 14 #[.pointer (some ⟨s, 0, none⟩), .slice A E.length c] w fun e w' => BuildRes F w w' s p g C E e := by
  have HT := Lib.hid h
  have HE := Lib.hid hE
  have HRO := Lib.hid hroom
  have hs' := Lib.hid hsz
  clear h hE hsz hroom
  go_enter Tryz.func14, Tryz.ntmps14
  go_wp2
  go_loopg [15] E.length (fun m i wr => ∃ k : Nat, i = .int .i64 k ∧ k + m = E.length ∧ Hid (textErr E = textErr (E.drop k)) ∧ Hid (Below w.heap.size w wr))
  case atStart => exact ⟨0, rfl, by omega, rfl, Below.refl _ _⟩
  case round =>
    obtain ⟨k, rfl, hk, hg, hb⟩ := hrel
    by_cases hlt : k < E.length
    · obtain ⟨m', hm'⟩ : ∃ m', gk = m' + 1 := ⟨gk - 1, by omega⟩
      subst hm'
      have hki : (k : Int) < (E.length : Int) := by omega
      have hkz : (0 : Int) ≤ (k : Int) := by omega
      rcases HE.out.below hb.out (Nat.le_refl _) with h0 | ⟨b, off, rfl, hbl, hcc⟩
      · simp [h0] at hlt
      have c0 : wr.cell? ⟨b, off + k * 2, none⟩ = some (.string E[k].key) := hcc k E[k] (by simp [hlt]) 0 _ rfl
      have c1 : wr.cell? ⟨b, off + k * 2 + 1, none⟩ = some (.string E[k].val) := hcc k E[k] (by simp [hlt]) 1 _ rfl
      have hd : E.drop k = E[k] :: E.drop (k + 1) := by simp
      obtain ⟨s0, s1⟩ := hs'.out E[k] (List.getElem_mem _)
      have hkz1 : Hid (E[k].key = E[k].key) := rfl
      clear hcc
      obtain ⟨xk, hxk⟩ : ∃ xk, E[k].key = xk := ⟨_, rfl⟩
      obtain ⟨xv, hxv⟩ : ∃ xv, E[k].val = xv := ⟨_, rfl⟩
      have hte : Hid (textErr E = if keyErr xk ≠ 0 then keyErr xk else if valErr xv ≠ 0 then valErr xv else textErr (E.drop (k + 1))) := by
        show _ = _
        rw [hg.out, hd]
        simp only [textErr, hxk, hxv]
      rw [hxk] at c0 s0
      rw [hxv] at c1 s1
      have B2 := Lib.hid (bl_alloc hb.out (.cells #[.string xk, .string xv] 113))
      clear hd hxk hxv hkz1 hg
      by_cases h1 : keyErr xk = 0
      · have H1 := Lib.hid h1
        by_cases h2 : valErr xv = 0
        · have H2 := Lib.hid h2
          have hg' : Hid (textErr E = textErr (E.drop (k + 1))) := by show _ = _; rw [hte.out, if_neg (by rw [h1]; simp), if_neg (by rw [h2]; simp)]
          clear h1 h2 hte
          go_wp2_with fail
          refine (nodeKey_calls _ _ s0).mono ?_
          rintro e w1 ⟨rfl, rfl⟩
          rw [H1.out]
          go_wp2_with fail
          refine (nodeVal_calls _ _ s1).mono ?_
          rintro e w1 ⟨rfl, rfl⟩
          rw [H2.out]
          go_wp2
          go_roundg m'
          case measure => omega
          case rel => exact ⟨k + 1, by go_num, by omega, hg', B2.out⟩
        · have h2' := (valErr_or xv).resolve_left h2
          have H2 := Lib.hid h2'
          have hv : Hid (right E = 101) := by
            have : textErr E = 101 := by rw [hte.out, if_neg (by rw [h1]; simp), if_pos h2, h2']
            show _ = _; simp [right, this]
          clear h1 h2 h2' hte
          go_wp2_with fail
          refine (nodeKey_calls _ _ s0).mono ?_
          rintro e w1 ⟨rfl, rfl⟩
          rw [H1.out]
          go_wp2_with fail
          refine (nodeVal_calls _ _ s1).mono ?_
          rintro e w1 ⟨rfl, rfl⟩
          rw [H2.out]
          go_wp2
          go_ret2
          exact build_bad hv.out (by simp) rfl B2.out
      · have h1' := (keyErr_or xk).resolve_left h1
        have H1 := Lib.hid h1'
        have hv : Hid (right E = 100) := by
          have : textErr E = 100 := by rw [hte.out, if_pos h1, h1']
          show _ = _; simp [right, this]
        clear h1 h1' hte
        go_wp2_with fail
        refine (nodeKey_calls _ _ s0).mono ?_
        rintro e w1 ⟨rfl, rfl⟩
        rw [H1.out]
        go_wp2
        go_ret2
        exact build_bad hv.out (by simp) rfl B2.out
    · have ht : Hid (textErr E = 0) := by show _ = _; rw [hg.out, List.drop_of_length_le (by omega)]; rfl
      have hkk : ¬ (k : Int) < (E.length : Int) := by omega
      clear hlt hg hk
      go_wp2
      go_loopg [10] E.length (fun m i wr => ∃ k : Nat, i = .int .i64 ((k : Int) + 1) ∧ k + m = E.length ∧ Hid (∀ (i : Nat) (h : i + 1 < E.length), i + 1 < k + 1 → slt E[i].key E[i + 1].key = true) ∧ Hid (Below w.heap.size w wr))
      case atStart => exact ⟨0, by go_num, by omega, fun i _ h => by omega, hb.out⟩
      case round =>
        clear hb
        obtain ⟨k, rfl, hk, hg, hb⟩ := hrel
        by_cases hlt : k + 1 < E.length
        · obtain ⟨m', hm'⟩ : ∃ m', gk = m' + 1 := ⟨gk - 1, by omega⟩
          subst hm'
          rcases HE.out.below hb.out (Nat.le_refl _) with h0 | ⟨b, off, rfl, hbl, hcc⟩
          · simp [h0] at hlt
          have hki : ((k : Int) + 1) < (E.length : Int) := by omega
          have c0 : wr.cell? ⟨b, off + k * 2, none⟩ = some (.string E[k].key) := hcc k E[k] (List.getElem?_eq_getElem (by omega)) 0 _ rfl
          have c1 : wr.cell? ⟨b, off + (k + 1) * 2, none⟩ = some (.string E[k + 1].key) := hcc (k + 1) E[k + 1] (by simp) 0 _ rfl
          clear hcc
          by_cases hq : slt E[k].key E[k + 1].key = true
          · have hq' : Op.bytesLess E[k].key.toList E[k + 1].key.toList = true := hq
            have hg' : Hid (∀ (i : Nat) (h : i + 1 < E.length), i + 1 < k + 1 + 1 → slt E[i].key E[i + 1].key = true) := fun i hi h => by
              by_cases e : i = k
              · subst e; exact hq
              · exact hg.out i hi (by omega)
            have hbd := Lib.hid (bl_drewN hb.out 1)
            clear hq hg
            go_wp2
            go_quiet (fail)
            go_wp2
            go_roundg m'
            case measure => omega
            case rel => exact ⟨k + 1, by go_num, by omega, hg', bl_drewN hb.out _⟩
          · have hq' : Op.bytesLess E[k].key.toList E[k + 1].key.toList = false := by unfold slt at hq; simpa using hq
            have hv : Hid (right E = 90) := by
              have hr : rises E = false := by
                rw [Bool.eq_false_iff]
                intro e
                exact hq ((rises_iff E).1 e k hlt)
              show _ = _; simp [right, ht.out, hr]
            clear hq hg
            go_wp2
            go_quiet (fail)
            go_wp2
            go_ret2
            exact build_bad hv.out (by simp) rfl (bl_drewN hb.out _)
        · have hr : rises E = true := by rw [rises_iff]; intro i hi; exact hg.out i hi (by omega)
          have hv : Hid (right E = 0) := by show _ = _; simp [right, ht.out, hr]
          have HM := Lib.hid (mapOk_of hv.out hlen)
          have hT2 := HT.out.below hb.out
          have HL := Lib.hid (leaves_calls hT2 A c E hc hbig (HE.out.below hb.out (Nat.le_refl _)) HM.out (by have := HRO.out; omega))
          have hkk2 : ¬ ((k : Int) + 1) < (E.length : Int) := by omega
          clear hlt hg hr hT2 hk
          go_wp2_with fail
          refine HL.out.mono ?_
          rintro e w3 ⟨u, rfl, F3, d1, d2, d3, d4, d5⟩
          obtain ⟨A3, c3, rfl, j1, j2, j3, -⟩ := d4.rd Kid.ok
          have hT3 : Tower (putNs C (leafNs (splitE E))).2 [(putNs C (leafNs (splitE E))).1] E := putNs_ok (leafNs (splitE E)) C (fun n hn => (leaf_ok HM.out n hn).right)
          have hr3 := room_ns (leafNs (splitE E)) C (leaf_ok HM.out)
          rw [cost_leaf, splitE_flat] at hr3
          have hro := HRO.out
          have hkl : (putNs C (leafNs (splitE E))).1.length ≤ E.length := by rw [putNs_len]; unfold leafNs; rw [List.length_map]; exact splitAll_len _ _
          have HRA := Lib.hid (raise_calls d1 A3 c3 E _ j1 j2 j3 (leaf_good HM.out hT3) hT3 (by omega))
          have HX : Hid (Chg F w w3 ∧ (∀ i, F3 i → F i ∨ w.heap.size ≤ i) ∧ endOf 1 (putNs C (leafNs (splitE E))).2 ≤ endOf 1 C + 4 * E.length ∧ ((putNs C (leafNs (splitE E))).1.length ≤ E.length)) := ⟨(Below.chg hb.out F).trans d2 (fun _ _ h => h), fun i hi => (d3 i hi).imp_right (Nat.le_trans hb.out.size), by omega, hkl⟩
          clear d1 d2 d3 d4 d5 j1 j2 j3 hT3 hr3 hro HL hkl
          go_wp2_with fail
          refine HRA.out.mono ?_
          rintro e w4 ⟨root, rfl, hbt⟩
          have HB := Lib.hid hbt
          clear hbt HRA
          go_wp2
          go_ret2
          refine ⟨root, by rw [hv.out]; rfl, .inr ⟨hv.out, ?_⟩⟩
          obtain ⟨F4, C4, t1, t2, t3, t4, t5, t6⟩ := HB.out
          obtain ⟨x1, x2, x3, x4⟩ := HX.out
          refine ⟨F4, C4, t1, x1.trans t2 (fun i hi hf => by rcases x2 i hf with q | q; exact q; omega), fun i hi => ?_, (putNs_more _ _).trans t4, by omega, t6⟩
          rcases t3 i hi with q | q
          · exact x2 i q
          · exact .inr (Nat.le_trans x1.size q)
end
end Go.Proofs.YtikgplhcadomcaaGreat
