/- patch.Join -/
import Derived.Test.YtofdmkglhjpbcaaPatchR
import Derived.Test.YtofdmkglhjpbcaaPatchLaw2
import Derived.Test.YtofdmkglhjpbcaaSortK
import Derived.Test.YtofdmkglhjpbcaaSides
import Derived.Deep.RegionHeld3
namespace Go.Proofs.Ytofdmkglhjpbcaa
open Go.RowKit Go.Maps
set_option linter.unusedVariables false
set_option linter.unusedSimpArgs false

def chV (c : Change) : Value := .agg #[.string c.key, .bool c.had, .string c.was, .bool c.has, .string c.now]
def noChg : Change := ⟨⟨#[]⟩, false, ⟨#[]⟩, false, ⟨#[]⟩⟩
theorem infoChJ : (Try.prog.info? 35).map (fun i => (i.zero, i.size, i.bytes)) = some (some (.agg #[.string ⟨#[]⟩, .bool false, .string ⟨#[]⟩, .bool false, .string ⟨#[]⟩]), 5, 64) := by kernel_rfl
theorem ckeys_take {l : List Change} {k : Nat} : ckeys (l.take k) = (ckeys l).take k := by unfold ckeys; rw [List.map_take]
theorem srt_take {l : List Change} (h : Srt (ckeys l)) (k : Nat) : Srt (ckeys (l.take k)) := by rw [ckeys_take]; exact h.sublist (List.take_sublist _ _)
theorem not_before {l : List Change} (h : Srt (ckeys l)) {k : Nat} {c : Change} (hx : l[k]? = some c) : chOf (l.take k) c.key = none := by
  rw [chOf_none]
  intro hm
  have h1 : l.take (k + 1) = l.take k ++ [c] := by rw [List.take_add_one, hx]; rfl
  have h2 := srt_take h (k + 1)
  rw [h1] at h2
  unfold ckeys Srt at h2
  rw [List.map_append, List.pairwise_append] at h2
  have := h2.2.2 c.key hm c.key (by simp)
  rw [slt_irrefl] at this
  cases this
theorem chOf_snoc (l : List Change) (c : Change) (k : Str) : chOf (l ++ [c]) k = (chOf l k).or (if k = c.key then some c else none) := by
  unfold chOf
  rw [List.find?_append]
  congr 1
  simp only [List.find?_cons, List.find?_nil]
  by_cases h : c.key = k
  · rw [decide_eq_true h, if_pos h.symm]
  · rw [decide_eq_false h, if_neg (fun e => h e.symm)]
theorem chOf_put {l : List Change} (h : Srt (ckeys l)) {k : Nat} {c : Change} (hx : l[k]? = some c) : gput (chOf (l.take k)) c.key c = chOf (l.take (k + 1)) := by
  have h1 : l.take (k + 1) = l.take k ++ [c] := by rw [List.take_add_one, hx]; rfl
  funext x
  rw [h1, chOf_snoc]
  unfold gput
  by_cases hk : x = c.key
  · subst hk
    rw [if_pos rfl, if_pos rfl, not_before h hx]; rfl
  · rw [if_neg hk, if_neg hk]; simp
theorem joinAt_nil (p : List Change) : joinAt p [] = chOf p := by
  funext k
  unfold joinAt
  show (match chOf p k, none with | some x, some y => some (joinC x y) | some x, none => some x | none, some y => some y | none, none => none) = _
  cases chOf p k <;> rfl
def mergedC (p : List Change) (c : Change) : Change := match chOf p c.key with | some x => ⟨c.key, x.had, x.was, c.has, c.now⟩ | none => c
theorem joinAt_put {p q : List Change} (h : Srt (ckeys q)) {k : Nat} {c : Change} (hx : q[k]? = some c) : gput (joinAt p (q.take k)) c.key (mergedC p c) = joinAt p (q.take (k + 1)) := by
  have h1 : q.take (k + 1) = q.take k ++ [c] := by rw [List.take_add_one, hx]; rfl
  funext x
  unfold joinAt gput mergedC
  rw [h1, chOf_snoc]
  by_cases hk : x = c.key
  · subst hk
    rw [if_pos rfl, if_pos rfl, not_before h hx]
    cases hp : chOf p c.key with
    | none => rfl
    | some y => simp [joinC, (chOf_some hp).2]
  · rw [if_neg hk, if_neg hk]; simp
theorem joinAt_here {p q : List Change} (h : Srt (ckeys q)) {k : Nat} {c : Change} (hx : q[k]? = some c) : joinAt p (q.take k) c.key = chOf p c.key := by
  unfold joinAt
  rw [not_before h hx]
  cases chOf p c.key <;> rfl
theorem joinAt_some (p q : List Change) (k : Str) : (joinAt p q k).isSome = true ↔ k ∈ ckeys p ∨ k ∈ ckeys q := by
  unfold joinAt
  have h1 := chOf_none (l := p) (k := k)
  have h2 := chOf_none (l := q) (k := k)
  cases hp : chOf p k <;> cases hq : chOf q k <;> simp [hp, hq] at h1 h2 ⊢ <;> simp_all
theorem look_chg {W : World} {g n : Nat} {f : Str → Option Change} (h : MapG Try.prog 9 chV W g n f) (key : Str) (hk : key.size ≤ maxLen) :
    (Instr.lookup 115 (.map (some g)) (.string key) false).run Try.prog W = .ok (chV ((f key).getD noChg)) W :=
  h.look Try.underlying9 115 Try.underlying115 noChg (Try.zeroValue35 W) key hk
theorem look_chg_ok {W : World} {g n : Nat} {f : Str → Option Change} (h : MapG Try.prog 9 chV W g n f) (key : Str) (hk : key.size ≤ maxLen) :
    (Instr.lookup 115 (.map (some g)) (.string key) true).run Try.prog W = .ok (.tuple #[chV ((f key).getD noChg), .bool (f key).isSome]) W :=
  h.look_ok Try.underlying9 115 Try.underlying115 noChg (Try.zeroValue35 W) key hk
theorem joinL_len (p q : List Change) (k : Str) : (joinL p q k).length ≤ 1 := by
  unfold joinL movesOf
  split
  · split <;> simp
  · simp
theorem take_flatC {f : Str → List Change} {ks : List Str} {k : Nat} {x : Str} (h : ks[k]? = some x) : (ks.take (k + 1)).flatMap f = (ks.take k).flatMap f ++ f x := by
  rw [List.take_add_one, h]; simp [List.flatMap_append]
theorem joinKeys_len (p q : List Change) : (joinKeys p q).length ≤ p.length + q.length := by
  have ks : ∀ (l : List Entry) (acc : List Str), (keysIn acc l).length ≤ acc.length + l.length := by
    intro l
    induction l with
    | nil => intro acc; simp [keysIn]
    | cons x l ih =>
      intro acc
      have h2 := insKey_len acc x.key
      have h1 := ih (insKey acc x.key)
      have e : keysIn acc (x :: l) = keysIn (insKey acc x.key) l := rfl
      rw [e]
      simp
      omega
  have := ks ((p ++ q).map entC) []
  have e : joinKeys p q = keysIn [] ((p ++ q).map entC) := rfl
  rw [e]
  simpa using this
abbrev SmC (l : List Change) : Prop := ∀ x ∈ l, x.key.size ≤ 9223372036854775807 ∧ x.was.size ≤ 9223372036854775807 ∧ x.now.size ≤ 9223372036854775807

set_option maxRecDepth 100000 in
set_option maxHeartbeats 4000000 in
theorem PJoin_calls (w : World) (A B : Option Addr) (c d : Nat) (p q : List Change) (lp : p.length ≤ 1000) (lq : q.length ≤ 1000) (zp : SmC p) (zq : SmC q) (hA : Rd Change.enc 5 w A p) (hB : Rd Change.enc 5 w B q) :
    Calls Try.prog 39 #[.slice A p.length c, .slice B q.length d] w fun e w' => ∃ v, e = .returned (.tuple #[v, .int .i64 (patchJoin p q).2]) ∧ Own Change.enc 5 35 w.heap.size w' v (patchJoin p q).1 ∧ Below w.heap.size w w' := by
  have HA := Lib.hid hA
  have HB := Lib.hid hB
  have ZP := Lib.hid zp
  have ZQ := Lib.hid zq
  have hmm := @run_makeMap Try.prog
  clear hA hB zp zq
  by_cases e1 : patchErr p = 0
  rotate_left
  · have hv : Hid (patchJoin p q = ([], patchErr p)) := if_pos e1
    have hnb : (patchErr p != 0) = true := by simpa using e1
    clear e1
    go_enter Try.func39, Try.ntmps39
    go_wp2_with fail
    refine (Right_calls28 _ A c p (by omega) ZP.out HA.out).mono ?_
    rintro e w1 ⟨rfl, hb1⟩
    generalize patchErr p = pe at *
    go_wp2
    go_ret2
    exact ⟨.slice none 0 0, by rw [hv.out]; rfl, by rw [hv.out]; exact Own.nil, hb1⟩
  have E1 := Lib.hid e1
  by_cases e2 : patchErr q = 0
  rotate_left
  · have hv : Hid (patchJoin p q = ([], patchErr q)) := by show _ = _; unfold patchJoin; rw [if_neg (by simp [e1]), if_pos e2]
    have hnb : (patchErr q != 0) = true := by simpa using e2
    clear e1 e2
    go_enter Try.func39, Try.ntmps39
    go_wp2_with fail
    refine (Right_calls28 _ A c p (by omega) ZP.out HA.out).mono ?_
    rintro e w1 ⟨rfl, hb1⟩
    rw [E1.out]
    have B1 := Lib.hid hb1
    clear hb1
    go_wp2_with fail
    refine (Right_calls28 _ B d q (by omega) ZQ.out (HB.out.below B1.out (Nat.le_refl _))).mono ?_
    rintro e w2 ⟨rfl, hb2⟩
    have B2 := Lib.hid (bl_then B1.out B1.out.size hb2)
    clear hb2
    generalize patchErr q = pe at *
    go_wp2
    go_ret2
    exact ⟨.slice none 0 0, by rw [hv.out]; rfl, by rw [hv.out]; exact Own.nil, B2.out⟩
  have E2 := Lib.hid e2
  have SP := Lib.hid (patch_ok.1 e1).2
  have SQ := Lib.hid (patch_ok.1 e2).2
  clear e1 e2
  go_enter Try.func39, Try.ntmps39
  go_wp2_with fail
  refine (Right_calls28 _ A c p (by omega) ZP.out HA.out).mono ?_
  rintro e w1 ⟨rfl, hb1⟩
  rw [E1.out]
  have B1 := Lib.hid hb1
  clear hb1
  go_wp2_with fail
  refine (Right_calls28 _ B d q (by omega) ZQ.out (HB.out.below B1.out (Nat.le_refl _))).mono ?_
  rintro e w2 ⟨rfl, hb2⟩
  rw [E2.out]
  have B2 := Lib.hid (bl_then B1.out B1.out.size hb2)
  clear hb2 B1
  have hm0 : Hid (MapG Try.prog 9 chV (w2.alloc (.map #[] 0)) w2.heap.size 0 (chOf (p.take 0))) := MapG.made w2
  have hb0 : Hid (Below w2.heap.size w2 (w2.alloc (.map #[] 0))) := bl_alloc (Below.refl _ _) _
  go_wp2
  go_loopg [32] p.length (fun n i wr => ∃ k : Nat, i = .int .i64 k ∧ k + n = p.length ∧ Hid (MapG Try.prog 9 chV wr w2.heap.size k (chOf (p.take k))) ∧ Hid (Below w2.heap.size w2 wr))
  case atStart => exact ⟨0, rfl, by omega, hm0.out, hb0.out⟩
  case round =>
    obtain ⟨k, rfl, hk, hm, hb⟩ := hrel
    have hbw := Lib.hid (bl_then B2.out B2.out.size hb.out)
    by_cases hlt : k < p.length
    · obtain ⟨n', hn'⟩ : ∃ n', gk = n' + 1 := ⟨gk - 1, by omega⟩
      subst hn'
      rcases HA.out.below hbw.out (Nat.le_refl _) with h0 | ⟨b, off, rfl, hbl, hc⟩
      · simp [h0] at hlt
      have hx := List.getElem?_eq_getElem hlt
      have c0 : wr.cell? ⟨b, off + k * 5, none⟩ = some (.string p[k].key) := hc k p[k] hx 0 _ rfl
      have c1 : wr.cell? ⟨b, off + k * 5 + 1, none⟩ = some (.bool p[k].had) := hc k p[k] hx 1 _ rfl
      have c2 : wr.cell? ⟨b, off + k * 5 + 2, none⟩ = some (.string p[k].was) := hc k p[k] hx 2 _ rfl
      have c3 : wr.cell? ⟨b, off + k * 5 + 3, none⟩ = some (.bool p[k].has) := hc k p[k] hx 3 _ rfl
      have c4 : wr.cell? ⟨b, off + k * 5 + 4, none⟩ = some (.string p[k].now) := hc k p[k] hx 4 _ rfl
      have hput := Lib.hid (chOf_put SP.out hx)
      obtain ⟨s0, -, -⟩ := ZP.out p[k] (List.getElem_mem hlt)
      generalize p[k] = x at *
      obtain ⟨key, had, was, has, now⟩ := x
      simp only at c0 c1 c2 c3 c4 s0 hput
      have KS : Hid (key.size ≤ maxLen) := by show _ ≤ _; unfold maxLen; exact s0
      have KM : Hid (k < maxLen) := by show _ < _; unfold maxLen; omega
      have hm2 := Lib.hid (hm.out.kept (World.grownBy_alloc wr (.cells #[.string key, .bool had, .string was, .bool has, .string now] 35) none) (by simp))
      have hb2 := Lib.hid (bl_alloc hb.out (.cells #[.string key, .bool had, .string was, .bool has, .string now] 35))
      clear hc hx s0
      go_wp2_with (at_mapUpdate; refine gmput _ Try.underlying9 rfl _ _ _ 115 rfl Try.underlying115 w2.heap.size k _ rfl hm2.out KM.out key ⟨key, had, was, has, now⟩ rfl rfl KS.out ?_; intro w3 hm3 hg3)
      go_roundg n'
      case measure => omega
      case rel =>
        refine ⟨k + 1, by go_num, by omega, by show MapG _ _ _ _ _ _ _; rw [← hput.out]; exact hm3, ?_⟩
        exact hb2.out.grown hg3 hb2.out.size (fun k e => by cases e; exact Nat.le_refl _)
    · have hk' : k = p.length := by omega
      subst hk'
      have hm2 : Hid (MapG Try.prog 9 chV wr w2.heap.size (p.length + 0) (joinAt p (q.take 0))) := by
        show MapG _ _ _ _ _ _ _
        have := hm.out
        rw [List.take_length] at this
        rw [List.take_zero, joinAt_nil]
        exact this
      have hb2 := hb
      clear hm hb hlt hk hm0 hb0 hbw
      go_wp2
      go_loopg [43] q.length (fun n i wr => ∃ k : Nat, i = .int .i64 k ∧ k + n = q.length ∧ Hid (∀ j c, j < k → q[j]? = some c → badC p c = false) ∧ Hid (MapG Try.prog 9 chV wr w2.heap.size (p.length + k) (joinAt p (q.take k))) ∧ Hid (Below w2.heap.size w2 wr))
      case atStart => exact ⟨0, rfl, by omega, fun j c h => by omega, hm2.out, hb2.out⟩
      case round =>
        obtain ⟨k, rfl, hk, hf, hm, hb⟩ := hrel
        have hbw := Lib.hid (bl_then B2.out B2.out.size hb.out)
        by_cases hlt : k < q.length
        · obtain ⟨n', hn'⟩ : ∃ n', gk = n' + 1 := ⟨gk - 1, by omega⟩
          subst hn'
          rcases HB.out.below hbw.out (Nat.le_refl _) with h0 | ⟨b, off, rfl, hbl, hc⟩
          · simp [h0] at hlt
          have hx := List.getElem?_eq_getElem hlt
          have c0 : wr.cell? ⟨b, off + k * 5, none⟩ = some (.string q[k].key) := hc k q[k] hx 0 _ rfl
          have c1 : wr.cell? ⟨b, off + k * 5 + 1, none⟩ = some (.bool q[k].had) := hc k q[k] hx 1 _ rfl
          have c2 : wr.cell? ⟨b, off + k * 5 + 2, none⟩ = some (.string q[k].was) := hc k q[k] hx 2 _ rfl
          have c3 : wr.cell? ⟨b, off + k * 5 + 3, none⟩ = some (.bool q[k].has) := hc k q[k] hx 3 _ rfl
          have c4 : wr.cell? ⟨b, off + k * 5 + 4, none⟩ = some (.string q[k].now) := hc k q[k] hx 4 _ rfl
          have hput := Lib.hid (joinAt_put (p := p) SQ.out hx)
          have hhere := Lib.hid (joinAt_here (p := p) SQ.out hx)
          have hmem := Lib.hid (List.getElem_mem hlt)
          obtain ⟨s0, -, -⟩ := ZQ.out q[k] (List.getElem_mem hlt)
          have HX := Lib.hid hx
          generalize q[k] = x at *
          obtain ⟨key, had, was, has, now⟩ := x
          simp only at c0 c1 c2 c3 c4 s0 hput hhere
          have KS : Hid (key.size ≤ maxLen) := by show _ ≤ _; unfold maxLen; exact s0
          have KM : Hid (p.length + k < maxLen) := by show _ < _; unfold maxLen; omega
          have hm3 := Lib.hid (hm.out.kept (World.grownBy_alloc wr (.cells #[.string key, .bool had, .string was, .bool has, .string now] 35) none) (by simp))
          have hb3 : Hid (Below w.heap.size w (wr.alloc (.cells #[.string key, .bool had, .string was, .bool has, .string now] 35))) := bl_alloc hbw.out _
          have lk := look_chg_ok hm3.out key KS.out
          rw [hhere.out] at lk
          have hbd : Hid (badC p ⟨key, had, was, has, now⟩ = match chOf p key with | some x => !(decide (x.has = had) && decide (x.now = was)) | none => false) := rfl
          have hmg : Hid (mergedC p ⟨key, had, was, has, now⟩ = match chOf p key with | some x => ⟨key, x.had, x.was, has, now⟩ | none => ⟨key, had, was, has, now⟩) := rfl
          clear hc hx s0
          cases ho : chOf p key with
          | none =>
            rw [ho] at lk hbd hmg
            unfold chV noChg at lk
            simp only [Option.getD_none, Option.isSome_none] at lk
            have hbd2 : Hid (badC p ⟨key, had, was, has, now⟩ = false) := hbd.out
            have hmg2 : Hid (mergedC p ⟨key, had, was, has, now⟩ = ⟨key, had, was, has, now⟩) := hmg.out
            have hm4 := Lib.hid (hm3.out.kept (World.grownBy_alloc _ (.cells #[.string ⟨#[]⟩, .bool false, .string ⟨#[]⟩, .bool false, .string ⟨#[]⟩] 35) none) (by simp))
            have hb4 := Lib.hid (bl_alloc (bl_alloc hb.out (.cells #[.string key, .bool had, .string was, .bool has, .string now] 35)) (.cells #[.string ⟨#[]⟩, .bool false, .string ⟨#[]⟩, .bool false, .string ⟨#[]⟩] 35))
            clear ho hbd hmg
            go_wp2_with (at_mapUpdate; refine gmput _ Try.underlying9 rfl _ _ _ 115 rfl Try.underlying115 w2.heap.size _ _ rfl hm4.out KM.out key ⟨key, had, was, has, now⟩ rfl rfl KS.out ?_; intro w3 hm5 hg3)
            go_roundg n'
            case measure => omega
            case rel =>
              refine ⟨k + 1, by go_num, by omega, fun j c hj hc => ?_, by show MapG _ _ _ _ _ _ _; rw [← hput.out, hmg2.out]; exact hm5, ?_⟩
              · by_cases e : j = k
                · subst e; rw [HX.out] at hc; cases hc; exact hbd2.out
                · exact hf.out j c (by omega) hc
              · exact hb4.out.grown hg3 hb4.out.size (fun k e => by cases e; exact Nat.le_refl _)
          | some y =>
            rw [ho] at lk hbd hmg
            obtain ⟨ok, oh, ow, os, on⟩ := y
            unfold chV at lk
            simp only [Option.getD_some, Option.isSome_some] at lk
            have hbd2 : Hid (badC p ⟨key, had, was, has, now⟩ = !(decide (os = had) && decide (on = was))) := hbd.out
            have hmg2 : Hid (mergedC p ⟨key, had, was, has, now⟩ = ⟨key, oh, ow, has, now⟩) := hmg.out
            clear ho hbd hmg
            by_cases f1 : os = had
            rotate_left
            · have g1 : (os == had) = false := by simpa using f1
              have hp : Hid (patchJoin p q = ([], 170)) := join_bad E1.out E2.out hmem.out (by rw [hbd2.out]; simp [f1])
              go_wp2
              go_ret2
              exact ⟨.slice none 0 0, by rw [hp.out]; rfl, by rw [hp.out]; exact Own.nil, bl_alloc hb3.out _⟩
            subst f1
            by_cases f2 : on = was
            rotate_left
            · have g2 : (on.toList == was.toList) = false := by rw [toList_beq]; exact decide_eq_false f2
              have hp : Hid (patchJoin p q = ([], 170)) := join_bad E1.out E2.out hmem.out (by rw [hbd2.out]; simp [f2])
              clear f2
              go_wp2
              go_ret2
              exact ⟨.slice none 0 0, by rw [hp.out]; rfl, by rw [hp.out]; exact Own.nil, bl_alloc hb3.out _⟩
            subst f2
            have hbd3 : Hid (badC p ⟨key, os, on, has, now⟩ = false) := by show _ = _; rw [hbd2.out]; simp
            clear hbd2
            have hC0 : Hid (((wr.alloc (.cells #[.string key, .bool os, .string on, .bool has, .string now] 35)).alloc (.cells #[.string ok, .bool oh, .string ow, .bool os, .string on] 35)).heap[wr.heap.size]? = some (.cells #[.string key, .bool os, .string on, .bool has, .string now] 35)) := blk_alloc (blk_new _ _) _
            have hO0 : Hid (((wr.alloc (.cells #[.string key, .bool os, .string on, .bool has, .string now] 35)).alloc (.cells #[.string ok, .bool oh, .string ow, .bool os, .string on] 35)).heap[wr.heap.size + 1]? = some (.cells #[.string ok, .bool oh, .string ow, .bool os, .string on] 35)) := by
              have := blk_new (wr.alloc (.cells #[.string key, .bool os, .string on, .bool has, .string now] 35)) (.cells #[.string ok, .bool oh, .string ow, .bool os, .string on] 35)
              rw [World.size_alloc] at this
              exact this
            have hBB0 : Hid (Below wr.heap.size wr ((wr.alloc (.cells #[.string key, .bool os, .string on, .bool has, .string now] 35)).alloc (.cells #[.string ok, .bool oh, .string ow, .bool os, .string on] 35))) := bl_alloc (bl_alloc (Below.refl _ _) _) _
            go_wp2_with fail
            obtain ⟨W2, hW2⟩ : ∃ W, W = (wr.alloc (.cells #[.string key, .bool os, .string on, .bool has, .string now] 35)).alloc (.cells #[.string ok, .bool oh, .string ow, .bool os, .string on] 35) := ⟨_, rfl⟩
            rw [← hW2] at hC0 hO0 hBB0
            rw [← hW2]
            obtain ⟨N, hN⟩ : ∃ N, N = wr.heap.size := ⟨_, rfl⟩
            rw [← hN] at hC0 hO0 hBB0
            rw [← hN]
            have hC := hC0
            have hO := hO0
            have hBB := hBB0
            have HN := Lib.hid hN
            clear hC0 hO0 hBB0 hW2 hN lk c0 c1 c2 c3 c4
            refine wp_region_noPanic ?_
            refine wp_region_held_drew (S := (fun W' => Hid ((W'.heap[N + 1]? = some (.cells #[.string ok, .bool oh, .string ow, .bool os, .string on] 35) ∧ ∃ h v, W'.heap[N]? = some (.cells #[.string key, h, v, .bool has, .string now] 35)) ∧ Below N wr W'))) (by kernel_rfl) (⟨⟨hO.out, _, _, hC.out⟩, hBB.out.drew⟩) (fun hHeld => ?_)
            refine wpAnyH_take (i := 0) (oi := ⟨some 67, _, _, _, _, _⟩) (v := ?_) rfl (by kernel_rfl) (by kernel_rfl) (by kernel_rfl) (fun _ _ _ h => h) (Or.inl ⟨by rfl, ?_⟩) (by assumption) ?_
            rotate_left
            · (intro w hSw; (try dsimp only at hSw); have y := hSw.out.1.1; have y1 : w.cell? ⟨N + 1, 1, none⟩ = some (.bool oh) := (by rw [blk_cell y]; rfl); have y2 : w.cell? ⟨N + 1, 2, none⟩ = some (.string ow) := (by rw [blk_cell y]; rfl); clear y; (go_simp <;> with_reducible rfl))
            try simp only [Act.put, List.setIfInBounds_toArray, List.set_cons_zero, List.set_cons_succ]
            refine wpAnyH_take (i := 1) (oi := ⟨some 68, _, _, _, _, _⟩) (v := ?_) rfl (by kernel_rfl) (by kernel_rfl) (by kernel_rfl) (fun _ _ _ h => h) (Or.inl ⟨by rfl, ?_⟩) (by assumption) ?_
            rotate_left
            · (intro w hSw; (try dsimp only at hSw); have y := hSw.out.1.1; have y1 : w.cell? ⟨N + 1, 1, none⟩ = some (.bool oh) := (by rw [blk_cell y]; rfl); have y2 : w.cell? ⟨N + 1, 2, none⟩ = some (.string ow) := (by rw [blk_cell y]; rfl); clear y; (go_simp <;> with_reducible rfl))
            try simp only [Act.put, List.setIfInBounds_toArray, List.set_cons_zero, List.set_cons_succ]
            refine wpAnyH_take (i := 2) (oi := ⟨some 69, _, _, _, _, _⟩) (v := ?_) rfl (by kernel_rfl) (by kernel_rfl) (by kernel_rfl) (fun _ _ _ h => h) (Or.inl ⟨by rfl, ?_⟩) (by assumption) ?_
            rotate_left
            · (intro w hSw; (try dsimp only at hSw); have y := hSw.out.1.1; have y1 : w.cell? ⟨N + 1, 1, none⟩ = some (.bool oh) := (by rw [blk_cell y]; rfl); have y2 : w.cell? ⟨N + 1, 2, none⟩ = some (.string ow) := (by rw [blk_cell y]; rfl); clear y; (go_simp <;> with_reducible rfl))
            try simp only [Act.put, List.setIfInBounds_toArray, List.set_cons_zero, List.set_cons_succ]
            refine wpAnyH_take (i := 3) (oi := ⟨some 70, _, _, _, _, _⟩) (v := ?_) rfl (by kernel_rfl) (by kernel_rfl) (by kernel_rfl) (fun _ _ _ h => h) (Or.inl ⟨by rfl, ?_⟩) (by assumption) ?_
            rotate_left
            · (intro w hSw; (try dsimp only at hSw); have y := hSw.out.1.1; have y1 : w.cell? ⟨N + 1, 1, none⟩ = some (.bool oh) := (by rw [blk_cell y]; rfl); have y2 : w.cell? ⟨N + 1, 2, none⟩ = some (.string ow) := (by rw [blk_cell y]; rfl); clear y; (go_simp <;> with_reducible rfl))
            try simp only [Act.put, List.setIfInBounds_toArray, List.set_cons_zero, List.set_cons_succ]
            refine wpAnyH_take (i := 4) (oi := ⟨some 71, _, _, _, _, _⟩) (v := ?_) rfl (by kernel_rfl) (by kernel_rfl) (by kernel_rfl) (fun _ _ _ h => h) (Or.inl ⟨by rfl, ?_⟩) (by assumption) ?_
            rotate_left
            · (intro w hSw; (try dsimp only at hSw); have y := hSw.out.1.1; have y1 : w.cell? ⟨N + 1, 1, none⟩ = some (.bool oh) := (by rw [blk_cell y]; rfl); have y2 : w.cell? ⟨N + 1, 2, none⟩ = some (.string ow) := (by rw [blk_cell y]; rfl); clear y; (go_simp <;> with_reducible rfl))
            try simp only [Act.put, List.setIfInBounds_toArray, List.set_cons_zero, List.set_cons_succ]
            refine wpAnyH_ready (rs := [5]) (by kernel_rfl) (by simp) ?_
            refine AllReadyH.cons rfl (fun K hK => ?_) AllReadyH.nil
            have z1 : W2.drew.cell? ⟨N, 1, none⟩ = some (.bool os) := (by rw [blk_cell (blk_drew hC.out)]; rfl)
            have z2 : W2.drew.frozen? ⟨N, 1, none⟩ = false := blk_free (blk_drew hC.out) 1
            go_simp
            have C5 : Hid ((W2.setCell ⟨N, 1, none⟩ (.bool oh)).drew.heap[N]? = some (.cells #[.string key, .bool oh, .string on, .bool has, .string now] 35)) := blk_drew (blk_set' hC.out 1 _ rfl)
            have O5 : Hid ((W2.setCell ⟨N, 1, none⟩ (.bool oh)).drew.heap[N + 1]? = some (.cells #[.string ok, .bool oh, .string ow, .bool os, .string on] 35)) := blk_drew (blk_far hO.out (by simp) _)
            have B5 : Hid (Below N wr ((W2.setCell ⟨N, 1, none⟩ (.bool oh)).drew)) := (bl_set hBB.out (Nat.le_refl _) _).drew
            have S5 : Hid (((W2.setCell ⟨N, 1, none⟩ (.bool oh)).drew.heap[N + 1]? = some (.cells #[.string ok, .bool oh, .string ow, .bool os, .string on] 35) ∧ ∃ h v, (W2.setCell ⟨N, 1, none⟩ (.bool oh)).drew.heap[N]? = some (.cells #[.string key, h, v, .bool has, .string now] 35)) ∧ Below N wr ((W2.setCell ⟨N, 1, none⟩ (.bool oh)).drew)) := ⟨⟨O5.out, _, _, C5.out⟩, B5.out⟩
            clear z1 z2
            refine hK.out _ _ (by assumption) (fun _ => ?_)
            clear hK K
            try simp only [Act.put, List.setIfInBounds_toArray, List.set_cons_zero, List.set_cons_succ]
            refine wpAnyH_take (i := 6) (oi := ⟨some 72, _, _, _, _, _⟩) (v := ?_) rfl (by kernel_rfl) (by kernel_rfl) (by kernel_rfl) (fun _ _ _ h => h) (Or.inl ⟨by rfl, ?_⟩) (by assumption) ?_
            rotate_left
            · (intro w hSw; (try dsimp only at hSw); have y := hSw.out.1.1; have y1 : w.cell? ⟨N + 1, 1, none⟩ = some (.bool oh) := (by rw [blk_cell y]; rfl); have y2 : w.cell? ⟨N + 1, 2, none⟩ = some (.string ow) := (by rw [blk_cell y]; rfl); clear y; (go_simp <;> with_reducible rfl))
            try simp only [Act.put, List.setIfInBounds_toArray, List.set_cons_zero, List.set_cons_succ]
            refine wpAnyH_ready (rs := [7]) (by kernel_rfl) (by simp) ?_
            refine AllReadyH.cons rfl (fun K hK => ?_) AllReadyH.nil
            generalize (W2.setCell ⟨N, 1, none⟩ (.bool oh)).drew = W3 at *
            have z1 : W3.cell? ⟨N, 2, none⟩ = some (.string on) := (by rw [blk_cell C5.out]; rfl)
            have z2 : W3.frozen? ⟨N, 2, none⟩ = false := blk_free C5.out 2
            go_simp
            have C7 : Hid ((W3.setCell ⟨N, 2, none⟩ (.string ow)).heap[N]? = some (.cells #[.string key, .bool oh, .string ow, .bool has, .string now] 35)) := blk_set' C5.out 2 _ rfl
            have B7 : Hid (Below N wr (W3.setCell ⟨N, 2, none⟩ (.string ow))) := bl_set B5.out (Nat.le_refl _) _
            have S7 : Hid (((W3.setCell ⟨N, 2, none⟩ (.string ow)).heap[N + 1]? = some (.cells #[.string ok, .bool oh, .string ow, .bool os, .string on] 35) ∧ ∃ h v, (W3.setCell ⟨N, 2, none⟩ (.string ow)).heap[N]? = some (.cells #[.string key, h, v, .bool has, .string now] 35)) ∧ Below N wr (W3.setCell ⟨N, 2, none⟩ (.string ow))) := ⟨⟨blk_far O5.out (by simp) _, _, _, C7.out⟩, B7.out⟩
            clear z1 z2
            refine hK.out _ _ (by assumption) (fun _ => ?_)
            clear hK K
            try simp only [Act.put, List.setIfInBounds_toArray, List.set_cons_zero, List.set_cons_succ]
            refine wpAnyH_done (by kernel_rfl) ?_ _
            refine NoPanic.normal ?_
            have B7' : Hid (Below wr.heap.size wr (W3.setCell ⟨N, 2, none⟩ (.string ow))) := by show Below _ _ _; rw [← HN.out]; exact B7.out
            generalize W3.setCell ⟨N, 2, none⟩ (.string ow) = W4 at *
            have x0 : W4.cell? ⟨N, 0, none⟩ = some (.string key) := by rw [blk_cell C7.out]; rfl
            have x1 : W4.cell? ⟨N, 1, none⟩ = some (.bool oh) := by rw [blk_cell C7.out]; rfl
            have x2 : W4.cell? ⟨N, 2, none⟩ = some (.string ow) := by rw [blk_cell C7.out]; rfl
            have x3 : W4.cell? ⟨N, 3, none⟩ = some (.bool has) := by rw [blk_cell C7.out]; rfl
            have x4 : W4.cell? ⟨N, 4, none⟩ = some (.string now) := by rw [blk_cell C7.out]; rfl
            have hm5 := Lib.hid (hm.out.below B7'.out hm.out.lt)
            have hb5 := Lib.hid (bl_then hb.out hb.out.size B7'.out)
            clear S5 S7 O5 B5 C5 B7 hC hO hBB hHeld hm3 hb3
            go_wp2_with (at_mapUpdate; refine gmput _ Try.underlying9 rfl _ _ _ 115 rfl Try.underlying115 w2.heap.size _ _ rfl hm5.out KM.out key ⟨key, oh, ow, has, now⟩ rfl rfl KS.out ?_; intro w3 hm6 hg3)
            go_roundg n'
            case measure => omega
            case rel =>
              refine ⟨k + 1, by go_num, by omega, fun j c hj hc => ?_, by show MapG _ _ _ _ _ _ _; rw [← hput.out, hmg2.out]; exact hm6, ?_⟩
              · by_cases e : j = k
                · subst e; rw [HX.out] at hc; cases hc; exact hbd3.out
                · exact hf.out j c (by omega) hc
              · exact hb5.out.grown hg3 hb5.out.size (fun k e => by cases e; exact Nat.le_refl _)
        · have hk' : k = q.length := by omega
          subst hk'
          have hm3 : Hid (MapG Try.prog 9 chV wr w2.heap.size (p.length + q.length) (joinAt p q)) := by show MapG _ _ _ _ _ _ _; have := hm.out; rw [List.take_length] at this; exact this
          have hj : Hid (patchJoin p q = ((joinKeys p q).flatMap (joinL p q), 0)) := join_ok E1.out E2.out fun c hc => by
            obtain ⟨j, hj⟩ := List.getElem?_of_mem hc
            exact hf.out j c ((List.getElem?_eq_some_iff.1 hj).1) hj
          have hjs := Lib.hid (joinAt_some p q)
          have hjl : Hid (∀ k, joinL p q k = movesOf (joinAt p q k)) := fun _ => rfl
          have hjn := Lib.hid (joinL_len p q)
          have hkl := Lib.hid (joinKeys_len p q)
          have hmk : Hid (∀ k, k ∈ joinKeys p q ↔ k ∈ ckeys p ∨ k ∈ ckeys q) := fun _ => mem_joinKeys
          have hsk : Hid (Srt (joinKeys p q)) := srt_keysOf _
          have hsz : Hid (∀ k, k ∈ ckeys p ∨ k ∈ ckeys q → k.size ≤ maxLen) := fun k h => by
            unfold maxLen
            rcases h with h | h <;> obtain ⟨c, hc, rfl⟩ := List.mem_map.1 h
            · exact (ZP.out c hc).1
            · exact (ZQ.out c hc).1
          clear hm hf hlt hk hm2 hb2
          generalize joinAt p q = fj at *
          generalize joinL p q = jl at *
          generalize joinKeys p q = jk at *
          go_wp2_with fail
          refine (keysC_calls _ _).mono ?_
          rintro e w3 ⟨rfl, rfl⟩
          go_wp2_with fail
          refine (sortedC_calls chV w2.heap.size _ _ wr (by omega) hm3.out).mono ?_
          rintro e w5 ⟨vk, ks, rfl, hok, hsr, hmem, hle, hb5⟩
          have hks : ks = jk := srt_ext hsr hsk.out fun k => by rw [hmem, hjs.out, hmk.out]
          subst hks
          obtain ⟨Ak, ck, rfl, kc, kc', kr, -⟩ := hok.rd strOk
          have KR := Lib.hid kr
          have M5 := Lib.hid (hm3.out.below hb5 hm3.out.lt)
          have B5 := Lib.hid (bl_then hbw.out hbw.out.size hb5)
          have hin : Hid (∀ k ∈ ks, (fj k).isSome = true ∧ k.size ≤ maxLen) := fun k hk => ⟨(hmem k).1 hk, hsz.out k ((hmk.out k).1 hk)⟩
          clear hok hsr hmem hb5 kr hm3 hb hbw hmk hsk hjs hsz
          go_wp2
          go_loopg [15, 82] ks.length (fun n v i wr => ∃ k : Nat, i = .int .i64 k ∧ k + n = ks.length ∧ Hid (Own Change.enc 5 35 w5.heap.size wr v ((ks.take k).flatMap jl)) ∧ Hid (((ks.take k).flatMap jl).length ≤ k) ∧ Hid (Below w5.heap.size w5 wr))
          case atStart => exact ⟨0, rfl, by omega, Own.nil, by show _ ≤ _; simp, Below.refl _ _⟩
          case round =>
            obtain ⟨k, rfl, hk, ho, hln, hb⟩ := hrel
            by_cases hlt : k < ks.length
            · obtain ⟨n', hn'⟩ : ∃ n', gk = n' + 1 := ⟨gk - 1, by omega⟩
              subst hn'
              rcases KR.out.below hb.out (Nat.le_refl _) with h0 | ⟨bk, off, rfl, hbl, hcell⟩
              · simp [h0] at hlt
              have hx := List.getElem?_eq_getElem hlt
              have c0 : wr.cell? ⟨bk, off + k, none⟩ = some (.string ks[k]) := by have := hcell k ks[k] hx 0 _ rfl; simpa using this
              have hd : Hid ((ks.take (k + 1)).flatMap jl = (ks.take k).flatMap jl ++ jl ks[k]) := take_flatC hx
              obtain ⟨hsm, hkz⟩ := hin.out ks[k] (List.getElem_mem hlt)
              have hjl1 := Lib.hid (hjl.out ks[k])
              generalize ks[k] = key at *
              obtain ⟨cx, hcx⟩ := Option.isSome_iff_exists.1 hsm
              rw [hcx] at hjl1
              have lk := look_chg (M5.out.below hb.out M5.out.lt) key hkz
              rw [hcx] at lk
              obtain ⟨ck', had, was, has, now⟩ := cx
              unfold chV at lk
              simp only [Option.getD_some] at lk
              clear hcell hx hsm hkz hcx
              obtain ⟨done, hdn⟩ : ∃ d, d = (ks.take k).flatMap jl := ⟨_, rfl⟩
              rw [← hdn] at ho hln hd
              clear hdn
              have ho2 := Lib.hid (ho.out.alloc (.cells #[.string ck', .bool had, .string was, .bool has, .string now] 35))
              have hob := Lib.hid ho2.out.lt
              have hb2 := Lib.hid (bl_alloc hb.out (.cells #[.string ck', .bool had, .string was, .bool has, .string now] 35))
              have hz2 : Hid ((wr.alloc (.cells #[.string ck', .bool had, .string was, .bool has, .string now] 35)).heap.size = wr.heap.size + 1) := by show _ = _; simp
              have hz3 : Hid (w5.heap.size ≤ (wr.alloc (.cells #[.string ck', .bool had, .string was, .bool has, .string now] 35)).heap.size) := hb2.out.size
              have HC2 : Hid ((done.length + 1) * 64 ≤ 140737488355328) := by show _ ≤ _; have := hln.out; have := hkl.out; omega
              have HC3 : Hid (done.length + 1 ≤ 140737488355328) := by show _ ≤ _; have := hln.out; have := hkl.out; omega
              by_cases f1 : had = has
              · subst f1
                by_cases f2 : was = now
                · subst f2
                  have hm : Hid (jl key = []) := by show _ = _; rw [hjl1.out]; simp [movesOf, idle]
                  go_wp2
                  go_roundg n'
                  case measure => omega
                  case rel => exact ⟨k + 1, by go_num, by omega, by show Own _ _ _ _ _ _ _; rw [hd.out, hm.out, List.append_nil]; exact ho2.out, by show _ ≤ _; rw [hd.out, hm.out, List.append_nil]; have := hln.out; omega, hb2.out⟩
                · have g2 : (was.toList == now.toList) = false := by rw [toList_beq]; exact decide_eq_false f2
                  have hm : Hid (jl key = [⟨ck', had, was, had, now⟩]) := by show _ = _; rw [hjl1.out]; simp [movesOf, idle, f2]
                  clear f2
                  go_wp2_with (at_builtin; refine ap_own Change.ok rfl _ _ _ _ _ _ rfl Try.underlying25 infoChJ rfl w5.heap.size u15 done ⟨ck', had, was, had, now⟩ #[_, _, _, _, _] rfl rfl (wr.heap.size + 1) hz2.out rfl ho2.out hz3.out HC2.out HC3.out ?_; intro gg cap w6 o6 hg6 hat6 hlt6)
                  go_roundg n'
                  case measure => omega
                  case rel => exact ⟨k + 1, by go_num, by omega, by show Own _ _ _ _ _ _ _; rw [hd.out, hm.out]; simpa using o6, by show _ ≤ _; rw [hd.out, hm.out]; have := hln.out; simp; omega, hb2.out.grown hg6 hb2.out.size (fun k e => (hob.out _ e).1)⟩
              · have g1 : (had == has) = false := by simpa using f1
                have hm : Hid (jl key = [⟨ck', had, was, has, now⟩]) := by show _ = _; rw [hjl1.out]; simp [movesOf, idle, f1]
                go_wp2_with (at_builtin; refine ap_own Change.ok rfl _ _ _ _ _ _ rfl Try.underlying25 infoChJ rfl w5.heap.size u15 done ⟨ck', had, was, has, now⟩ #[_, _, _, _, _] rfl rfl (wr.heap.size + 1) hz2.out rfl ho2.out hz3.out HC2.out HC3.out ?_; intro gg cap w6 o6 hg6 hat6 hlt6)
                go_roundg n'
                case measure => omega
                case rel => exact ⟨k + 1, by go_num, by omega, by show Own _ _ _ _ _ _ _; rw [hd.out, hm.out]; simpa using o6, by show _ ≤ _; rw [hd.out, hm.out]; have := hln.out; simp; omega, hb2.out.grown hg6 hb2.out.size (fun k e => (hob.out _ e).1)⟩
            · have hk' : k = ks.length := by omega
              subst hk'
              rw [List.take_length] at ho
              clear hlt hk hln
              go_wp2
              go_ret2
              exact ⟨_, by rw [hj.out]; rfl, by rw [hj.out]; exact ho.out.mono B5.out.size, bl_then B5.out B5.out.size hb.out⟩
end Go.Proofs.Ytofdmkglhjpbcaa
