/- patch.Right -/
import Derived.Test.YtofdmkglhjpbcaaPatchA
namespace Go.Proofs.Ytofdmkglhjpbcaa
open Go.RowKit
set_option linter.unusedVariables false
set_option linter.unusedSimpArgs false

theorem patchGo_cons (p : Option Str) (c : Change) (l : List Change) : patchGo p (c :: l) = if chgErr c ≠ 0 then chgErr c else if (notUp p c.key || idle c) = true then 170 else patchGo (some c.key) l := by rw [patchGo]
theorem patchGo_bad {p : Option Str} {c : Change} {l : List Change} {e : Int} (h : chgErr c = e) (he : e ≠ 0) : patchGo p (c :: l) = e := by rw [patchGo_cons]; rw [h, if_pos he]
theorem patchGo_170 {p : Option Str} {c : Change} {l : List Change} (h : chgErr c = 0) (hp : (notUp p c.key || idle c) = true) : patchGo p (c :: l) = 170 := by rw [patchGo_cons]; rw [h, if_neg (by simp), if_pos hp]
theorem patchGo_on {p : Option Str} {c : Change} {l : List Change} (h : chgErr c = 0) (hp : (notUp p c.key || idle c) = false) : patchGo p (c :: l) = patchGo (some c.key) l := by rw [patchGo_cons]; rw [h, if_neg (by simp), hp, if_neg (by simp)]
theorem chg_k {key was now : Str} {had has : Bool} (h : keyErr key = 100) : chgErr ⟨key, had, was, has, now⟩ = 100 := by unfold chgErr; simp [h]
theorem chg_w {key was now : Str} {had has : Bool} (h : keyErr key = 0) (h1 : textE had was = 101) : chgErr ⟨key, had, was, has, now⟩ = 101 := by unfold chgErr; simp [h, h1]
theorem chg_n {key was now : Str} {had has : Bool} (h : keyErr key = 0) (h1 : textE had was = 0) : chgErr ⟨key, had, was, has, now⟩ = textE has now := by unfold chgErr; simp [h, h1]
theorem idle_f1 {key was now : Str} {had has : Bool} (h : ¬ had = has) : idle ⟨key, had, was, has, now⟩ = false := by simp [idle, h]
theorem idle_f2 {key was now : Str} {had has : Bool} (h : ¬ was = now) : idle ⟨key, had, was, has, now⟩ = false := by simp [idle, h]
theorem idle_t {key was now : Str} {had has : Bool} (h : had = has) (h1 : was = now) : idle ⟨key, had, was, has, now⟩ = true := by simp [idle, h, h1]

set_option maxRecDepth 100000 in
set_option maxHeartbeats 2000000 in
theorem Right_calls28 (w : World) (A : Option Addr) (c : Nat) (l : List Change) (hm : l.length ≤ 1000000) (hs : ∀ x ∈ l, x.key.size ≤ 9223372036854775807 ∧ x.was.size ≤ 9223372036854775807 ∧ x.now.size ≤ 9223372036854775807) (h : Rd Change.enc 5 w A l) :
    Calls Try.prog 37 #[.slice A l.length c] w fun e w' => e = .returned (.int .i64 (patchErr l)) ∧ Below w.heap.size w w' := by
  have hs' := Lib.hid hs
  have HA := Lib.hid h
  clear hs h
  go_enter Try.func37, Try.ntmps37
  go_wp2
  go_loopg [10] l.length (fun n i wr => ∃ k : Nat, i = .int .i64 k ∧ k + n = l.length ∧ Hid (patchErr l = patchGo (prevKey l k) (l.drop k)) ∧ Hid (Below w.heap.size w wr))
  case atStart => exact ⟨0, rfl, by omega, rfl, Below.refl _ _⟩
  case round =>
    obtain ⟨k, rfl, hk, hg, hb⟩ := hrel
    by_cases hlt : k < l.length
    · obtain ⟨n', hn'⟩ : ∃ n', gk = n' + 1 := ⟨gk - 1, by omega⟩
      subst hn'
      rcases HA.out.below hb.out (Nat.le_refl _) with h0 | ⟨b, off, rfl, hbl, hc⟩
      · simp [h0] at hlt
      have hx := List.getElem?_eq_getElem hlt
      have c0 : wr.cell? ⟨b, off + k * 5, none⟩ = some (.string l[k].key) := hc k l[k] hx 0 _ rfl
      have c1 : wr.cell? ⟨b, off + k * 5 + 1, none⟩ = some (.bool l[k].had) := hc k l[k] hx 1 _ rfl
      have c2 : wr.cell? ⟨b, off + k * 5 + 2, none⟩ = some (.string l[k].was) := hc k l[k] hx 2 _ rfl
      have c3 : wr.cell? ⟨b, off + k * 5 + 3, none⟩ = some (.bool l[k].has) := hc k l[k] hx 3 _ rfl
      have c4 : wr.cell? ⟨b, off + k * 5 + 4, none⟩ = some (.string l[k].now) := hc k l[k] hx 4 _ rfl
      have hd : l.drop k = l[k] :: l.drop (k + 1) := by simp
      have hpn : Hid (prevKey l (k + 1) = some l[k].key) := prevKey_succ hx
      have hg2 : Hid (patchErr l = patchGo (prevKey l k) (l[k] :: l.drop (k + 1))) := by show _ = _; rw [hg.out, hd]
      obtain ⟨s0, s1, s2⟩ := hs'.out l[k] (List.getElem_mem _)
      have p0 : ∀ j, k = j + 1 → ∃ pk : Str, Hid (prevKey l k = some pk) ∧ wr.cell? ⟨b, off + j * 5, none⟩ = some (.string pk) := fun j e => by
        have hj : j < l.length := by omega
        exact ⟨l[j].key, by subst e; exact prevKey_succ (List.getElem?_eq_getElem hj), hc j l[j] (List.getElem?_eq_getElem hj) 0 _ rfl⟩
      have hz : Hid (k = 0 → prevKey l k = none) := fun e => by subst e; rfl
      generalize l[k] = x at *
      obtain ⟨key, had, was, has, now⟩ := x
      simp only at c0 c1 c2 c3 c4 s0 s1 s2 hpn
      have KK := Lib.hid (fun W => nodeKey_calls W key s0)
      have KW := Lib.hid (fun W => text_calls W had was s1)
      have KN := Lib.hid (fun W => text_calls W has now s2)
      clear hc hx hd hg s0 s1 s2
      rcases keyErr_or key with hk1 | hk1
      rotate_left
      · skip
        go_wp2_with fail
        refine (KK.out _).mono ?_
        rintro e wKK ⟨rfl, rfl⟩
        rw [hk1]
        go_wp2
        go_ret
        exact ⟨by rw [hg2.out, patchGo_bad (chg_k hk1) (by decide)]; rfl, bl_alloc hb.out _⟩
      rcases textE_rng had was with hk2 | hk2
      rotate_left
      · skip
        go_wp2_with fail
        refine (KK.out _).mono ?_
        rintro e wKK ⟨rfl, rfl⟩
        rw [hk1]
        go_wp2_with fail
        refine (KW.out _).mono ?_
        rintro e wKW ⟨rfl, rfl⟩
        rw [hk2]
        go_wp2
        go_ret
        exact ⟨by rw [hg2.out, patchGo_bad (chg_w hk1 hk2) (by decide)]; rfl, bl_alloc hb.out _⟩
      rcases textE_rng has now with hk3 | hk3
      rotate_left
      · skip
        go_wp2_with fail
        refine (KK.out _).mono ?_
        rintro e wKK ⟨rfl, rfl⟩
        rw [hk1]
        go_wp2_with fail
        refine (KW.out _).mono ?_
        rintro e wKW ⟨rfl, rfl⟩
        rw [hk2]
        go_wp2_with fail
        refine (KN.out _).mono ?_
        rintro e wKN ⟨rfl, rfl⟩
        rw [hk3]
        go_wp2
        go_ret
        exact ⟨by rw [hg2.out, patchGo_bad ((chg_n hk1 hk2).trans hk3) (by decide)]; rfl, bl_alloc hb.out _⟩
      have h00 : Hid (chgErr ⟨key, had, was, has, now⟩ = 0) := (chg_n hk1 hk2).trans hk3
      cases k with
      | zero =>
        have h000 : decide ((0 : Int) < ((0 : Nat) : Int)) = false := by simp
        clear p0
        simp only [Nat.zero_mul, Nat.add_zero] at c0 c1 c2 c3 c4
        by_cases e1 : had = has
        · have f1 : (had == has) = true := by simpa using e1
          by_cases e2 : was = now
          · have f2 : (was.toList == now.toList) = true := by rw [toList_beq]; exact decide_eq_true e2
            have hv : Hid (patchErr l = 170) := by show _ = _; rw [hg2.out]; exact patchGo_170 h00.out (show (notUp (prevKey l 0) key || idle ⟨key, had, was, has, now⟩) = true from by rw [hz.out rfl]; simp [notUp, idle_t e1 e2])
            clear e1 e2
            go_wp2_with fail
            refine (KK.out _).mono ?_
            rintro e wKK ⟨rfl, rfl⟩
            rw [hk1]
            go_wp2_with fail
            refine (KW.out _).mono ?_
            rintro e wKW ⟨rfl, rfl⟩
            rw [hk2]
            go_wp2_with fail
            refine (KN.out _).mono ?_
            rintro e wKN ⟨rfl, rfl⟩
            rw [hk3]
            go_wp2
            go_quiet (fail)
            go_wp2
            go_ret
            exact ⟨by rw [hv.out]; rfl, bl_drewN (bl_alloc hb.out _) _⟩
          · have f2 : (was.toList == now.toList) = false := by rw [toList_beq]; exact decide_eq_false e2
            have hv : Hid (patchErr l = patchGo (prevKey l (0 + 1)) (l.drop (0 + 1))) := by show _ = _; rw [hg2.out, hpn.out]; exact patchGo_on h00.out (show (notUp (prevKey l 0) key || idle ⟨key, had, was, has, now⟩) = false from by rw [hz.out rfl]; simp [notUp, idle_f2 e2])
            clear e1 e2
            go_wp2_with fail
            refine (KK.out _).mono ?_
            rintro e wKK ⟨rfl, rfl⟩
            rw [hk1]
            go_wp2_with fail
            refine (KW.out _).mono ?_
            rintro e wKW ⟨rfl, rfl⟩
            rw [hk2]
            go_wp2_with fail
            refine (KN.out _).mono ?_
            rintro e wKN ⟨rfl, rfl⟩
            rw [hk3]
            go_wp2
            go_quiet (fail)
            go_wp2
            go_roundg n'
            case measure => omega
            case rel => exact ⟨0 + 1, by go_num, by omega, hv, bl_drewN (bl_alloc hb.out _) _⟩
        · have f1 : (had == has) = false := by simpa using e1
          have hv : Hid (patchErr l = patchGo (prevKey l (0 + 1)) (l.drop (0 + 1))) := by show _ = _; rw [hg2.out, hpn.out]; exact patchGo_on h00.out (show (notUp (prevKey l 0) key || idle ⟨key, had, was, has, now⟩) = false from by rw [hz.out rfl]; simp [notUp, idle_f1 e1])
          clear e1
          go_wp2_with fail
          refine (KK.out _).mono ?_
          rintro e wKK ⟨rfl, rfl⟩
          rw [hk1]
          go_wp2_with fail
          refine (KW.out _).mono ?_
          rintro e wKW ⟨rfl, rfl⟩
          rw [hk2]
          go_wp2_with fail
          refine (KN.out _).mono ?_
          rintro e wKN ⟨rfl, rfl⟩
          rw [hk3]
          go_wp2
          go_quiet (fail)
          go_wp2
          go_roundg n'
          case measure => omega
          case rel => exact ⟨0 + 1, by go_num, by omega, hv, bl_drewN (bl_alloc hb.out _) _⟩
      | succ j =>
        obtain ⟨pk, hpk, q0⟩ := p0 j rfl
        clear p0 hz
        by_cases hup : slt pk key = true
        · have hq : Op.bytesLess pk.toList key.toList = true := hup
          by_cases e1 : had = has
          · have f1 : (had == has) = true := by simpa using e1
            by_cases e2 : was = now
            · have f2 : (was.toList == now.toList) = true := by rw [toList_beq]; exact decide_eq_true e2
              have hv : Hid (patchErr l = 170) := by show _ = _; rw [hg2.out]; exact patchGo_170 h00.out (show (notUp (prevKey l (j + 1)) key || idle ⟨key, had, was, has, now⟩) = true from by rw [hpk.out]; simp [notUp, hup, idle_t e1 e2])
              clear e1 e2
              go_wp2_with fail
              refine (KK.out _).mono ?_
              rintro e wKK ⟨rfl, rfl⟩
              rw [hk1]
              go_wp2_with fail
              refine (KW.out _).mono ?_
              rintro e wKW ⟨rfl, rfl⟩
              rw [hk2]
              go_wp2_with fail
              refine (KN.out _).mono ?_
              rintro e wKN ⟨rfl, rfl⟩
              rw [hk3]
              go_wp2
              go_quiet (fail)
              go_wp2
              go_ret
              exact ⟨by rw [hv.out]; rfl, bl_drewN (bl_alloc hb.out _) _⟩
            · have f2 : (was.toList == now.toList) = false := by rw [toList_beq]; exact decide_eq_false e2
              have hv : Hid (patchErr l = patchGo (prevKey l (j + 1 + 1)) (l.drop (j + 1 + 1))) := by show _ = _; rw [hg2.out, hpn.out]; exact patchGo_on h00.out (show (notUp (prevKey l (j + 1)) key || idle ⟨key, had, was, has, now⟩) = false from by rw [hpk.out]; simp [notUp, hup, idle_f2 e2])
              clear e1 e2
              go_wp2_with fail
              refine (KK.out _).mono ?_
              rintro e wKK ⟨rfl, rfl⟩
              rw [hk1]
              go_wp2_with fail
              refine (KW.out _).mono ?_
              rintro e wKW ⟨rfl, rfl⟩
              rw [hk2]
              go_wp2_with fail
              refine (KN.out _).mono ?_
              rintro e wKN ⟨rfl, rfl⟩
              rw [hk3]
              go_wp2
              go_quiet (fail)
              go_wp2
              go_roundg n'
              case measure => omega
              case rel => exact ⟨j + 1 + 1, by go_num, by omega, hv, bl_drewN (bl_alloc hb.out _) _⟩
          · have f1 : (had == has) = false := by simpa using e1
            have hv : Hid (patchErr l = patchGo (prevKey l (j + 1 + 1)) (l.drop (j + 1 + 1))) := by show _ = _; rw [hg2.out, hpn.out]; exact patchGo_on h00.out (show (notUp (prevKey l (j + 1)) key || idle ⟨key, had, was, has, now⟩) = false from by rw [hpk.out]; simp [notUp, hup, idle_f1 e1])
            clear e1
            go_wp2_with fail
            refine (KK.out _).mono ?_
            rintro e wKK ⟨rfl, rfl⟩
            rw [hk1]
            go_wp2_with fail
            refine (KW.out _).mono ?_
            rintro e wKW ⟨rfl, rfl⟩
            rw [hk2]
            go_wp2_with fail
            refine (KN.out _).mono ?_
            rintro e wKN ⟨rfl, rfl⟩
            rw [hk3]
            go_wp2
            go_quiet (fail)
            go_wp2
            go_roundg n'
            case measure => omega
            case rel => exact ⟨j + 1 + 1, by go_num, by omega, hv, bl_drewN (bl_alloc hb.out _) _⟩
        · have hq : Op.bytesLess pk.toList key.toList = false := by unfold slt at hup; simpa using hup
          have hup2 : slt pk key = false := by simpa using hup
          have hv : Hid (patchErr l = 170) := by show _ = _; rw [hg2.out]; exact patchGo_170 h00.out (show (notUp (prevKey l (j + 1)) key || idle ⟨key, had, was, has, now⟩) = true from by rw [hpk.out]; simp [notUp, hup2])
          clear hup hup2
          go_wp2_with fail
          refine (KK.out _).mono ?_
          rintro e wKK ⟨rfl, rfl⟩
          rw [hk1]
          go_wp2_with fail
          refine (KW.out _).mono ?_
          rintro e wKW ⟨rfl, rfl⟩
          rw [hk2]
          go_wp2_with fail
          refine (KN.out _).mono ?_
          rintro e wKN ⟨rfl, rfl⟩
          rw [hk3]
          go_wp2
          go_quiet (fail)
          go_wp2
          go_ret
          exact ⟨by rw [hv.out]; rfl, bl_drewN (bl_alloc hb.out _) _⟩
    · have hv : Hid (patchErr l = 0) := by show _ = _; rw [hg.out, List.drop_of_length_le (by omega)]; unfold patchGo; rfl
      go_wp2
      go_ret
      exact ⟨by rw [hv.out]; rfl, hb.out⟩
end Go.Proofs.Ytofdmkglhjpbcaa
