/- ref09.Diff -/
import Derived.Test.YtglpckdmiohciaaGet
import Derived.Test.YtglpckdmiohciaaKeys
namespace Go.Proofs.Ytglpckdmiohciaa
open Go.RowKit
set_option linter.unusedVariables false
set_option linter.unusedSimpArgs false
attribute [local go_sem high] eqSide

theorem infoChange : (Try.prog.info? 111).map (fun i => (i.zero, i.size, i.bytes)) = some (some (.agg #[.string ⟨#[]⟩, .bool false, .string ⟨#[]⟩, .bool false, .string ⟨#[]⟩]), 5, 64) := by kernel_rfl

theorem keysIn_len : ∀ (l : List Entry) (acc : List Str), (keysIn acc l).length ≤ acc.length + l.length
  | [], acc => by simp [keysIn]
  | x :: l, acc => by
    have h1 := keysIn_len l (insKey acc x.key)
    have h2 := insKey_len acc x.key
    have e : keysIn acc (x :: l) = keysIn (insKey acc x.key) l := rfl
    rw [e]
    simp
    omega
theorem keys2_len (l m : List Entry) : (keysOf [l, m]).length ≤ l.length + m.length := by
  have h1 := keysIn_len m (keysIn [] l)
  have h2 := keysIn_len l []
  have e : keysOf [l, m] = keysIn (keysIn [] l) m := rfl
  rw [e]
  simp at h2
  omega

set_option maxRecDepth 100000 in
set_option maxHeartbeats 1000000 in
theorem RefDiff_calls (w : World) (A B : Option Addr) (c d : Nat) (l m : List Entry) (hA : Rd Entry.enc 2 w A l) (hB : Rd Entry.enc 2 w B m) (hc : l.length ≤ c) (hd : m.length ≤ d) (hc' : c ≤ 9223372036854775807) (hd' : d ≤ 9223372036854775807)
    (hl : l.length + m.length ≤ 1000000) :
    Calls Try.prog 22 #[.slice A l.length c, .slice B m.length d] w fun e w' => ∃ v, e = .returned v ∧ Own Change.enc 5 111 w.heap.size w' v (diffRef l m) ∧ Below w.heap.size w w' := by
  have hA1 := Lib.hid hA
  have hB1 := Lib.hid hB
  clear hA hB
  have hcnt : Hid (cnt [l, m] ≤ 1000000) := by show _ ≤ _; simp [cnt]; omega
  have hL : Hid (RdL (w.alloc (.cells #[.slice A l.length c, .slice B m.length d] 28)) (some ⟨w.heap.size, 0, none⟩) [l, m]) := by
    refine .inr ⟨_, _, rfl, by simp, fun i x hx => ?_⟩
    have b0 := bl_alloc (Below.refl w.heap.size w) (.cells #[.slice A l.length c, .slice B m.length d] 28)
    rw [blk_cell (blk_new _ _)]
    match i, hx with
    | 0, hx => simp at hx; subst hx; exact ⟨A, c, rfl, hc, hc', hA1.out.below b0 (Nat.le_refl _)⟩
    | 1, hx => simp at hx; subst hx; exact ⟨B, d, rfl, hd, hd', hB1.out.below b0 (Nat.le_refl _)⟩
  have hkl := Lib.hid (keys2_len l m)
  go_enter Try.func22, Try.ntmps22
  go_wp2_with fail
  refine (Keys_calls _ _ 2 [l, m] (by simp) (by omega) hcnt.out hL.out).mono ?_
  rintro e w1 ⟨kv, rfl, hk, hb⟩
  obtain ⟨KA, kc, rfl, hk1, hk2, hkr, hkb⟩ := hk.rd strOk
  have hb1 : Below w.heap.size w w1 := bl_then (bl_alloc (Below.refl _ _) _) (by simp) hb
  have hkr' := Lib.hid hkr
  have hdf : Hid (diffRef l m = (keysOf [l, m]).flatMap (changeAt l m)) := rfl
  generalize keysOf [l, m] = ks at *
  clear hk hkr hL hb
  go_wp2
  go_loopg [5, 15] ks.length (fun n v i wr => ∃ (k : Nat) (done : List Change), i = .int .i64 k ∧ k + n = ks.length ∧ Hid (diffRef l m = done ++ (ks.drop k).flatMap (changeAt l m)) ∧ Hid (done.length ≤ k) ∧ Hid (Own Change.enc 5 111 w1.heap.size wr v done) ∧
    Hid (Rd strEnc 1 wr KA ks) ∧ w1.heap.size ≤ wr.heap.size ∧ Below w.heap.size w wr)
  case atStart => exact ⟨0, [], rfl, by omega, hdf, by show _ ≤ _; simp, Own.nil, hkr', Nat.le_refl _, hb1⟩
  case round =>
    obtain ⟨k, done, rfl, hk, hv, hn, ho, hrk, hz, hb⟩ := hrel
    by_cases hlt : k < ks.length
    · obtain ⟨n', hn'⟩ : ∃ n', gk = n' + 1 := ⟨gk - 1, by omega⟩
      subst hn'
      rcases hrk.out with h0 | ⟨b, off, rfl, hbl, hcell⟩
      · simp [h0] at hlt
      have c0 : wr.cell? ⟨b, off + k, none⟩ = some (.string ks[k]) := by have := hcell k ks[k] (by simp [hlt]) 0 _ rfl; simpa using this
      have hd : ks.drop k = ks[k] :: ks.drop (k + 1) := by simp
      have hv1 : Hid (diffRef l m = done ++ (changeAt l m ks[k] ++ (ks.drop (k + 1)).flatMap (changeAt l m))) := by show _ = _; rw [hv.out, hd]; rfl
      generalize ks[k] = key at *
      clear hcell hd hv
      have hb1' : b < w1.heap.size := by
        rcases hkr'.out with h0 | ⟨b', off', e, h1, _⟩
        · simp [h0] at hlt
        · cases e; exact h1
      go_wp2_with fail
      refine (Get_calls' _ _ _ l key (by omega) (hA1.out.below hb (Nat.le_refl _))).mono ?_
      rintro e w2 ⟨rfl, hb2⟩
      have hb3 := bl_then hb hb.size hb2
      go_wp2_with fail
      refine (Get_calls' _ _ _ m key (by omega) (hB1.out.below hb3 (Nat.le_refl _))).mono ?_
      rintro e w4 ⟨rfl, hb4⟩
      have hb5 := bl_then hb2 hb2.size hb4
      have hb6 := bl_then hb hb.size hb5
      have hch : Hid (changeAt l m key = if get l key = get m key then [] else [⟨key, (get l key).has, (get l key).val, (get m key).has, (get m key).val⟩]) := rfl
      generalize get l key = x at *
      generalize get m key = y at *
      have ho4 := Lib.hid (ho.out.below hb5)
      have hrk4 := Lib.hid (hrk.out.below hb5 (Nat.le_refl _))
      clear ho hrk hb2 hb4 hb3 c0
      by_cases hxy : x = y
      · have hq : (!decide (x = y)) = false := by simp [hxy]
        have hv2 : Hid (diffRef l m = done ++ (ks.drop (k + 1)).flatMap (changeAt l m)) := by show _ = _; rw [hv1.out, hch.out, if_pos hxy]; rfl
        clear hxy
        have hz4 := hb5.size
        go_wp2
        go_roundg n'
        case measure => omega
        case rel =>
          refine ⟨k + 1, done, by go_num, by omega, hv2, by show _ ≤ _; have := hn.out; omega, (ho4.out.alloc _).alloc _, ?_, by simp; omega, bl_alloc (bl_alloc hb6 _) _⟩
          exact hrk4.out.below (bl_alloc (bl_alloc (Below.refl _ _) _) _) (Nat.le_refl _)
      · have hq : (!decide (x = y)) = true := by simp [hxy]
        have hv2 : Hid (diffRef l m = (done ++ [⟨key, x.has, x.val, y.has, y.val⟩]) ++ (ks.drop (k + 1)).flatMap (changeAt l m)) := by show _ = _; rw [hv1.out, hch.out, if_neg hxy]; simp
        clear hxy
        have hz4 := hb5.size
        have hdl : done.length + 1 ≤ 1000000 := by have := hn.out; have := hkl.out; omega
        have HO5 := Lib.hid ((ho4.out.alloc (.cells #[.bool x.has, .string x.val] 23)).alloc (.cells #[.bool y.has, .string y.val] 23))
        have HC : Hid (w1.heap.size ≤ ((w4.alloc (.cells #[.bool x.has, .string x.val] 23)).alloc (.cells #[.bool y.has, .string y.val] 23)).heap.size) := by show _ ≤ _; simp; omega
        have HZ : Hid (((w4.alloc (.cells #[.bool x.has, .string x.val] 23)).alloc (.cells #[.bool y.has, .string y.val] 23)).heap.size = w4.heap.size + 1 + 1) := by show _ = _; simp
        have HC2 : Hid ((done.length + 1) * 64 ≤ 140737488355328) := by show _ ≤ _; omega
        have HC3 : Hid (done.length + 1 ≤ 140737488355328) := by show _ ≤ _; omega
        have hb7 := Lib.hid (bl_alloc (bl_alloc hb6 (.cells #[.bool x.has, .string x.val] 23)) (.cells #[.bool y.has, .string y.val] 23))
        have hrk7 := Lib.hid (hrk4.out.below (bl_alloc (bl_alloc (Below.refl _ _) (.cells #[.bool x.has, .string x.val] 23)) (.cells #[.bool y.has, .string y.val] 23)) (Nat.le_refl _))
        have hob := Lib.hid ho4.out.lt
        go_wp2_with (at_builtin; refine ap_own Change.ok rfl _ _ _ _ _ _ rfl Try.underlying31 infoChange rfl w1.heap.size u5 done ⟨key, x.has, x.val, y.has, y.val⟩ #[_, _, _, _, _] rfl rfl (w4.heap.size + 1 + 1) HZ.out rfl HO5.out HC.out HC2.out HC3.out ?_; intro gg cap w5 ho5 hg5 hat5 hlt5)
        go_roundg n'
        case measure => omega
        case rel =>
          refine ⟨k + 1, done ++ [⟨key, x.has, x.val, y.has, y.val⟩], by go_num, by omega, hv2, by show _ ≤ _; have := hn.out; simp; omega, ?_, ?_, ?_, ?_⟩
          · show Own _ _ _ _ _ _ _
            simpa using ho5
          · exact hrk7.out.grown hg5 (fun a ha e => by cases ha; have := (hob.out _ e.symm).1; simp at this; omega)
          · have := hg5.size; have := HC.out; omega
          · exact hb7.out.grown hg5 hb7.out.size (fun k e => by have := (hob.out _ e).1; have := hb1.size; omega)
    · have hfin : Hid (diffRef l m = done) := by show _ = _; rw [hv.out, List.drop_of_length_le (by omega)]; simp
      go_wp2
      go_ret
      exact ⟨_, rfl, hfin.out ▸ ho.out.mono hb1.size, hb⟩
end Go.Proofs.Ytglpckdmiohciaa
