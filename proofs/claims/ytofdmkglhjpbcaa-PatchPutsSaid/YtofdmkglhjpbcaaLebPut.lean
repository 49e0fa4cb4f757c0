/- ref01.Num, leb.Put of one number -/
import Derived.Test.YtofdmkglhjpbcaaByt
import Derived.Laws.Bits128
namespace Go.Proofs.Ytofdmkglhjpbcaa
open Go.RowKit
set_option linter.unusedVariables false
set_option linter.unusedSimpArgs false

set_option maxRecDepth 100000 in
set_option maxHeartbeats 1000000 in
theorem rNum_calls (w : World) (v : Value) (bs : List Int) (n : Nat) (hn : n < 18446744073709551616) (hl : bs.length ≤ 1000000) (B : Nat) (hB : B ≤ w.heap.size) (h : Own u8e 1 5 B w v bs) :
    Calls Try.prog 59 #[v, .int .u64 n] w fun e w' => ∃ v', e = .returned v' ∧ Own u8e 1 5 B w' v' (bs ++ lebI n) ∧ Below B w w' ∧ KeptT w w' := by
  have HO := Lib.hid h
  clear h
  have h10 := Lib.hid (lebI_len10 n hn)
  go_enter Try.func59, Try.ntmps59
  go_wp2
  go_loopg [0, 1] n (fun m v' u wr => ∃ (k : Nat) (done : List Int), u = .int .u64 k ∧ k ≤ m ∧ k < 18446744073709551616 ∧ Hid (done ++ lebI k = bs ++ lebI n) ∧ Hid (Own u8e 1 5 B wr v' done) ∧ Hid (Below B w wr) ∧ Hid (KeptT w wr))
  case atStart => exact ⟨n, bs, rfl, Nat.le_refl _, hn, rfl, HO.out, Below.refl _ _, KeptT.refl _⟩
  case round =>
    obtain ⟨k, done, rfl, hk, hk2, hd, ho, hb, ht⟩ := hrel
    have hdl : Hid (done.length ≤ 1000010) := by
      show _ ≤ _
      have := congrArg List.length hd.out
      simp only [List.length_append] at this
      have := h10.out
      omega
    by_cases hlt : 127 < k
    · have hs : Hid (done ++ [((k % 128 + 128 : Nat) : Int)] ++ lebI (k / 128) = bs ++ lebI n) := by
        show _ = _
        rw [← hd.out, lebI_ge (n := k) (by omega), List.append_assoc]; rfl
      have hz := Lib.hid (Nat.le_trans hB hb.out.size)
      have hob := Lib.hid ho.out.lt
      have HC2 : Hid ((done.length + 1) * 1 ≤ 140737488355328) := by show _ ≤ _; have := hdl.out; omega
      have HC3 : Hid (done.length + 1 ≤ 140737488355328) := by show _ ≤ _; have := hdl.out; omega
      go_wp2_with (at_builtin; refine ap_own u8ok rfl _ _ _ _ _ _ rfl Try.underlying57 infoU8 rfl B u0 done ((k : Int) % 128 + 128) #[_] rfl rfl wr.heap.size rfl rfl ho.out hz.out HC2.out HC3.out ?_; intro gg cap w5 o5 hg5 hat5 hlt5)
      go_roundg (k / 128)
      case measure => omega
      case rel =>
        refine ⟨k / 128, done ++ [(k : Int) % 128 + 128], by simp, Nat.le_refl _, by omega, ?_, by show Own _ _ _ _ _ _ _; simpa using o5, hb.out.grown hg5 hz.out (fun k e => (hob.out _ e).1), ht.out.trans (KeptT.grown ho.out hg5)⟩
        show _ = _
        rw [← hs.out]
        simp
    · have hs : Hid (done ++ [(k : Int)] = bs ++ lebI n) := by
        show _ = _
        rw [← hd.out, lebI_lt (n := k) (by omega)]
      have hz := Lib.hid (Nat.le_trans hB hb.out.size)
      have hob := Lib.hid ho.out.lt
      have HC2 : Hid ((done.length + 1) * 1 ≤ 140737488355328) := by show _ ≤ _; have := hdl.out; omega
      have HC3 : Hid (done.length + 1 ≤ 140737488355328) := by show _ ≤ _; have := hdl.out; omega
      have hk8 : IntKind.u8.wrap (k : Int) = (k : Int) := by rw [IntKind.wrap_u8]; omega
      go_wp2_with (at_builtin; refine ap_own u8ok rfl _ _ _ _ _ _ rfl Try.underlying57 infoU8 rfl B u0 done (k : Int) #[_] rfl rfl wr.heap.size rfl rfl ho.out hz.out HC2.out HC3.out ?_; intro gg cap w5 o5 hg5 hat5 hlt5)
      go_ret
      exact ⟨_, rfl, by rw [← hs.out]; simpa using o5, hb.out.grown hg5 hz.out (fun k e => (hob.out _ e).1), ht.out.trans (KeptT.grown ho.out hg5)⟩

set_option maxRecDepth 100000 in
set_option maxHeartbeats 1000000 in
theorem lebPut_calls (w : World) (A : Option Addr) (c : Nat) (bs : List Int) (g n : Nat) (hn : n < 18446744073709551616) (hl : bs.length ≤ 1000000) (h : Rd u8e 1 w A bs) (hg : w.cell? ⟨g, 0, none⟩ = some (.int .u64 n)) (hgl : g < w.heap.size) :
    Calls Try.prog 87 #[.slice A bs.length c, .slice (some ⟨g, 0, none⟩) 1 1] w fun e w' => ∃ v', e = .returned v' ∧ Own u8e 1 5 w.heap.size w' v' (bs ++ lebI n) ∧ Below w.heap.size w w' := by
  have h10 := Lib.hid (lebI_len10 n hn)
  have SA : Hid (Src Try.prog 1 57 (.slice A bs.length c) bs.length (bs.flatMap u8e) w) := Rd.src u8ok Try.underlying57 c h
  have t1 : Hid ((Value.int .u8 0).cells.size = 1) := rfl
  have l1 : Hid (([] : List Int).length + bs.length ≤ 140737488355328) := by show _ ≤ _; simp; omega
  have l2 : Hid ((([] : List Int).length + bs.length) * 1 ≤ 140737488355328) := by show _ ≤ _; simp; omega
  have HG := Lib.hid hg
  clear h hg
  go_enter Try.func87, Try.ntmps87
  go_wp2_with (at_builtin; refine at_list rfl (fun K hK => op_ownS u8ok _ _ _ _ _ _ _ rfl Try.underlying57 infoU8 t1.out w.heap.size (.slice none 0 0) (.slice A bs.length c) [] bs rfl rfl Own.nil SA.out (Nat.le_refl _) l2.out l1.out (fun v1 w1 ho1 hg1 => hK _ _ ?_)))
  have O1 : Hid (Own u8e 1 5 w.heap.size w1 v1 bs) := by show Own _ _ _ _ _ _ _; simpa using ho1
  have B1 : Hid (Below w.heap.size w w1) := Below.grown (Below.refl _ _) hg1 (Nat.le_refl _) (fun k e => by cases e)
  clear ho1 hg1 SA
  go_loopg [5, 12] 1 (fun m v' u wr => ∃ k : Nat, u = .int .i64 k ∧ k + m = 1 ∧ Hid (Own u8e 1 5 w.heap.size wr v' (if k = 0 then bs else bs ++ lebI n)) ∧ Hid (Below w.heap.size w wr))
  case atStart => exact ⟨0, rfl, rfl, O1.out, B1.out⟩
  case round =>
    obtain ⟨k0, rfl, hk, ho, hb⟩ := hrel
    by_cases hlt0 : k0 < 1
    · have hk0 : k0 = 0 := by omega
      subst hk0
      have ho0 : Hid (Own u8e 1 5 w.heap.size wr u5 bs) := ho.out
      have cg : wr.cell? ⟨g, 0, none⟩ = some (.int .u64 n) := (hb.out.cell (p := ⟨g, 0, none⟩) hgl).trans HG.out
      obtain ⟨G, hG⟩ : ∃ G, G = gk := ⟨_, rfl⟩
      clear ho
      go_wp2
      go_loopg [5, 7] n (fun m v' u wr => ∃ (k : Nat) (done : List Int), u = .int .u64 k ∧ k ≤ m ∧ k < 18446744073709551616 ∧ Hid (done ++ lebI k = bs ++ lebI n) ∧ Hid (Own u8e 1 5 w.heap.size wr v' done) ∧ Hid (Below w.heap.size w wr))
      case atStart => exact ⟨n, bs, rfl, Nat.le_refl _, hn, rfl, ho0.out, hb.out⟩
      case round =>
        obtain ⟨k, done, rfl, hkm, hk2, hd, ho, hb⟩ := hrel
        have hdl : Hid (done.length ≤ 1000010) := by
          show _ ≤ _
          have := congrArg List.length hd.out
          simp only [List.length_append] at this
          have := h10.out
          omega
        by_cases hlt : 128 ≤ k
        · have hs : Hid (done ++ [((k % 128 + 128 : Nat) : Int)] ++ lebI (k / 128) = bs ++ lebI n) := by
            show _ = _
            rw [← hd.out, lebI_ge (n := k) (by omega), List.append_assoc]; rfl
          have hz := Lib.hid hb.out.size
          have hob := Lib.hid ho.out.lt
          have HC2 : Hid ((done.length + 1) * 1 ≤ 140737488355328) := by show _ ≤ _; have := hdl.out; omega
          have HC3 : Hid (done.length + 1 ≤ 140737488355328) := by show _ ≤ _; have := hdl.out; omega
          have hor : bits .or .u8 ((k : Int) % 128) 128 = (k : Int) % 128 + 128 := u8_or128_right _ (by omega) (by omega)
          go_wp2_with (at_builtin; refine ap_own u8ok rfl _ _ _ _ _ _ rfl Try.underlying57 infoU8 rfl w.heap.size u5 done ((k : Int) % 128 + 128) #[_] rfl rfl wr.heap.size rfl rfl ho.out hz.out HC2.out HC3.out ?_; intro gg cap w5 o5 hg5 hat5 hlt5)
          go_roundg (k / 128)
          case measure => omega
          case rel =>
            refine ⟨k / 128, done ++ [(k : Int) % 128 + 128], by simp, Nat.le_refl _, by omega, ?_, by show Own _ _ _ _ _ _ _; simpa using o5, hb.out.grown hg5 hz.out (fun k e => (hob.out _ e).1)⟩
            show _ = _
            rw [← hs.out]
            simp
        · have hs : Hid (done ++ [(k : Int)] = bs ++ lebI n) := by
            show _ = _
            rw [← hd.out, lebI_lt (n := k) (by omega)]
          have hz := Lib.hid hb.out.size
          have hob := Lib.hid ho.out.lt
          have HC2 : Hid ((done.length + 1) * 1 ≤ 140737488355328) := by show _ ≤ _; have := hdl.out; omega
          have HC3 : Hid (done.length + 1 ≤ 140737488355328) := by show _ ≤ _; have := hdl.out; omega
          have hk8 : IntKind.u8.wrap (k : Int) = (k : Int) := by rw [IntKind.wrap_u8]; omega
          go_wp2_with (at_builtin; refine ap_own u8ok rfl _ _ _ _ _ _ rfl Try.underlying57 infoU8 rfl w.heap.size u5 done (k : Int) #[_] rfl rfl wr.heap.size rfl rfl ho.out hz.out HC2.out HC3.out ?_; intro gg cap w5 o5 hg5 hat5 hlt5)
          go_roundg 0
          case measure => omega
          case rel =>
            refine ⟨1, rfl, rfl, ?_, hb.out.grown hg5 hz.out (fun k e => (hob.out _ e).1)⟩
            show Own _ _ _ _ _ _ _
            rw [if_neg (by omega), ← hs.out]
            simpa using o5
    · have hk1 : k0 = 1 := by omega
      subst hk1
      have ho1 : Hid (Own u8e 1 5 w.heap.size wr u5 (bs ++ lebI n)) := ho.out
      clear ho
      go_wp2
      go_ret
      exact ⟨_, rfl, ho1.out, hb.out⟩
end Go.Proofs.Ytofdmkglhjpbcaa
