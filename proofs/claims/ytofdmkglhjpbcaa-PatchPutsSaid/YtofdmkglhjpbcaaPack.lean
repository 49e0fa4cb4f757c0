/- ref01.Text, Flag; pack.Writer: Num, Text, Flag, Bytes; slices.Clone of bytes -/
import Derived.Test.YtofdmkglhjpbcaaLebPut
import Derived.Lib.SliceRun
namespace Go.Proofs.Ytofdmkglhjpbcaa
open Go.RowKit
set_option linter.unusedVariables false
set_option linter.unusedSimpArgs false

def textI (s : Str) : List Int := lebI s.size ++ strBs s
def flagI (b : Bool) : List Int := if b then [1] else [0]

set_option maxRecDepth 100000 in
set_option maxHeartbeats 1000000 in
theorem rText_calls (w : World) (v : Value) (bs : List Int) (s : Str) (hs : s.size ≤ 1000000) (hl : bs.length ≤ 1000000) (B : Nat) (hB : B ≤ w.heap.size) (h : Own u8e 1 5 B w v bs) :
    Calls Try.prog 60 #[v, .string s] w fun e w' => ∃ v', e = .returned v' ∧ Own u8e 1 5 B w' v' (bs ++ textI s) ∧ Below B w w' ∧ KeptT w w' := by
  have HO := Lib.hid h
  have h10 := Lib.hid (lebI_len10 s.size (by omega))
  have hw : IntKind.u64.wrap (s.size : Int) = (s.size : Int) := by rw [IntKind.wrap_u64]; omega
  have t1 : Hid ((Value.int .u8 0).cells.size = 1) := rfl
  have hsl := Lib.hid (strBs_len s)
  clear h
  go_enter Try.func60, Try.ntmps60
  go_wp2_with fail
  refine (rNum_calls _ v bs s.size (by omega) hl B hB HO.out).mono ?_
  rintro e w1 ⟨v1, rfl, ho1, hb1, ht1⟩
  have O1 := Lib.hid ho1
  have T1 := Lib.hid ht1
  have hz1 := Lib.hid (Nat.le_trans hB hb1.size)
  have l1 : Hid ((bs ++ lebI s.size).length + (strBs s).length ≤ 140737488355328) := by show _ ≤ _; rw [hsl.out]; have := h10.out; simp; omega
  have l2 : Hid (((bs ++ lebI s.size).length + (strBs s).length) * 1 ≤ 140737488355328) := by show _ ≤ _; have := l1.out; omega
  have hob := Lib.hid ho1.lt
  have SS : Hid (Src Try.prog 1 9 (.string s) (strBs s).length ((strBs s).flatMap u8e) w1) := strBs_src Try.underlying9 s
  clear ho1
  go_wp2_with (at_builtin; refine at_list rfl (fun K hK => op_ownS u8ok _ _ _ _ _ _ _ rfl Try.underlying57 infoU8 t1.out B v1 (.string s) (bs ++ lebI s.size) (strBs s) rfl rfl O1.out SS.out hz1.out l2.out l1.out (fun v2 w2 ho2 hg2 => hK _ _ ?_)))
  go_ret
  exact ⟨_, rfl, by unfold textI; rw [← List.append_assoc]; exact ho2, hb1.grown hg2 hz1.out (fun k e => (hob.out _ e).1), T1.out.trans (KeptT.grown O1.out hg2)⟩
set_option maxRecDepth 100000 in
set_option maxHeartbeats 1000000 in
theorem rFlag_calls (w : World) (v : Value) (bs : List Int) (b : Bool) (hl : bs.length ≤ 1000000) (B : Nat) (hB : B ≤ w.heap.size) (h : Own u8e 1 5 B w v bs) :
    Calls Try.prog 61 #[v, .bool b] w fun e w' => ∃ v', e = .returned v' ∧ Own u8e 1 5 B w' v' (bs ++ flagI b) ∧ Below B w w' ∧ KeptT w w' := by
  have HO := Lib.hid h
  have hob := Lib.hid h.lt
  have HC2 : Hid ((bs.length + 1) * 1 ≤ 140737488355328) := by show _ ≤ _; omega
  have HC3 : Hid (bs.length + 1 ≤ 140737488355328) := by show _ ≤ _; omega
  have hBh := Lib.hid hB
  clear h hB
  cases b
  · go_enter Try.func61, Try.ntmps61
    go_wp2_with (at_builtin; refine ap_own u8ok rfl _ _ _ _ _ _ rfl Try.underlying57 infoU8 rfl B v bs 0 #[_] rfl rfl w.heap.size rfl rfl HO.out hBh.out HC2.out HC3.out ?_; intro gg cap w5 o5 hg5 hat5 hlt5)
    go_ret
    exact ⟨_, rfl, by simpa [flagI] using o5, Below.grown (Below.refl _ _) hg5 hBh.out (fun k e => (hob.out _ e).1), KeptT.grown HO.out hg5⟩
  · go_enter Try.func61, Try.ntmps61
    go_wp2_with (at_builtin; refine ap_own u8ok rfl _ _ _ _ _ _ rfl Try.underlying57 infoU8 rfl B v bs 1 #[_] rfl rfl w.heap.size rfl rfl HO.out hBh.out HC2.out HC3.out ?_; intro gg cap w5 o5 hg5 hat5 hlt5)
    go_ret
    exact ⟨_, rfl, by simpa [flagI] using o5, Below.grown (Below.refl _ _) hg5 hBh.out (fun k e => (hob.out _ e).1), KeptT.grown HO.out hg5⟩

/-- A writer at block g: it holds bs. -/
def WrAt (B : Nat) (W : World) (g : Nat) (bs : List Int) : Prop := B ≤ g ∧ ∃ v, W.heap[g]? = some (.cells #[v] 94 (0, 0)) ∧ Own u8e 1 5 B W v bs
theorem wr_cell {W : World} {g : Nat} {v : Value} {t : TypeId} {fr : Nat × Nat} (h : W.heap[g]? = some (.cells #[v] t fr)) : W.cell? ⟨g, 0, none⟩ = some v := by rw [blk_cell h]; rfl
theorem WrAt.below {B g : Nat} {W W' : World} {bs : List Int} (h : WrAt B W g bs) (hb : Below W.heap.size W W') : WrAt B W' g bs := by
  obtain ⟨h1, v, h2, h3⟩ := h
  exact ⟨h1, v, blk_below hb h2 (blk_lt h2), h3.below hb⟩
theorem WrAt.lt {B g : Nat} {W : World} {bs : List Int} (h : WrAt B W g bs) : g < W.heap.size := by
  obtain ⟨_, v, h2, _⟩ := h
  exact blk_lt h2
theorem own_not {B g : Nat} {W : World} {v u : Value} {bs : List Int} (h : Own u8e 1 5 B W v bs) (hg : W.heap[g]? = some (.cells #[u] 94 (0, 0))) : v.ownBlock ≠ some g := by
  rcases h.2 with ⟨rfl, h0⟩ | ⟨g', cap, cur, rfl, hb, hh, h1, h2, h3, h4⟩
  · intro e; cases e
  · intro e
    have e' : g' = g := by injection e
    subst e'
    rw [hg] at hh
    injection hh with hh
    injection hh with _ hh _
    revert hh
    decide
theorem WrAt.put {B g : Nat} {W : World} {bs' : List Int} {v u : Value} (h1 : B ≤ g) (h2 : W.heap[g]? = some (.cells #[u] 94 (0, 0))) (ho : Own u8e 1 5 B W v bs') (hv : v.ownBlock ≠ some g) : WrAt B (W.setCell ⟨g, 0, none⟩ v) g bs' :=
  ⟨h1, v, blk_set' h2 0 v rfl, ho.far hv v⟩
theorem WrAt.set {B g : Nat} {W : World} {bs bs' : List Int} {v : Value} (h : WrAt B W g bs) (ho : Own u8e 1 5 B W v bs') (hv : v.ownBlock ≠ some g) : WrAt B (W.setCell ⟨g, 0, none⟩ v) g bs' := by
  obtain ⟨h1, u, h2, h3⟩ := h
  exact ⟨h1, v, blk_set' h2 0 v rfl, ho.far hv v⟩

set_option maxRecDepth 100000 in
set_option maxHeartbeats 1000000 in
theorem wNum_calls (B : Nat) (w : World) (g : Nat) (bs : List Int) (p n : Nat) (hn : n < 18446744073709551616) (hl : bs.length ≤ 1000000) (h : WrAt B w g bs) (hp : w.cell? ⟨p, 0, none⟩ = some (.int .u64 n)) (hpl : p < w.heap.size) :
    Calls Try.prog 55 #[.pointer (some ⟨g, 0, none⟩), .slice (some ⟨p, 0, none⟩) 1 1] w fun e w' => e = .returned (.tuple #[]) ∧ WrAt B w' g (bs ++ lebI n) ∧ Below B w w' ∧ KeptT w w' := by
  have HW := Lib.hid h
  have HP := Lib.hid hp
  obtain ⟨h1, v, h2, h3⟩ := h
  obtain ⟨A, c, rfl, k1, k2, kr, -⟩ := h3.rd u8ok
  have KR := Lib.hid kr
  have HG := Lib.hid h2
  have c0 : w.cell? ⟨g, 0, none⟩ = some (.slice A bs.length c) := by rw [blk_cell h2]; rfl
  have hBw : Hid (B ≤ w.heap.size) := by show _ ≤ _; have := blk_lt h2; omega
  clear hp h2 h3 kr
  go_enter Try.func55, Try.ntmps55
  go_wp2_with fail
  refine (lebPut_calls _ A c bs p n hn hl KR.out HP.out hpl).mono ?_
  rintro e w1 ⟨v1, rfl, ho1, hb1⟩
  have W1 := Lib.hid (HW.out.below hb1)
  have O1 := Lib.hid (ho1.mono hBw.out)
  have hgl := Lib.hid HW.out.lt
  have hv1 : Hid (v1.ownBlock ≠ some g) := fun e => by have := (ho1.lt _ e).1; have := hgl.out; omega
  have T1 := Lib.hid (KeptT.below hb1)
  have B1 : Hid (Below B w w1) := ⟨hb1.os, hb1.tape, hb1.output, hb1.size, fun i hi => hb1.block i (Nat.lt_of_lt_of_le hi hBw.out)⟩
  have G1 := Lib.hid (blk_below hb1 HG.out hgl.out)
  have c1 : w1.cell? ⟨g, 0, none⟩ = some (.slice A bs.length c) := by rw [blk_cell G1.out]; rfl
  have f1 := blk_free G1.out 0
  have hgl1 := blk_lt G1.out
  obtain ⟨bs', hbs'⟩ : ∃ x, x = bs ++ lebI n := ⟨_, rfl⟩
  rw [← hbs'] at ho1 O1
  have HB' := Lib.hid hbs'
  obtain ⟨A1, c1', rfl, -, -, -, -⟩ := ho1.rd u8ok
  clear c0 ho1 hb1 hbs'
  go_wp2
  go_end0
  rw [← HB'.out]
  exact ⟨rfl, W1.out.set O1.out hv1.out, bl_set B1.out h1 _, T1.out.trans (KeptT.set G1.out)⟩

set_option maxRecDepth 100000 in
set_option maxHeartbeats 1000000 in
theorem wText_calls (B : Nat) (w : World) (g : Nat) (bs : List Int) (s : Str) (hs : s.size ≤ 1000000) (hl : bs.length ≤ 1000000) (h : WrAt B w g bs) :
    Calls Try.prog 56 #[.pointer (some ⟨g, 0, none⟩), .string s] w fun e w' => e = .returned (.tuple #[]) ∧ WrAt B w' g (bs ++ textI s) ∧ Below B w w' ∧ KeptT w w' := by
  have HW := Lib.hid h
  have h1 := h.1
  have hgl := h.lt
  have h10 := Lib.hid (lebI_len10 s.size (by omega))
  have hw : IntKind.u64.wrap (s.size : Int) = (s.size : Int) := by rw [IntKind.wrap_u64]; omega
  have t1 : Hid ((Value.int .u8 0).cells.size = 1) := rfl
  have hsl := Lib.hid (strBs_len s)
  have W0 : Hid (WrAt B (w.alloc (.cells #[.int .u64 (s.size : Int)] 96)) g bs) := h.below (bl_alloc (Below.refl _ _) _)
  have p0 : Hid ((w.alloc (.cells #[.int .u64 (s.size : Int)] 96)).cell? ⟨w.heap.size, 0, none⟩ = some (.int .u64 (s.size : Int))) := by show _ = _; rw [blk_cell (blk_new w _)]; rfl
  have z0 : Hid (w.heap.size < (w.alloc (.cells #[.int .u64 (s.size : Int)] 96)).heap.size) := by show _ < _; simp
  have B0 : Hid (Below B w (w.alloc (.cells #[.int .u64 (s.size : Int)] 96))) := (Below.refl _ _).alloc (by omega) _
  clear h
  go_enter Try.func56, Try.ntmps56
  go_wp2_with fail
  refine (wNum_calls B _ g bs w.heap.size s.size (by omega) hl W0.out p0.out z0.out).mono ?_
  rintro e w1 ⟨rfl, hW1, hb1, ht1⟩
  have T1 : Hid (KeptT w w1) := KeptT.trans (KeptT.below (bl_alloc (Below.refl _ _) _)) ht1
  have W1 := Lib.hid hW1
  have B1 : Hid (Below B w w1) := B0.out.trans hb1
  obtain ⟨h2, v, h3, ho⟩ := hW1
  have HO := Lib.hid ho
  have HG := Lib.hid h3
  obtain ⟨A1, c1, rfl, -, -, -, -⟩ := ho.rd u8ok
  have c0 : w1.cell? ⟨g, 0, none⟩ = some (.slice A1 (bs ++ lebI s.size).length c1) := by rw [blk_cell h3]; rfl
  have hz1 : Hid (B ≤ w1.heap.size) := by show _ ≤ _; have := blk_lt h3; omega
  have l1 : Hid ((bs ++ lebI s.size).length + (strBs s).length ≤ 140737488355328) := by show _ ≤ _; rw [hsl.out]; have := h10.out; simp; omega
  have l2 : Hid (((bs ++ lebI s.size).length + (strBs s).length) * 1 ≤ 140737488355328) := by show _ ≤ _; have := l1.out; omega
  have hob := Lib.hid ho.lt
  have hng := Lib.hid (own_not ho h3)
  have SS : Hid (Src Try.prog 1 9 (.string s) (strBs s).length ((strBs s).flatMap u8e) w1) := strBs_src Try.underlying9 s
  obtain ⟨bs2, hbs2⟩ : ∃ x, x = bs ++ lebI s.size := ⟨_, rfl⟩
  rw [← hbs2] at HO c0 l1 l2 W1 hob hng HG
  have HB2 := Lib.hid hbs2
  clear h3 ho hb1 W0 p0 z0 B0 hbs2 h10
  go_wp2_with (at_builtin; refine at_list rfl (fun K hK => op_ownS u8ok _ _ _ _ _ _ _ rfl Try.underlying57 infoU8 t1.out B (.slice A1 bs2.length c1) (.string s) bs2 (strBs s) rfl rfl HO.out SS.out hz1.out l2.out l1.out (fun v2 w2 ho2 hg2 => hK _ _ ?_)); obtain ⟨bs3, hbs3⟩ : ∃ x, x = bs2 ++ strBs s := ⟨_, rfl⟩; rw [← hbs3] at ho2; have HB3 := Lib.hid hbs3; have G2 := Lib.hid ((hg2.block _ (blk_lt HG.out) (fun e => hng.out e.symm)).trans HG.out); have B2 := Lib.hid (Below.grown B1.out hg2 hz1.out (fun k e => (hob.out _ e).1)); have O2 := Lib.hid ho2; have N2 := Lib.hid (own_not ho2 G2.out); have T2 := Lib.hid (T1.out.trans (KeptT.grown HO.out hg2)); have cg2 := wr_cell G2.out; have f2 := blk_free G2.out 0; have lg2 := blk_lt G2.out; clear hbs3 hg2; obtain ⟨A2, c2, rfl, -, -, -, -⟩ := Own.rd u8ok ho2; clear ho2)
  go_end0
  have e3 : bs3 = bs ++ textI s := by rw [HB3.out, HB2.out, List.append_assoc]; rfl
  rw [← e3]
  exact ⟨rfl, WrAt.put h1 G2.out O2.out N2.out, bl_set B2.out h1 _, T2.out.trans (KeptT.set G2.out)⟩
set_option maxRecDepth 100000 in
set_option maxHeartbeats 1000000 in
theorem wFlag_calls (B : Nat) (w : World) (g : Nat) (bs : List Int) (b : Bool) (hl : bs.length ≤ 1000000) (h : WrAt B w g bs) :
    Calls Try.prog 57 #[.pointer (some ⟨g, 0, none⟩), .bool b] w fun e w' => e = .returned (.tuple #[]) ∧ WrAt B w' g (bs ++ flagI b) ∧ Below B w w' ∧ KeptT w w' := by
  have h1 := h.1
  have hgl := h.lt
  have W0 : ∀ n : Int, Hid (WrAt B (w.alloc (.cells #[.int .u64 n] 96)) g bs) := fun n => h.below (bl_alloc (Below.refl _ _) _)
  have p0 : ∀ n : Int, Hid ((w.alloc (.cells #[.int .u64 n] 96)).cell? ⟨w.heap.size, 0, none⟩ = some (.int .u64 n)) := fun n => by show _ = _; rw [blk_cell (blk_new w _)]; rfl
  have z0 : ∀ n : Int, Hid (w.heap.size < (w.alloc (.cells #[.int .u64 n] 96)).heap.size) := fun n => by show _ < _; simp
  have B0 : ∀ n : Int, Hid (Below B w (w.alloc (.cells #[.int .u64 n] 96))) := fun n => (Below.refl _ _).alloc (by omega) _
  cases b
  · have e0 : lebI 0 = flagI false := lebI_lt (by omega)
    have hc := Lib.hid (wNum_calls B _ g bs w.heap.size 0 (by omega) hl (W0 0).out (p0 0).out (z0 0).out)
    have hB := B0 0
    clear W0 p0 z0 B0 h
    go_enter Try.func57, Try.ntmps57
    go_wp2_with fail
    refine hc.out.mono ?_
    rintro e w1 ⟨rfl, hW1, hb1, ht1⟩
    rw [e0] at hW1
    go_wp2
    go_end0
    exact ⟨rfl, hW1, hB.out.trans hb1, KeptT.trans (KeptT.below (bl_alloc (Below.refl _ _) _)) ht1⟩
  · have e0 : lebI 1 = flagI true := lebI_lt (by omega)
    have hc := Lib.hid (wNum_calls B _ g bs w.heap.size 1 (by omega) hl (W0 1).out (p0 1).out (z0 1).out)
    have hB := B0 1
    clear W0 p0 z0 B0 h
    go_enter Try.func57, Try.ntmps57
    go_wp2_with fail
    refine hc.out.mono ?_
    rintro e w1 ⟨rfl, hW1, hb1, ht1⟩
    rw [e0] at hW1
    go_wp2
    refine bodyPost_ret (results_none rfl _ _ _) rfl ?_
    exact ⟨rfl, hW1, hB.out.trans hb1, KeptT.trans (KeptT.below (bl_alloc (Below.refl _ _) _)) ht1⟩
set_option maxRecDepth 100000 in
set_option maxHeartbeats 1000000 in
theorem cloneB_calls (w : World) (A : Option Addr) (c : Nat) (bs : List Int) (hl : bs.length ≤ 1000000) (h : Rd u8e 1 w A bs) :
    Calls Try.prog 88 #[.slice A bs.length c] w fun e w' => ∃ v', e = .returned v' ∧ Own u8e 1 5 w.heap.size w' v' bs ∧ Below w.heap.size w w' := by
  have t1 : Hid ((Value.int .u8 0).cells.size = 1) := rfl
  have q24 : ∀ (w : World) (a : Option Addr) (n c n' c' : Nat), (binOp .eql 57 (.slice a n c) (.slice none n' c')).run Try.prog w = .ok (.bool a.isNone) w := fun w a n c n' c' => Lib.run_eql_slice_nil w _ _ a n c n' c' Try.underlying57
  cases A with
  | none =>
    have hb0 : bs = [] := by
      rcases h with h | ⟨_, _, h, _⟩
      · exact h
      · cases h
    subst hb0
    clear h
    go_enter Try.func88, Try.ntmps88
    go_wp2
    go_ret
    exact ⟨_, rfl, Own.nil, Below.refl _ _⟩
  | some a =>
    have hb1 : Hid (Below w.heap.size w (w.alloc (.cells #[] 5))) := bl_alloc (Below.refl _ w) _
    have HS : Hid (Src Try.prog 1 57 (.slice (some a) bs.length c) bs.length (bs.flatMap u8e) (w.alloc (.cells #[] 5))) := Rd.src u8ok Try.underlying57 c (h.below hb1.out (Nat.le_refl _))
    have HO : Hid (Own u8e 1 5 w.heap.size (w.alloc (.cells #[] 5)) (.slice (some ⟨w.heap.size, 0, none⟩) 0 0) []) :=
      ⟨rfl, .inr ⟨w.heap.size, 0, #[], rfl, Nat.le_refl _, blk_new w _, Nat.le_refl _, Nat.zero_le _, rfl, rfl⟩⟩
    have hz : Hid (w.heap.size ≤ (w.alloc (.cells #[] 5)).heap.size) := by show _ ≤ _; simp
    have l1 : Hid ((([] : List Int).length + bs.length) * 1 ≤ 140737488355328) := by show _ ≤ _; simp; omega
    have l2 : Hid (([] : List Int).length + bs.length ≤ 140737488355328) := by show _ ≤ _; simp; omega
    clear h
    go_enter Try.func88, Try.ntmps88
    go_wp2_with (at_builtin; refine at_list rfl (fun K hK => op_ownS u8ok _ _ _ _ _ _ _ rfl Try.underlying57 infoU8 t1.out w.heap.size (.slice (some ⟨w.heap.size, 0, none⟩) 0 0) (.slice (some a) bs.length c) [] bs rfl rfl HO.out HS.out hz.out l1.out l2.out (fun v' w' ho hg => hK _ _ ?_)))
    go_ret
    exact ⟨_, rfl, by simpa using ho, hb1.out.grown hg hz.out (fun k e => by cases e; exact Nat.le_refl _)⟩
set_option maxRecDepth 100000 in
set_option maxHeartbeats 1000000 in
theorem wBytes_calls (B : Nat) (w : World) (g : Nat) (bs : List Int) (hl : bs.length ≤ 1000000) (h : WrAt B w g bs) :
    Calls Try.prog 58 #[.pointer (some ⟨g, 0, none⟩)] w fun e w' => ∃ v', e = .returned v' ∧ Own u8e 1 5 w.heap.size w' v' bs ∧ Below w.heap.size w w' := by
  obtain ⟨h1, v, h2, h3⟩ := h
  obtain ⟨A, c, rfl, k1, k2, kr, -⟩ := h3.rd u8ok
  have KR := Lib.hid kr
  have c0 : w.cell? ⟨g, 0, none⟩ = some (.slice A bs.length c) := by rw [blk_cell h2]; rfl
  clear h3 kr h2
  go_enter Try.func58, Try.ntmps58
  go_wp2_with fail
  refine (cloneB_calls _ A c bs hl KR.out).mono ?_
  rintro e w1 ⟨v1, rfl, ho1, hb1⟩
  have O1 := Lib.hid ho1
  clear ho1
  go_wp2
  go_ret
  exact ⟨_, rfl, O1.out, hb1⟩
end Go.Proofs.Ytofdmkglhjpbcaa
