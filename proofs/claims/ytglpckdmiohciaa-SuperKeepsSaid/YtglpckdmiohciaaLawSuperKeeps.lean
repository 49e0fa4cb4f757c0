/- law05.SuperKeeps -/
import Derived.Test.YtglpckdmiohciaaSaveLaw2
import Derived.Test.YtglpckdmiohciaaOpenDev
import Derived.Test.YtglpckdmiohciaaLawDevKeeps
namespace Go.Proofs.Ytglpckdmiohciaa
open Go.RowKit
set_option linter.unusedVariables false
set_option linter.unusedSimpArgs false

def Sup.enc (s : Sup) : List Value := [.int .u64 s.epoch, .int .u32 s.start, .int .u32 s.pages, .int .u32 s.size]
section
variable {W1 wr w3 : World} {g : Nat} {D D' : Dv} {F : Nat → Prop}
theorem devB_save (h : DevB W1 wr g D) (a b c d : Int) (hs : Sup.ok ⟨a, b, c, d⟩) :
    Calls Try.prog 49 #[.pointer (some ⟨g, 0, none⟩), .agg #[.int .u64 a, .int .u32 b, .int .u32 c, .int .u32 d]] wr fun e w' => e = .returned (.int .i64 (saveR D ⟨a, b, c, d⟩).1) ∧ DevB W1 w' g (saveR D ⟨a, b, c, d⟩).2 := by
  obtain ⟨F, h1, h2, h3⟩ := h
  exact (save_calls h1 a b c d hs).mono fun e w' hh => ⟨hh.1, DevB.of_did h2 h3 hh.2⟩
theorem devB_load (h : DevB W1 wr g D) (x : Sup) (n : Int) (hx : loadR D = (x, n)) : Calls Try.prog 50 #[.pointer (some ⟨g, 0, none⟩)] wr fun e w' => e = .returned (.tuple #[.agg #[.int .u64 x.epoch, .int .u32 x.start, .int .u32 x.pages, .int .u32 x.size], .int .i64 n]) ∧ Below wr.heap.size wr w' := by
  obtain ⟨F, h1, h2, h3⟩ := h
  have := load_calls h1
  rwa [hx] at this
end
theorem DevB.rebase {W1 wr : World} {g : Nat} {D : Dv} (h : DevB W1 wr g D) {p : Nat} (hp : p < W1.heap.size) (i : Nat) (v : Value) : DevB (W1.setCell ⟨p, i, none⟩ v) (wr.setCell ⟨p, i, none⟩ v) g D := by
  obtain ⟨F, h1, h2, h3⟩ := h
  have hsz : (W1.setCell ⟨p, i, none⟩ v).heap.size = W1.heap.size := by simp [World.setCell]
  refine ⟨F, h1.chg (Chg.grown (grown_set wr p i v) (F := fun j => j = p) rfl) (fun j hj e => by have := h2 j hj; omega), fun j hj => by rw [hsz]; exact h2 j hj, ⟨h3.os, h3.tape, h3.output, by rw [hsz]; simpa [World.setCell] using h3.size, fun j hj => ?_⟩⟩
  rw [hsz] at hj
  by_cases e : j = p
  · subst e
    simp only [World.setCell, Array.getElem?_modify, if_true]
    rw [h3.block j hj]
  · rw [Below.heap_setCell _ _ _ _ e, Below.heap_setCell _ _ _ _ e]
    exact h3.block j hj
attribute [local go_sem high] eqSup
/-- A device, and a block beside it that stays. -/
def DevP (W1 wr : World) (g : Nat) (D : Dv) (p : Nat) (o : Obj) : Prop := ∃ F, DevAt wr g F D ∧ (∀ i, F i → W1.heap.size ≤ i) ∧ Below W1.heap.size W1 wr ∧ ¬ F p ∧ wr.heap[p]? = some o
section
variable {W1 wr w3 : World} {g p : Nat} {D D' : Dv} {o : Obj}
theorem DevP.dev (h : DevP W1 wr g D p o) : DevB W1 wr g D := by obtain ⟨F, a, b, c, _⟩ := h; exact ⟨F, a, b, c⟩
theorem DevP.bl (h : DevP W1 wr g D p o) : Below W1.heap.size W1 wr := h.dev.bl
theorem DevP.blk (h : DevP W1 wr g D p o) : wr.heap[p]? = some o := by obtain ⟨F, a, b, c, d, e⟩ := h; exact e
theorem DevP.mk' (h : DevB W1 wr g D) (o : Obj) : DevP W1 (wr.alloc o) g D wr.heap.size o := by
  obtain ⟨F, a, b, c⟩ := h
  exact ⟨F, a.alloc o, b, c.alloc c.size o, fun q => Nat.lt_irrefl _ (a.lt _ q), blk_new wr o⟩
theorem DevP.below (h : DevP W1 wr g D p o) (hb : Below wr.heap.size wr w3) : DevP W1 w3 g D p o := by
  obtain ⟨F, a, b, c, d, e⟩ := h
  exact ⟨F, a.below hb, b, bl_then c c.size hb, d, blk_below hb e (blk_lt e)⟩
theorem DevP.rebase (h : DevP W1 wr g D p o) {q : Nat} (hq : q < W1.heap.size) (hne : p ≠ q) (i : Nat) (v : Value) : DevP (W1.setCell ⟨q, i, none⟩ v) (wr.setCell ⟨q, i, none⟩ v) g D p o := by
  obtain ⟨F, h1, h2, h3, h4, h5⟩ := h
  have hsz : (W1.setCell ⟨q, i, none⟩ v).heap.size = W1.heap.size := by simp [World.setCell]
  refine ⟨F, h1.chg (Chg.grown (grown_set wr q i v) (F := fun j => j = q) rfl) (fun j hj e => by have := h2 j hj; omega), fun j hj => by rw [hsz]; exact h2 j hj, ⟨h3.os, h3.tape, h3.output, by rw [hsz]; simpa [World.setCell] using h3.size, fun j hj => ?_⟩, h4, blk_far h5 hne v⟩
  rw [hsz] at hj
  by_cases e : j = q
  · subst e
    simp only [World.setCell, Array.getElem?_modify, if_true]
    rw [h3.block j hj]
  · rw [Below.heap_setCell _ _ _ _ e, Below.heap_setCell _ _ _ _ e]
    exact h3.block j hj
theorem DevP.calls {f : FuncId} {args : Array Value} {R : Ending → Prop} (h : DevP W1 wr g D p o) (hc : ∀ F, DevAt wr g F D → Calls Try.prog f args wr fun e w' => R e ∧ Did F wr w' g D') :
    Calls Try.prog f args wr fun e w' => R e ∧ DevP W1 w' g D' p o := by
  obtain ⟨F, a, b, c, d, e⟩ := h
  refine (hc F a).mono fun e' w' hh => ⟨hh.1, ?_⟩
  obtain ⟨F', k1, k2, k3⟩ := hh.2
  have := blk_lt e
  exact ⟨F', k1, fun i hi => (k3 i hi).elim (b i) (fun a => Nat.le_trans c.size a), bl_chg c c.size k2 b, fun q => (k3 p q).elim d (fun a => by omega), k2.blk e d⟩
end
/-- The supers that are saved. -/
def xsOf (l : List Sup) (j : Nat) : Sup := { (l[j]?.getD zeroSup) with epoch := j + 1 }
theorem xs_good {l : List Sup} (h : ∀ x ∈ l, x.ok) (hl : l.length ≤ 250) : Good (xsOf l) l.length := fun j hj => by
  have hx : l[j]? = some l[j] := List.getElem?_eq_getElem hj
  obtain ⟨_, o⟩ := h l[j] (List.getElem_mem hj)
  unfold xsOf
  rw [hx]
  exact ⟨⟨⟨by simp only; omega, by simp only; omega⟩, o⟩, rfl⟩
set_option maxRecDepth 100000 in
set_option maxHeartbeats 8000000 in
theorem superKeeps_calls (w : World) (A : Option Addr) (c : Nat) (l : List Sup) (s : Sup) (arm : Int) (fk : List Bool) (ft fb : Int) (K : Option Addr) (ck : Nat) (hA : Rd Sup.enc 4 w A l) (hc : l.length ≤ c) (hbig : c ≤ 9223372036854775807) (hg : ∀ x ∈ l, x.ok) (hs : s.ok) (hK : Rd boolEnc 1 w K fk) (harm : arm ≤ 9223372036854775807) :
    Calls Try.prog 11 #[.slice A l.length c, .agg #[.int .u64 s.epoch, .int .u32 s.start, .int .u32 s.pages, .int .u32 s.size], .int .i64 arm, .agg #[.slice K fk.length ck, .int .i64 ft, .int .i64 fb]] w fun e w' => e = .returned (.bool true) ∧ Below w.heap.size w w' := by
  obtain ⟨W1, hW1⟩ : ∃ W, W = (w.alloc (.cells #[.int .u64 s.epoch, .int .u32 s.start, .int .u32 s.pages, .int .u32 s.size] 37)).alloc (.cells #[.slice K fk.length ck, .int .i64 ft, .int .i64 fb] 47) := ⟨_, rfl⟩
  have hb1 : Hid (Below w.heap.size w W1) := hW1 ▸ bl_alloc (bl_alloc (Below.refl _ w) _) _
  have hs1 : W1.heap.size = w.heap.size + 2 := by rw [hW1]; simp
  have hx0 : SupAt W1 w.heap.size s := hW1 ▸ (supAt_new w s _ rfl).alloc _
  have hx1 : W1.heap[w.heap.size + 1]? = some (.cells #[.slice K fk.length ck, .int .i64 ft, .int .i64 fb] 47 (0, 0)) := by
    rw [hW1]
    have := blk_new (w.alloc (.cells #[.int .u64 s.epoch, .int .u32 s.start, .int .u32 s.pages, .int .u32 s.size] 37)) (.cells #[.slice K fk.length ck, .int .i64 ft, .int .i64 fb] 47)
    rwa [World.size_alloc] at this
  have HR := Lib.hid (hA.below hb1.out (Nat.le_refl _))
  have HK := Lib.hid (hK.below hb1.out (Nat.le_refl _))
  have hKw := Lib.hid hK
  have HX0 := Lib.hid hx0
  have HX := Lib.hid hx1
  have HG := Lib.hid hg
  have hW2 := hW1.symm
  clear hA hK hx1 hx0 hg hW1
  go_enter Try.func11, Try.ntmps11
  go_upto_region 1 with fail

  clear hW2
  go_wp2_with fail
  refine (awake05_calls W1).mono ?_
  rintro e w2 ⟨rfl, hb2⟩
  have HB2 := Lib.hid hb2
  clear hb2
  have hX2 := blk_below HB2.out HX.out (by omega)
  have x0 := blk_cell hX2 0
  simp at x0
  clear hX2
  rcases (Decidable.em ((8 : Int) < (l.length : Int))) with hn | hn
  case' inl =>
    go_wp2
    go_ret
    exact ⟨rfl, hb1.out.trans (HB2.out.mono (by omega))⟩
  rcases (Decidable.em ((20 : Int) < (fk.length : Int))) with hn2 | hn2
  case' inl =>
    go_wp2
    go_ret
    exact ⟨rfl, hb1.out.trans (HB2.out.mono (by omega))⟩
  have HGood := Lib.hid (xs_good HG.out (by omega))
  go_wp2_with fail
  refine (devB_new HB2.out 2).mono ?_
  rintro e w5 ⟨g, rfl, hd5⟩
  have HD5 := Lib.hid hd5
  clear hd5 x0
  go_wp2
  go_loopg [32, 10] l.length (fun mm i ep wr => ∃ (k : Nat) (D : Dv), i = .int .i64 k ∧ ep = .int .u64 k ∧ k + mm = l.length ∧ Hid (DevB W1 wr g D) ∧ Hid (Two D) ∧ Hid (Saved (xsOf l) k D.kept))
  case atStart => exact ⟨0, _, rfl, rfl, by omega, HD5.out, ⟨⟨rfl, rfl, rfl⟩, rfl, rfl⟩, saved_zero⟩
  case round =>
    obtain ⟨k, D, rfl, rfl, hk, hD, ha, hsv⟩ := hrel
    rcases Nat.lt_or_ge k l.length with hlt | hge
    · rcases HR.out with h0 | ⟨b, off, rfl, hbl, hcell⟩
      · simp [h0] at hlt
      have hx : l[k]? = some l[k] := List.getElem?_eq_getElem hlt
      have hok := Lib.hid (HG.out _ (List.getElem_mem hlt))
      have hxs : Hid (xsOf l k = { l[k] with epoch := k + 1 }) := by show _ = _; unfold xsOf; rw [hx]; rfl
      have hrg := (HR.out.below hD.out.bl (Nat.le_refl _)).range hx
      have c0 : wr.cell? ⟨b, off + k * 4, none⟩ = some (.int .u64 l[k].epoch) := hrg 0 _ rfl
      have c1 : wr.cell? ⟨b, off + k * 4 + 1, none⟩ = some (.int .u32 l[k].start) := hrg 1 _ rfl
      have c2 : wr.cell? ⟨b, off + k * 4 + 2, none⟩ = some (.int .u32 l[k].pages) := hrg 2 _ rfl
      have c3 : wr.cell? ⟨b, off + k * 4 + 3, none⟩ = some (.int .u32 l[k].size) := hrg 3 _ rfl
      generalize l[k] = x at *
      have i0 : (0 : Int) ≤ (k : Int) := by omega
      have i1 : (k : Int) < (l.length : Int) := by omega
      have hw1 : IntKind.u64.wrap ((k : Int) + 1) = (k : Int) + 1 := by rw [IntKind.wrap_u64]; omega
      have hD2 : Hid (∀ o, DevB W1 (wr.alloc o) g D) := fun o => hD.out.alloc o
      clear hcell hx hrg
      have hok2 : Hid (Sup.ok ⟨(k : Int) + 1, x.start, x.pages, x.size⟩) := ⟨⟨by simp only; omega, by simp only; omega⟩, hok.out.2⟩
      go_wp2_with fail
      refine (devB_save (hD2.out _) ((k : Int) + 1) x.start x.pages x.size hok2.out).mono ?_
      rintro e w6 ⟨rfl, hd6⟩
      obtain ⟨e1, e2, e3⟩ := calm_save ha.out ⟨(k : Int) + 1, x.start, x.pages, x.size⟩
      rw [e1]
      have HD6 := Lib.hid hd6
      have HT6 := Lib.hid e2
      have HS6 : Hid (Saved (xsOf l) (k + 1) (saveR D ⟨(k : Int) + 1, x.start, x.pages, x.size⟩).2.kept) := by
        show Saved _ _ _
        rw [e3]
        have := saved_next hsv.out (by rw [hxs.out])
        rw [hxs.out] at this
        exact this
      clear hd6 e1 e2 e3 c0 c1 c2 c3
      go_wp2
      go_roundg (gk - 1)
      case measure => omega
      case rel => exact ⟨k + 1, _, by go_num, by go_num, by omega, HD6, HT6, HS6⟩
    · have hkl : k = l.length := by omega
      subst hkl
      obtain ⟨was, en, hwas⟩ : ∃ was en, loadK D.kept = (was, en) := ⟨_, _, rfl⟩
      have hld : loadR D = (was, en) := (load_two ha.out).trans hwas
      have HWas := Lib.hid hwas
      have hcase : (l.length = 0 ∧ en = 50 ∧ was.epoch = 0) ∨ (0 < l.length ∧ en = 0 ∧ was.epoch = l.length) := by
        have := load_saved HGood.out hsv.out
        rw [hwas] at this
        by_cases hm : l.length = 0
        · rw [if_pos hm] at this
          cases this
          exact .inl ⟨hm, rfl, rfl⟩
        · rw [if_neg hm] at this
          cases this
          exact .inr ⟨by omega, rfl, by show (_ : Int) + 1 = _; omega⟩
      have i9 : ¬ ((l.length : Int) < (l.length : Int)) := by omega
      clear hwas
      go_wp2_with fail
      refine (devB_load hD.out was en hld).mono ?_
      rintro e w6 ⟨rfl, hb6⟩
      have HD6 := Lib.hid (hD.out.below hb6)
      clear hb6 hD hld
      have hwe : Hid (was.epoch = l.length) := by show _ = _; rcases hcase with ⟨a, _, b⟩ | ⟨a, _, b⟩ <;> omega
      have hb6 := HD6.out.bl
      have hx6 := HX0.out.below' hb6 (by omega)
      have hf6 := blk_below hb6 HX.out (by omega)
      obtain ⟨s0, s1, s2, s3⟩ := hx6.cells
      have sf := hx6.froz
      have s0a : ∀ o, (w6.alloc o).cell? ⟨w.heap.size, 0, none⟩ = some (.int .u64 s.epoch) := fun o => (hx6.alloc o).cells.1
      have sfa : ∀ o, (w6.alloc o).frozen? ⟨w.heap.size, 0, none⟩ = false := fun o => (hx6.alloc o).froz 0
      have hw2 : IntKind.u64.wrap ((l.length : Int) + 1) = (l.length : Int) + 1 := by rw [IntKind.wrap_u64]; omega
      have hne : w6.heap.size ≠ w.heap.size := by have := hb6.size; omega
      -- the world behind the storing of the epoch
      obtain ⟨W1s, hW1s⟩ : ∃ W, W = W1.setCell ⟨w.heap.size, 0, none⟩ (.int .u64 ((l.length : Int) + 1)) := ⟨_, rfl⟩
      obtain ⟨w8, hw8⟩ : ∃ W, (w6.alloc (.cells #[.int .u64 was.epoch, .int .u32 was.start, .int .u32 was.pages, .int .u32 was.size] 37)).setCell ⟨w.heap.size, 0, none⟩ (.int .u64 ((l.length : Int) + 1)) = W := ⟨_, rfl⟩
      have hP8 : Hid (DevP W1s w8 g D w6.heap.size (.cells #[.int .u64 was.epoch, .int .u32 was.start, .int .u32 was.pages, .int .u32 was.size] 37)) := by
        show DevP _ _ _ _ _ _
        have := (DevP.mk' HD6.out (.cells #[.int .u64 was.epoch, .int .u32 was.start, .int .u32 was.pages, .int .u32 was.size] 37)).rebase (q := w.heap.size) (by omega) hne 0 (.int .u64 ((l.length : Int) + 1))
        rw [hw8, ← hW1s] at this
        exact this
      have hsS : W1s.heap.size = w.heap.size + 2 := by rw [hW1s]; simpa [World.setCell] using hs1
      have hbS : Hid (Below w.heap.size w W1s) := by show Below _ _ _; rw [hW1s]; exact bl_set hb1.out (Nat.le_refl _) _
      have hXS : Hid (SupAt W1s w.heap.size { s with epoch := (l.length : Int) + 1 }) := by
        show SupAt _ _ _
        rw [hW1s]
        exact ⟨blk_set' HX0.out.1 0 _ rfl, by simp [World.setCell]; omega⟩
      have hFS : Hid (W1s.heap[w.heap.size + 1]? = some (.cells #[.slice K fk.length ck, .int .i64 ft, .int .i64 fb] 47 (0, 0))) := by
        show _ = _
        rw [hW1s]
        exact blk_far HX.out (by simp) _
      clear hW1s
      have hok9 : Hid (Sup.ok ⟨(l.length : Int) + 1, s.start, s.pages, s.size⟩) := ⟨⟨by simp only; omega, by simp only; omega⟩, hs.2⟩
      have hT := Lib.hid ha.out
      have hfin : Hid (Two ((saveR (D.arm arm) ⟨(l.length : Int) + 1, s.start, s.pages, s.size⟩).2.crash ⟨fk, ft, fb⟩) ∧ (loadR ((saveR (D.arm arm) ⟨(l.length : Int) + 1, s.start, s.pages, s.size⟩).2.crash ⟨fk, ft, fb⟩) = (⟨(l.length : Int) + 1, s.start, s.pages, s.size⟩, 0) ∨
          ((saveR (D.arm arm) ⟨(l.length : Int) + 1, s.start, s.pages, s.size⟩).1 ≠ 0 ∧ loadR ((saveR (D.arm arm) ⟨(l.length : Int) + 1, s.start, s.pages, s.size⟩).2.crash ⟨fk, ft, fb⟩) = (was, en)))) := by
        obtain ⟨q1, q2⟩ := crash_save ha.out arm ⟨fk, ft, fb⟩ ⟨(l.length : Int) + 1, s.start, s.pages, s.size⟩
        refine ⟨q1, ?_⟩
        rw [load_two q1]
        rcases q2 with ⟨_, e⟩ | ⟨e0, e | ⟨k, hk, e⟩⟩
        · rw [e]
          exact .inl (load_done HGood.out hsv.out hok9.out rfl)
        · rw [e]
          exact .inr ⟨e0, HWas.out⟩
        · rw [e]
          rcases load_crash HGood.out hsv.out (by omega) hok9.out rfl k hk with e2 | e2
          · exact .inl e2
          · exact .inr ⟨e0, e2.trans HWas.out⟩
      clear hx6 hf6 hb6 HD6 ha hsv HWas hT
      rcases hcase with ⟨hm, he, -⟩ | ⟨hm, he, -⟩
      all_goals
        subst he
        first | have hmN : 0 < l.length := by omega | have hmI : ¬ (0 : Int) < (l.length : Int) := by omega
        clear hm
        go_upto_region 19 with fail
        clear hw8
        go_wp2_with fail
        refine (hP8.out.calls (R := fun e => e = .returned (.tuple #[])) (fun F hF => arm_calls hF arm harm)).mono ?_
        rintro e w9 ⟨rfl, hp9⟩
        have HP9 := Lib.hid hp9
        have hx9 := hXS.out.below' hp9.bl (by omega)
        obtain ⟨t0, t1, t2, t3⟩ := hx9.cells
        clear hp9 hP8 s0 s1 s2 s3 sf s0a sfa hx9
        go_wp2_with fail
        refine (HP9.out.calls (R := fun e => e = .returned (.int .i64 (saveR (D.arm arm) ⟨(l.length : Int) + 1, s.start, s.pages, s.size⟩).1)) (fun F hF => save_calls hF ((l.length : Int) + 1) s.start s.pages s.size hok9.out)).mono ?_
        rintro e w10 ⟨rfl, hp10⟩
        have HP10 := Lib.hid hp10
        have hf10 := blk_below hp10.bl hFS.out (by omega)
        have f0 := blk_cell hf10 0
        have f1 := blk_cell hf10 1
        have f2 := blk_cell hf10 2
        simp at f0 f1 f2
        generalize saveR (D.arm arm) ⟨(l.length : Int) + 1, s.start, s.pages, s.size⟩ = r10 at *
        obtain ⟨done, D10⟩ := r10
        clear hp10 HP9 t0 t1 t2 t3 hf10
        go_wp2_with fail
        refine (HP10.out.calls (R := fun e => e = .returned (.tuple #[])) (fun F hF => crash_calls hF ⟨fk, ft, fb⟩ K ck (hKw.out.below (hbS.out.trans (HP10.out.bl.mono (by omega))) (Nat.le_refl _)))).mono ?_
        rintro e w11 ⟨rfl, hp11⟩
        have HP11 := Lib.hid hp11
        clear hp11 HP10 f0 f1 f2
        have hbz := Lib.hid (hb1.out)
        obtain ⟨hT, hq | ⟨hd0, hq⟩⟩ := hfin.out
        · go_wp2_with fail
          refine (devB_load HP11.out.dev _ _ hq).mono ?_
          rintro e w12 ⟨rfl, hb12⟩
          have HP12 := HP11.out.below hb12
          have hx12 := hXS.out.below' HP12.bl (by omega)
          have hx12a := fun o => (hx12.alloc o).cells
          have t0 := fun o => (hx12a o).1
          have t1 := fun o => (hx12a o).2.1
          have t2 := fun o => (hx12a o).2.2.1
          have t3 := fun o => (hx12a o).2.2.2
          have hB12 : Hid (Below w.heap.size w w12) := hbS.out.trans (HP12.bl.mono (by omega))
          have hss := same4_self ((l.length : Int) + 1) s.start s.pages s.size
          clear HP12 hx12 hx12a hb12 hT hq hfin
          go_wp2
          go_ret
          exact ⟨rfl, hB12.out.alloc hB12.out.size _⟩
        · have hdb : (done == 0) = false := by simpa using hd0
          go_wp2_with fail
          refine (devB_load HP11.out.dev _ _ hq).mono ?_
          rintro e w12 ⟨rfl, hb12⟩
          have HP12 := HP11.out.below hb12
          have hx12 := hXS.out.below' HP12.bl (by omega)
          have hx12a := fun o => (hx12.alloc o).cells
          have t0 := fun o => (hx12a o).1
          have t1 := fun o => (hx12a o).2.1
          have t2 := fun o => (hx12a o).2.2.1
          have t3 := fun o => (hx12a o).2.2.2
          have hu : SupAt w12 w6.heap.size was := ⟨HP12.blk, blk_lt HP12.blk⟩
          have hua := fun o => (hu.alloc o).cells
          have v0 := fun o => (hua o).1
          have v1 := fun o => (hua o).2.1
          have v2 := fun o => (hua o).2.2.1
          have v3 := fun o => (hua o).2.2.2
          have hB12 : Hid (Below w.heap.size w w12) := hbS.out.trans (HP12.bl.mono (by omega))
          have hss := same4_self was.epoch was.start was.pages was.size
          have hsn : same4 was.epoch was.start was.pages was.size ((l.length : Int) + 1) s.start s.pages s.size = false := by
            have : (was.epoch == (l.length : Int) + 1) = false := by have := hwe.out; simp; omega
            unfold same4
            rw [this]
            rfl
          clear HP12 hx12 hx12a hb12 hT hq hfin hu hua
          go_wp2
          go_ret
          exact ⟨ret_bool (by simpa using hd0), hB12.out.alloc hB12.out.size _⟩
def Supers (W : World) (v : Value) (l : List Sup) : Prop := ∃ A c, v = .slice A l.length c ∧ l.length ≤ c ∧ c ≤ 9223372036854775807 ∧ Rd Sup.enc 4 W A l ∧ (∀ x ∈ l, x.ok)
theorem superKeeps_row (w : World) (v0 v1 v2 v3 : Value) (l : List Sup) (s : Sup) (arm : Int) (f : Fate) (h0 : Supers w v0 l) (h1 : SupV v1 s) (h2 : IntV v2 arm) (h3 : FateV w v3 f) :
    Calls Try.prog 11 #[v0, v1, v2, v3] w fun e w' => e = .returned (.bool true) ∧ Below w.heap.size w w' := by
  obtain ⟨A, c, rfl, hc, hbig, hA, hg⟩ := h0
  obtain ⟨rfl, hs⟩ := h1
  obtain ⟨rfl, _, harm⟩ := h2
  obtain ⟨K, ck, rfl, hk, hK⟩ := h3
  exact superKeeps_calls w A c l s arm f.keep f.torn f.bytes K ck hA hc hbig hg hs hK harm
section
open Go.ChangeShapes Go.WideShapes Go.Deep
variable {H : Type} {he : TypeId × Value → H} {W : World} {base : Nat} {spare : Nat → Bool} {held : Bool}
theorem dec_sup (fuel : Nat) (cs : List Value) (y : DataW H × List MemPlace) (hl : cs.length = 4) (h : DataW.trod he Try.prog W base spare held fuel 37 cs = some y) : ∃ s : Sup, cs = s.enc ∧ s.ok := by
  obtain ⟨s, e, hk⟩ := dec_super fuel cs y hl h
  exact ⟨s, e, hk⟩
set_option maxRecDepth 100000 in
theorem open_supers {r : Reach} {b0 : Nat} {v : Value} {d : DataW H} {ps : List MemPlace} (hv : Value.okWide Try.prog W r b0 77 v) (h : DataW.Trod he Try.prog W base spare held 77 v d ps) : ∃ l, Supers W v l := by
  obtain ⟨l, A, c, h1, h2, h3, h4, h5, h6⟩ := open_rows (enc := Sup.enc) (sz := 4) (good := Sup.ok) (by omega) Try.underlying77 (by kernel_rfl) dec_sup hv h
  exact ⟨l, A, c, h1, h2, h3, h4, h5⟩
end
end Go.Proofs.Ytglpckdmiohciaa
