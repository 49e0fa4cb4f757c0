/- diff.Of -/
import Derived.Test.YtofdmkglhjpbcaaCursor
import Derived.Test.YtofdmkglhjpbcaaOwn
namespace Go.Proofs.Ytofdmkglhjpbcaa
open Go.RowKit
set_option linter.unusedVariables false
set_option linter.unusedSimpArgs false

theorem info35 : (Try.prog.info? 35).map (fun i => (i.zero, i.size, i.bytes)) = some (some (.agg #[.string ⟨#[]⟩, .bool false, .string ⟨#[]⟩, .bool false, .string ⟨#[]⟩]), 5, 64) := by kernel_rfl

set_option maxRecDepth 100000 in
set_option maxHeartbeats 1000000 in
theorem DiffOf_calls (w : World) (A B : Option Addr) (c d : Nat) (l m : List Entry) (hA : Rd Entry.enc 2 w A l) (hB : Rd Entry.enc 2 w B m) (hc : l.length ≤ c) (hd : m.length ≤ d) (hc' : c ≤ 9223372036854775807) (hd' : d ≤ 9223372036854775807)
    (hA' : l ≠ [] → ∀ a, A = some a → a.block < w.heap.size) (hB' : m ≠ [] → ∀ a, B = some a → a.block < w.heap.size) (hl : l.length + m.length ≤ 1000000) :
    Calls Try.prog 16 #[.slice A l.length c, .slice B m.length d] w fun e w' => ∃ v, e = .returned v ∧ Own Change.enc 5 35 w.heap.size w' v (ofL (l.length + m.length) l m) ∧ Below w.heap.size w w' := by
  have hA1 := Lib.hid hA
  have hB1 := Lib.hid hB
  clear hA hB
  have HA := Lib.hid hA'
  have HB := Lib.hid hB'
  clear hA' hB'
  go_enter Try.func16, Try.ntmps16
  go_wp2
  go_loopg [9] (l.length + m.length) (fun n v wr => ∃ (l' m' : List Entry) (done : List Change), l'.length + m'.length ≤ n ∧ Hid (done ++ ofL n l' m' = ofL (l.length + m.length) l m) ∧ Hid (done.length + n ≤ l.length + m.length) ∧ Hid (Cur w.heap.size wr w.heap.size l') ∧ Hid (Cur w.heap.size wr (w.heap.size + 1) m') ∧
    Hid (Own Change.enc 5 35 (w.heap.size + 2) wr v done) ∧ Below w.heap.size w wr)
  case atStart => 
    refine ⟨l, m, [], Nat.le_refl _, by show _ = _; simp, by show _ ≤ _; simp, ?_, ?_, Own.nil, bl_alloc (bl_alloc (Below.refl _ _) _) _⟩
    · exact ⟨A, c, blk_alloc (blk_new _ _) _, hc, hc', hA1.out.below (bl_alloc (bl_alloc (Below.refl _ _) _) _) (Nat.le_refl _), Nat.le_refl _, HA.out⟩
    · exact ⟨B, d, by have := blk_new (w.alloc (.cells #[.slice A l.length c] 76)) (.cells #[.slice B m.length d] 76); simpa using this, hd, hd', hB1.out.below (bl_alloc (bl_alloc (Below.refl _ _) _) _) (Nat.le_refl _), by omega, HB.out⟩
  case round =>
    obtain ⟨l', m', done, hn, hv, hn2, hx, hy, ho, hb⟩ := hrel
    have hdx := Lib.hid (fun wx (h : Cur w.heap.size wx w.heap.size l') => curDone_calls _ wx _ l' h)
    have hdy := Lib.hid (fun wx (h : Cur w.heap.size wx (w.heap.size + 1) m') => curDone_calls _ wx _ m' h)
    have z1 := hy.out.lt
    by_cases hlm : l' = [] ∧ m' = []
    · obtain ⟨rfl, rfl⟩ := hlm
      have hfin : Hid (done = ofL (l.length + m.length) l m) := by
        show _ = _
        rw [← hv.out]
        cases gk <;> simp [ofL]
      go_wp2_with fail
      refine (hdx.out _ hx.out).mono ?_
      rintro e w1 ⟨rfl, rfl⟩
      go_wp2_with fail
      refine (hdy.out _ hy.out).mono ?_
      rintro e w1 ⟨rfl, rfl⟩
      go_wp2
      go_ret
      exact ⟨u9, rfl, hfin.out ▸ ho.out.mono (by omega), hb⟩
    · obtain ⟨k, hk⟩ : ∃ k, gk = k + 1 := ⟨gk - 1, by
        cases l' with
        | nil => cases m' with
          | nil => exact absurd ⟨rfl, rfl⟩ hlm
          | cons y m' => simp at hn; omega
        | cons x l' => simp at hn; omega⟩
      subst hk
      have hlen := Lib.hid (take_len l' m' hlm)
      have hle := Lib.hid (fun wx (h : Cur w.heap.size wx w.heap.size l') (h2 : Cur w.heap.size wx (w.heap.size + 1) m') => least_calls _ wx _ _ l' m' h h2 hlm)
      have hemp : Hid ((l'.isEmpty && m'.isEmpty) = false) := ie_and hlm
      clear hlm
      rcases (Decidable.em (l' = [])) with h0 | h0
      case' inl =>
        have e0 := ie_t h0
        clear h0
        have e1 : m'.isEmpty = false := by have := hemp.out; rw [e0] at this; simpa using this
        go_wp2_with fail
        refine (hdx.out _ hx.out).mono ?_
        rintro e w1 ⟨rfl, rfl⟩
        go_wp2_with fail
        refine (hdy.out _ hy.out).mono ?_
        rintro e w1 ⟨rfl, rfl⟩
      case' inr =>
        have e0 := ie_f h0
        clear h0
        go_wp2_with fail
        refine (hdx.out _ hx.out).mono ?_
        rintro e w1 ⟨rfl, rfl⟩
      all_goals
        go_wp2_with fail
        refine (hle.out _ hx.out hy.out).mono ?_
        rintro e w1 ⟨rfl, b1⟩
        have hx1 := Lib.hid (hx.out.below b1)
        have hy1 := Lib.hid (hy.out.below b1)
        have ho1 := Lib.hid (ho.out.below b1)
        have hb1 := bl_then hb hb.size b1
        have z2 := hy1.out.lt
        clear hx hy ho hb b1 z1 hle hdx hdy
        have hv2 : Hid (done ++ ((if (takeK l' (leastKey l' m')).2.1 ≠ (takeK m' (leastKey l' m')).2.1 ∨ (takeK l' (leastKey l' m')).1 ≠ (takeK m' (leastKey l' m')).1 then
            [(⟨leastKey l' m', (takeK l' (leastKey l' m')).2.1, (takeK l' (leastKey l' m')).1, (takeK m' (leastKey l' m')).2.1, (takeK m' (leastKey l' m')).1⟩ : Change)] else [])
            ++ ofL k (takeK l' (leastKey l' m')).2.2 (takeK m' (leastKey l' m')).2.2) = ofL (l.length + m.length) l m) := by
          show _ = _
          rw [← hv.out, ofL, hemp.out]
          rfl
        clear hv hemp
        have htx := Lib.hid (fun wx k (h : Cur w.heap.size wx w.heap.size l') => curTake_calls _ wx _ l' k h)
        have hty := Lib.hid (fun wx k (h : Cur w.heap.size wx (w.heap.size + 1) m') => curTake_calls _ wx _ m' k h)
        generalize leastKey l' m' = k0 at *
        have htx' := Lib.hid (fun wx h => htx.out wx k0 h)
        have hty' := Lib.hid (fun wx h => hty.out wx k0 h)
        clear htx hty
        generalize takeK l' k0 = t0 at *
        generalize takeK m' k0 = t1 at *
        obtain ⟨was, had, l2⟩ := t0
        obtain ⟨now, has, m2⟩ := t1
        simp only at hlen hv2 htx' hty'
        go_wp2_with fail
        refine (htx'.out _ (hx1.out.below (bl_alloc (Below.refl _ _) _))).mono ?_
        rintro e w2 ⟨rfl, hx2, g2⟩
        have c2 := blk_new w1 (.cells #[.string k0, .bool false, .string ⟨#[]⟩, .bool false, .string ⟨#[]⟩] 35)
        have c3 := (g2.block w1.heap.size (by simp) (by simp; omega)).trans c2
        have hb2 := (bl_alloc hb1 _).grown g2 (by simp; omega) (fun k e => by cases e; omega)
        have hy2 := (hy1.out.below (bl_alloc (Below.refl _ _) _)).grown g2 (fun k e => by cases e; exact ⟨Nat.le_refl _, by omega⟩)
        have ho2 := (ho1.out.alloc _).kept g2 (.inr (fun e => by have := (ho1.out.lt _ e).1; omega))
        have hob := Lib.hid ho1.out.lt
        clear c2 htx' hx1 hy1 ho1 hb1
        have z3 := blk_lt c3
        have r0 := blk_cell c3 0
        have r1 := blk_cell c3 1
        have r2 := blk_cell c3 2
        have f1 := blk_free c3 1
        have f2 := blk_free c3 2
        simp at r0 r1 r2
        have C3 := Lib.hid c3
        have HX2 := Lib.hid hx2
        have HY2 := Lib.hid hy2
        have HO2 := Lib.hid ho2
        clear c3 hx2 hy2 ho2 g2
        go_wp2_with fail
        have G3 := grown_trans (grown_set w2 w1.heap.size 2 (.string was)) (grown_set _ w1.heap.size 1 (.bool had))
        have c4 := blk_set' (blk_set' C3.out 2 (.string was) rfl) 1 (.bool had) rfl
        have hb3 := hb2.grown G3 (by omega) (fun k e => by cases e; omega)
        have hx3 := HX2.out.grown G3 (fun k e => by cases e; omega)
        have hy3 := HY2.out.grown G3 (fun k e => by cases e; omega)
        have ho3 := HO2.out.kept G3 (.inr (fun e => by have := (hob.out _ e).2; omega))
        refine (hty'.out _ hy3).mono ?_
        rintro e w3 ⟨rfl, hy4, g4⟩
        have c5 := (g4.block w1.heap.size (by simp [World.setCell]; omega) (sne (by omega))).trans c4
        have hb4 := hb3.grown g4 (by simp [World.setCell]; omega) (fun k e => by cases e; omega)
        have hx4 := hx3.grown g4 (fun k e => by cases e; omega)
        have ho4 := ho3.kept g4 (.inr (fun e => by have := (hob.out _ e).1; omega))
        simp at c5
        clear G3 c4 hb3 hx3 hy3 ho3 g4 hb2 HX2 HY2 HO2 C3 r0 r1 r2 f1 f2 hty' z3
        have z4 := blk_lt c5
        have r0 := blk_cell c5 0
        have r1 := blk_cell c5 1
        have r2 := blk_cell c5 2
        have r3 := blk_cell c5 3
        have r4 := blk_cell c5 4
        have f3 := blk_free c5 3
        have f4 := blk_free c5 4
        simp at r0 r1 r2 r3 r4
        have C5 := Lib.hid c5
        have HX4 := Lib.hid hx4
        have HY4 := Lib.hid hy4
        have HO4 := Lib.hid ho4
        have HB4 := Lib.hid hb4
        clear c5 hx4 hy4 ho4 hb4
        have G5 := Lib.hid (grown_trans (grown_set w3 w1.heap.size 4 (.string now)) (grown_set _ w1.heap.size 3 (.bool has)))
        by_cases hch : had ≠ has ∨ was ≠ now
        · have hv3 : Hid ((done ++ [⟨k0, had, was, has, now⟩]) ++ ofL k l2 m2 = ofL (l.length + m.length) l m) := by
            show _ = _
            rw [← hv2.out, if_pos hch]; simp
          have hlen3 : Hid ((done ++ [(⟨k0, had, was, has, now⟩ : Change)]).length + k ≤ l.length + m.length) := by
            show _ ≤ _
            have := hn2.out
            simp; omega
          have hdl : done.length + 1 ≤ 1000000 := by have := hn2.out; omega
          clear hv2 hn2
          by_cases hh : had = has
          case' pos =>
            have hh' := hh.symm
            subst hh'
            have hw : ¬ was = now := by simpa using hch
            have t1 : (!(was.toList == now.toList)) = true := by rw [str_ne hw]; rfl
            clear hch hw
          case' neg =>
            clear hch
          all_goals
            have HO5 := Lib.hid (HO4.out.kept G5.out (.inr (fun e => by have := (hob.out _ e).2; omega)))
            have HZ : Hid (((w3.setCell ⟨w1.heap.size, 4, none⟩ (.string now)).setCell ⟨w1.heap.size, 3, none⟩ (.bool has)).heap.size = w3.heap.size) := by show _ = _; simp [World.setCell]
            have HC : Hid (w.heap.size + 2 ≤ ((w3.setCell ⟨w1.heap.size, 4, none⟩ (.string now)).setCell ⟨w1.heap.size, 3, none⟩ (.bool has)).heap.size) := by show _ ≤ _; rw [HZ.out]; omega
            have HC2 : Hid ((done.length + 1) * 64 ≤ 140737488355328) := by show _ ≤ _; omega
            have HC3 : Hid (done.length + 1 ≤ 140737488355328) := by show _ ≤ _; omega
            go_wp2_with (at_builtin; refine ap_own Change.ok rfl _ _ _ _ _ _ rfl Try.underlying25 info35 rfl (w.heap.size + 2) u9 done ⟨k0, _, was, _, now⟩ #[_, _, _, _, _] rfl rfl w3.heap.size HZ.out rfl HO5.out HC.out HC2.out HC3.out ?_; intro gg cap w5 ho5 hg5 hat5 hlt5)
            go_roundg k
            case measure => omega
            case rel =>
              refine ⟨l2, m2, done ++ [⟨k0, _, was, _, now⟩], by have := hlen.out; omega, hv3, hlen3, ?_, ?_, ?_, ?_⟩
              · exact (HX4.out.grown G5.out (fun k e => by cases e; omega)).grown hg5 (fun k e => by have := (hob.out _ e).1; omega)
              · exact (HY4.out.grown G5.out (fun k e => by cases e; omega)).grown hg5 (fun k e => by have := (hob.out _ e).1; omega)
              · show Own _ _ _ _ _ _ _
                simpa using ho5
              · exact (HB4.out.grown G5.out (by omega) (fun k e => by cases e; omega)).grown hg5 (by have := HC.out; omega) (fun k e => by have := (hob.out _ e).1; omega)
        · have hh : has = had := by
            by_cases e : had = has
            · exact e.symm
            · exact absurd (Or.inl e) hch
          have hw : was = now := by
            by_cases e : was = now
            · exact e
            · exact absurd (Or.inr e) hch
          subst hh
          have hv3 : Hid (done ++ ofL k l2 m2 = ofL (l.length + m.length) l m) := by
            show _ = _
            rw [← hv2.out, if_neg hch]; simp
          have t1 : (!(was.toList == now.toList)) = false := by rw [str_eq hw]; rfl
          clear hch hw hv2
          go_wp2
          go_roundg k
          case measure => omega
          case rel =>
            refine ⟨l2, m2, done, by have := hlen.out; omega, hv3, by show _ ≤ _; have := hn2.out; omega, ?_, ?_, ?_, ?_⟩
            · exact HX4.out.grown G5.out (fun k e => by cases e; omega)
            · exact HY4.out.grown G5.out (fun k e => by cases e; omega)
            · exact HO4.out.kept G5.out (.inr (fun e => by have := (hob.out _ e).2; omega))
            · exact HB4.out.grown G5.out (by omega) (fun k e => by cases e; omega)
end Go.Proofs.Ytofdmkglhjpbcaa
