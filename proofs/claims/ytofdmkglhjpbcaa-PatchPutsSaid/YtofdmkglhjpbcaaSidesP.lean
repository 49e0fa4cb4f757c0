/- patch.sides: entries by their keys -/
import Derived.Test.YtofdmkglhjpbcaaSides
namespace Go.Proofs.Ytofdmkglhjpbcaa
open Go.RowKit Go.Shelf Go.Maps
set_option linter.unusedVariables false
set_option linter.unusedSimpArgs false
attribute [local go_sem] Oper.semAt_some

set_option maxRecDepth 100000 in
set_option maxHeartbeats 4000000 in
theorem psides_calls (w : World) (A : Option Addr) (c : Nat) (l : List Entry) (hl : l.length ≤ 1000000) (hsz : ∀ x ∈ l, x.key.size ≤ 9223372036854775807 ∧ x.val.size ≤ 9223372036854775807) (hA : l ≠ [] → ∀ a, A = some a → a.block < w.heap.size) (h : Rd Entry.enc 2 w A l) :
    Calls Try.prog 54 #[.slice A l.length c] w fun e w' => ∃ g, e = .returned (.map (some g)) ∧ w.heap.size ≤ g ∧ MapG Try.prog 9 sideV w' g l.length (sidesOf l) ∧ Below w.heap.size w w' := by
  refine callsIn_wide (n := 4).1 ?_
  have hmm := @run_makeMap Try.prog
  have HR := Lib.hid h
  have HS := Lib.hid hsz
  have HA := Lib.hid hA
  clear h hsz hA
  have hfb : Fence.wide.fn 84 := trivial
  refine callsIn_of_wp_marks Try.func54 rfl trivial ?_ rfl
  simp only [Try.ntmps54, List.size_toArray, List.length_cons, List.length_nil, Nat.reduceAdd, Nat.reduceSub, Array.replicate_succ, Array.replicate_zero, List.push_toArray, List.append_toArray, List.nil_append, List.cons_append]
  gi_wp2_with (gi_at_call 84; refine (backwardE_in Fence.wide 3 hfb rfl _ _ _ _).mono ?_; rintro e w' ⟨rfl, hw'⟩)
  rw [← hw']
  have hb0 : Below w.heap.size w w' := by rw [hw']; exact bl_alloc (bl_alloc (bl_alloc (Below.refl _ w) _) _) _
  have hs0 : w'.heap.size = w.heap.size + 3 := by rw [hw']; simp
  have b0 : MapG Try.prog 9 sideV w' w.heap.size 0 gnil := by
    rw [hw']
    exact ((MapG.made w).kept (World.grownBy_alloc _ _ none) (by simp)).kept (World.grownBy_alloc _ _ none) (by simp)
  have b1 : w'.heap[w.heap.size + 1]? = some (.cells #[.map (some w.heap.size)] 86 (0, 0)) := by
    rw [hw']
    have := blk_new (w.alloc (.map #[] 0)) (.cells #[.map (some w.heap.size)] 86)
    rw [World.size_alloc] at this
    exact blk_alloc this _
  have b2 : w'.cell? ⟨w.heap.size + 1 + 1, 0, none⟩ = some (.slice A l.length c) := by
    have h2 : w'.heap[w.heap.size + 1 + 1]? = some (.cells #[.slice A l.length c] 22 (0, 0)) := by
      rw [hw']
      have := blk_new ((w.alloc (.map #[] 0)).alloc (.cells #[.map (some w.heap.size)] 86)) (.cells #[.slice A l.length c] 22)
      rw [World.size_alloc, World.size_alloc] at this
      exact this
    rw [blk_cell h2]
    rfl
  clear hw'
  have hr0 := HR.out.below hb0 (Nat.le_refl _)
  have hfb1 : Fence.wide.fn 109 := trivial
  refine wpIn_rangeFunc_ownH rfl (by omega) (gf := 109) (lb := #[.pointer (some ⟨w.heap.size + 1 + 1, 0, none⟩)]) rfl hfb1 (enters_of Try.func109 (by kernel_rfl) rfl)
    (backE_stops Fence.wide 3 hfb1 rfl (by omega) (w.heap.size + 1 + 1) w'.heap.size w.heap.size A c l (by omega) (by omega) (fun hx a ha => by have := HA.out hx a ha; omega) (by omega) w' (Nat.le_refl _) b2 hr0) (fun h k => But.trans h k) (fun W q o o' h1 h2 h3 _ => But.below ((Below.refl _ W).grown (grownBy_putObj' W q o') (blk_lt h2 |> fun h => by omega) (fun k e => by cases e; omega))) (Below.refl _ _) (fun _ => rfl)
    (SidesI l w w') (fun _ _ _ => False) (sidesI_own (by omega)) (fun _ _ _ _ _ hs => hs.elim)
    ⟨b0, b1, Below.refl _ _⟩
    (fun x a' W => ∃ Bx, w'.heap.size ≤ Bx ∧ W.heap[Bx]? = some (.cells #[.string x.2.1.key, .string x.2.1.val] 72 (0, 0)) ∧ a' = { tmps := #[.slice A l.length c, undef, .map none, .pointer (some ⟨w.heap.size + 1, 0, none⟩), undef, .pointer (some ⟨Bx, 0, none⟩), .map (some w.heap.size), .slice A l.length c, .func (.func 109) #[] #[.pointer (some ⟨w.heap.size + 1 + 1, 0, none⟩)], .int .i64 (x.1 : Int), .agg #[.string x.2.1.key, .string x.2.1.val], undef, undef, undef, undef, undef, undef, undef], defers := [] })
    (fun x a' s X Y row hs hg hr => by
      obtain ⟨Bx, e1, e2, e3⟩ := hs
      exact ⟨Bx, e1, blk_ownB w'.heap.size Bx (fun (_ : Unit) => #[.string x.2.1.key, .string x.2.1.val]) _ () X Y row e2 hg hr, e3⟩)
    ?assign ?body ?done ?stop
  case assign =>
    rintro q pre x W K ⟨hm, hp, hB⟩ hK
    obtain ⟨ix, x, hx⟩ := x
    unfold pairE
    have HM := Lib.hid hm
    gi_wp2
    have hsz := hB.size
    exact hK _ _ ((KeepsOthers.alloc _ _).from _) (But.below ((Below.refl _ W).alloc hsz _)) ⟨HM.out.kept (World.grownBy_alloc _ _ none) (by simp), blk_alloc hp _, hB.alloc (by omega) _⟩ ⟨W.heap.size, hsz, blk_new W _, rfl⟩
  case body =>
    rintro q pre x a' W hl' ⟨r, hr⟩ ⟨hm, hp, hB⟩ ⟨Bx, hBx, bX, rfl⟩ hlt
    obtain ⟨ix, x, hx⟩ := x
    dsimp only at bX ⊢
    have x0 : W.cell? ⟨Bx, 0, none⟩ = some (.string x.key) := by rw [blk_cell bX]; rfl
    have x1 : W.cell? ⟨Bx, 1, none⟩ = some (.string x.val) := by rw [blk_cell bX]; rfl
    have y0 : W.cell? ⟨w.heap.size + 1, 0, none⟩ = some (.map (some w.heap.size)) := by rw [blk_cell hp]; rfl
    have HM := Lib.hid hm
    have HP := Lib.hid hp
    have HB := Lib.hid hB
    have HX := Lib.hid hx
    have KS : Hid (x.key.size ≤ maxLen) := by show _ ≤ _; unfold maxLen; exact (HS.out x hx).1
    have KM : Hid (pre.length < maxLen) := by show _ < _; unfold maxLen; omega
    clear hm hp hB bX
    obtain ⟨W2, hrun, hm2, hg2⟩ := HM.out.upd Try.underlying9 KM.out 86 Try.underlying86 x.key KS.out ⟨true, x.val⟩
    have HM2 := Lib.hid hm2
    have HG2 := Lib.hid hg2
    unfold sideV at hrun
    clear hm2 hg2
    gi_wp2
    refine ⟨KeepsFrom.of_grownBy HG2.out (fun j e => by cases e; omega), But.grown HG2.out (by have := HB.out.size; omega), ?_, ?_, ?_⟩
    · rw [sidesFold_snoc, List.length_append]
      exact HM2.out
    · exact (HG2.out.block _ (blk_lt HP.out) (by simp)).trans HP.out
    · exact HB.out.grown HG2.out (by have := HB.out.size; omega) (fun k e => by cases e; exact Nat.le_refl _)
  case done =>
    rintro Df ys W hD hys ⟨hm, hp, hB⟩ hKd
    have y0 : W.cell? ⟨w.heap.size + 1, 0, none⟩ = some (.map (some w.heap.size)) := by rw [blk_cell hp]; rfl
    have HB := Lib.hid (hb0.trans hB)
    have HM : Hid (MapG Try.prog 9 sideV (W.putObj Df (.deferred none)) w.heap.size l.length (sidesOf l)) := by
      have e1 := sidesFold_rev l ys hys
      have e2 : ys.length = l.length := by have := congrArg List.length hys; simpa using this
      have := hm.kept (grownBy_putObj' W Df (.deferred none)) (fun e => by cases e; omega)
      rw [e1, e2] at this
      exact this
    have HY := Lib.hid hys
    clear hm hp hB hys
    gi_wp2
    refine ⟨by simp, .inl ⟨_, _, rfl, run_takeDeferred hKd, ?_⟩⟩
    refine ⟨.map (some w.heap.size), by simp [results, Try.results54, go_sem], w.heap.size, rfl, Nat.le_refl _, HM.out, HB.out.grown (grownBy_putObj' W Df (.deferred none)) HB.out.size (fun k ek => by cases ek; omega)⟩
  case stop =>
    rintro Df code pre W hD hpre h
    exact h.elim
end Go.Proofs.Ytofdmkglhjpbcaa
