/- tree: gathered, List -/
import Derived.Test.YtikgplhcadomcaaGreatQWalk2
namespace Go.Proofs.YtikgplhcadomcaaGreat
open Go.RowKit
set_option linter.unusedVariables false
set_option linter.unusedSimpArgs false
theorem gaT_new (w : World) : ∃ G : Nat → Prop, GaT G (w.heap.size + 1) w.heap.size (.slice none 0 0) (.slice none 0 0) [] [] [] ((w.alloc (.map #[] 0)).alloc (.cells #[.slice none 0 0, .slice none 0 0, .map (some w.heap.size)] 181)) ∧ ∀ i, G i → w.heap.size ≤ i := by
  have h1 := blk_new w (.map #[] 0)
  have h2 := blk_new (w.alloc (.map #[] 0)) (.cells #[.slice none 0 0, .slice none 0 0, .map (some w.heap.size)] 181)
  have e : (w.alloc (.map #[] 0)).heap.size = w.heap.size + 1 := by simp
  rw [e] at h2
  refine ⟨fun i => i = w.heap.size ∨ i = w.heap.size + 1, ⟨h2, Own.nil, Own.nil, ?_, by omega, (fun k hk => by cases hk), (fun k hk => by cases hk), ⟨.inr rfl, .inl rfl⟩, fun i hi => by simp; omega⟩, fun i hi => by omega⟩
  exact ⟨#[], 0, blk_alloc h1 _, rfl, List.nodup_nil⟩
def GadR (w w' : World) (E : List Entry) (e : Ending) : Prop := ∃ gg mm ue uk K L G, e = .returned (.tuple #[.pointer (some ⟨gg, 0, none⟩), .int .i64 0]) ∧ GaT G gg mm ue uk E K L w' ∧ Below w.heap.size w w'
section
variable {w w2 : World} {s p g : Nat} {F : Nat → Prop} {C : List (List Int)}
set_option maxRecDepth 100000 in
set_option maxHeartbeats 4000000 in
theorem gathered_calls {E : List Entry} {root most : Int} (hm : MapOk E) (h : BuiltR F w w2 s p g C E root most) : Calls Tryz.prog 102 #[.pointer (some ⟨s, 0, none⟩), .int .u64 root] w2 fun e w' => GadR w2 w' E e := by
  obtain ⟨F', C', h1, h2, h3, h4, h5, h6⟩ := h
  obtain ⟨G, hG, hGw⟩ := gaT_new w2
  have HG := Lib.hid hG
  have HGW := Lib.hid hGw
  have hb : Below w2.heap.size w2 ((w2.alloc (.map #[] 0)).alloc (.cells #[.slice none 0 0, .slice none 0 0, .map (some w2.heap.size)] 181)) := bl_alloc (bl_alloc (Below.refl _ w2) _) _
  have B2 := Lib.hid hb
  have hmm := @run_makeMap Tryz.prog
  rcases h6 with ⟨rfl, rfl⟩ | ⟨k, T, rfl, t1, t2, t3⟩
  · clear hb hG hGw h1 h2 h3 h4 h5
    go_enter Tryz.func102, Tryz.ntmps102
    go_wp2
    go_ret2
    exact ⟨_, _, _, _, _, _, _, rfl, HG.out, B2.out⟩
  · have hid1 := (tower_ids t1 k (by simp)).1
    have hid0 : (k.id == 0) = false := by rw [beq_eq_false_iff_ne]; omega
    have HW := Lib.hid (walk_calls T.length _ G _ _ [] [] [] k E ⟨#[]⟩ (-1) (tower_sub hm h1.len t1 t2) (h1.below hb) hG (fun i hi hg => by have := h1.lt i hi; have := hGw i hg; omega) (.inl (by omega)) (by have := hm.len; simp; omega) (by have := hm.len; simp; omega))
    clear hb hG hGw h1 h2 h3 h4 h5 t1 t2 t3 hid1
    go_enter Tryz.func102, Tryz.ntmps102
    go_wp2_with fail
    refine HW.out.mono ?_
    rintro e w3 ⟨rfl, ue, uk, K', L', hx, -⟩
    have X3 := Lib.hid hx
    clear hx HW
    go_wp2
    go_ret2
    obtain ⟨G', ga, gb, gc⟩ := X3.out
    rw [List.nil_append] at ga
    refine ⟨_, _, _, _, _, _, _, rfl, ga, ?_⟩
    have hk := gb.below B2.out.size HGW.out
    have hB := B2.out
    exact ⟨hk.os.trans hB.os, hk.tape.trans hB.tape, hk.output.trans hB.output, Nat.le_trans hB.size hk.size, fun i hi => (hk.block i hi).trans (hB.block i hi)⟩
def ListR (w w' : World) (E : List Entry) (e : Ending) : Prop := ∃ A c, e = .returned (.tuple #[.slice A E.length c, .int .i64 0]) ∧ E.length ≤ c ∧ Rd Entry.enc 2 w' A E ∧ Below w.heap.size w w'
set_option maxRecDepth 100000 in
theorem list_calls {E : List Entry} {root most : Int} (hm : MapOk E) (h : BuiltR F w w2 s p g C E root most) : Calls Tryz.prog 75 #[.pointer (some ⟨s, 0, none⟩), .int .u64 root] w2 fun e w' => ListR w2 w' E e := by
  have H := Lib.hid (gathered_calls hm h)
  clear h
  go_enter Tryz.func75, Tryz.ntmps75
  go_wp2_with fail
  refine H.out.mono ?_
  rintro e w3 ⟨gg, mm, ue, uk, K, L, G, rfl, hg, hb⟩
  obtain ⟨A, c, rfl, i1, -, hr, -⟩ := hg.oe.rd Entry.ok
  have R := Lib.hid hr
  have B := Lib.hid hb
  have c0 := blk_cell hg.blk 0
  have cl := blk_lt hg.blk
  clear hg hr hb H
  go_wp2
  go_ret2
  exact ⟨A, c, rfl, i1, R.out, B.out⟩
end
end Go.Proofs.YtikgplhcadomcaaGreat
