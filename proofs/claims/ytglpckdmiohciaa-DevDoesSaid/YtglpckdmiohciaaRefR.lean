/- The reference's device: Read. -/
import Derived.Test.YtglpckdmiohciaaRefF
namespace Go.Proofs.Ytglpckdmiohciaa
open Go.RowKit
set_option linter.unusedVariables false
set_option linter.unusedSimpArgs false

theorem lastAt_app (p : Int) (l : List Wr) (x : Wr) : lastAt p (l ++ [x]) = if x.pos = p then some x.b else lastAt p l := by
  induction l with
  | nil => simp [lastAt]
  | cons y l ih =>
    rw [List.cons_append, lastAt, ih, lastAt]
    by_cases h : x.pos = p <;> simp [h]
section
variable {w w' : World} {g : Nat} {F G : Nat → Prop} {X : Rv}
theorem RefIn.at {sv cv bv : Value} {xs : List SV} {cs : List CV} (h : RefIn w g F G X sv cv bv xs cs) {k : Nat} (hk : k < X.S.length) : ∃ A c b, sv.ownBlock = some b ∧ w.cell? ⟨b, k, none⟩ = some (.slice A 32 c) ∧ Inn w F G A c ((X.S[k]?).getD sec0) := by
  have hl : k < xs.length := by rw [← h.e1, List.length_map] at hk; exact hk
  obtain ⟨A, c, rfl, _⟩ := h.o1.rd SV.ok
  rcases h.o1.head with ⟨_, e⟩ | ⟨b, rfl⟩
  · subst e; simp at hl
  · refine ⟨xs[k].A, xs[k].c, b, rfl, (h.o1.at SV.ok (List.getElem?_eq_getElem hl) rfl).1, ?_⟩
    have := h.i1 _ (List.getElem_mem hl)
    have e : (X.S[k]?).getD sec0 = xs[k].s := by rw [← h.e1, List.getElem?_map, List.getElem?_eq_getElem hl]; rfl
    rw [e]
    exact this
set_option maxRecDepth 100000 in
set_option maxHeartbeats 8000000 in
theorem refRead_calls (h : RefAt w g F G X) (p : Int) (hbl : X.bad.length = X.S.length) : Calls Try.prog 42 #[.pointer (some ⟨g, 0, none⟩), .int .i64 p] w fun e w' => ReadR w w' (X.readB p) (X.readE p) e := by
  have hhas := Lib.hid (refHas_calls h p)
  obtain ⟨sv, cv, bv, xs, cs, hin⟩ := h
  have HI := Lib.hid hin
  have hcells := RefAt.cells ⟨sv, cv, bv, xs, cs, hin⟩
  obtain ⟨A, a, B, b, C, c, xs', cs', c0, c1, c2, c3, c4, fz, -, -, o3, -, -, -, -⟩ := hcells
  have HO3 := Lib.hid o3
  clear fz hin o3
  have HN : Hid (∀ n, X.readE p = n → n ≠ 0 → ReadR w w (X.readB p) (X.readE p) (.returned (.tuple #[.slice none 0 0, .int .i64 n]))) := fun n e hn => by
    subst e
    have hb : X.readB p = [] := by unfold Rv.readB; rw [if_neg hn]
    refine ⟨none, 0, ?_, ?_, .inl hb, (fun a ha => by cases ha), Below.refl _ _⟩ <;> rw [hb]
    · rfl
    · exact Nat.le_refl _
  go_enter Try.func42, Try.ntmps42
  rcases hd : X.dead with _ | _
  case' true =>
    rw [hd] at c4
    go_wp2
    go_ret2
    exact HN.out 40 (by simp [Rv.readE, hd]) (by decide)
  rw [hd] at c4
  go_wp2_with fail
  refine hhas.out.mono ?_
  rintro e w1 ⟨rfl, rfl⟩
  rcases hp : X.has p with _ | _
  case' false =>
    go_wp2
    go_ret2
    exact HN.out 1 (by simp [Rv.readE, hd, hp]) (by decide)
  have hpp : 0 ≤ p ∧ p < (X.S.length : Int) := by simpa [Rv.has] using hp
  obtain ⟨k, hk⟩ : ∃ k : Nat, p = k := ⟨p.toNat, by omega⟩
  have hkl : k < X.S.length := by omega
  obtain ⟨cb, rfl⟩ : ∃ cb, C = some ⟨cb, 0, none⟩ := by
    rcases HO3.out.head with ⟨_, e⟩ | e
    · rw [e] at hbl; simp at hbl; omega
    · exact e
  obtain ⟨bit, hbit⟩ : ∃ bit, X.bad[k]? = some bit := ⟨_, List.getElem?_eq_getElem (by omega)⟩
  have cbit := (HO3.out.at boolOk hbit rfl).1
  have hp1 : (k : Int) < (X.bad.length : Int) := by omega
  have hp2 : (k : Int) < (X.S.length : Int) := by omega
  have hp0 : (0 : Int) ≤ (k : Int) := by omega
  subst hk
  rcases bit with _ | _
  case' true =>
    go_wp2
    go_ret2
    exact HN.out 41 (by simp [Rv.readE, hd, hp, hbit]) (by decide)
  have hE : Hid (X.readE k = 0) := by show _ = _; simp [Rv.readE, hd, hp, hbit]
  obtain ⟨A0, a0, sb, es, cs0, inn0⟩ := HI.out.at hkl
  obtain rfl : A = some ⟨sb, 0, none⟩ := by
    have e := c0
    rw [blk_cell HI.out.blk] at e
    have e : sv = .slice A X.S.length a := by simpa [Rv.cells] using e
    subst e
    rcases A with _ | ⟨q, o, u⟩
    · cases es
    · have := HI.out.o1.head
      rcases this with ⟨h, _⟩ | ⟨b', h⟩
      · cases h
      · cases h; cases es; rfl
  have hlc : X.cache.length = cs.length := by rw [← HI.out.e2, List.length_map]
  have hcv : cv = .slice B X.cache.length b := by
    have e := c1
    rw [blk_cell HI.out.blk] at e
    simpa [Rv.cells] using e
  have HIn0 := Lib.hid inn0
  rw [hlc] at c1 hcv
  clear inn0 hlc hhas HO3 hbit
  go_wp2
  go_loopg [6, 36] cs.length (fun m v i wr => ∃ (j : Nat) (A1 : Option Addr) (a1 : Nat) (s1 : Sec), v = .slice A1 32 a1 ∧ i = .int .i64 j ∧ j + m = cs.length ∧ Hid (Below w.heap.size w wr) ∧ Hid (Inn w F G A1 a1 s1) ∧ Hid (s1 = (lastAt (k : Int) ((cs.take j).map CV.wr)).getD ((X.S[k]?).getD sec0)))
  case atStart => exact ⟨0, A0, a0, _, rfl, rfl, by omega, Below.refl _ _, HIn0.out, rfl⟩
  case round =>
    obtain ⟨j, A1, a1, s1, rfl, rfl, hj, hb, hi1, hs1⟩ := hrel
    rcases Nat.lt_or_ge j cs.length with hlt | hge
    · obtain ⟨_, _, e0, _, _, hro, _⟩ := HI.out.o2.rd CV.ok
      rw [hcv] at e0
      cases e0
      rcases hro.below hb.out (Nat.le_refl _) with h0 | ⟨bb, off, rfl, hbl', hcell⟩
      · simp [h0] at hlt
      have hx : cs[j]? = some cs[j] := List.getElem?_eq_getElem hlt
      obtain ⟨d0, d1⟩ := CV.cells (.inr ⟨bb, off, rfl, hbl', hcell⟩) hx
      have hinn := Lib.hid (HI.out.i2 _ (List.getElem_mem hlt))
      have hstep : Hid (lastAt (k : Int) ((cs.take (j + 1)).map CV.wr) = if (cs[j]).pos = (k : Int) then some (cs[j]).s else lastAt (k : Int) ((cs.take j).map CV.wr)) := by
        show _ = _
        rw [List.take_add_one, hx, Option.toList_some, List.map_append, List.map_cons, List.map_nil, lastAt_app]
        rfl
      generalize cs[j] = x at *
      have i0 : (0 : Int) ≤ (j : Int) := by omega
      have i1 : (j : Int) < (cs.length : Int) := by omega
      have hb2 : Hid (∀ o, Below w.heap.size w (wr.alloc o)) := fun o => hb.out.alloc hb.out.size o
      clear hcell hx hro
      by_cases hpk : x.pos = (k : Int)
      · rw [hpk] at d0
        go_wp2_with fail
        go_roundg (gk - 1)
        case measure => omega
        case rel => exact ⟨j + 1, x.A, x.c, x.s, rfl, by go_num, by omega, hb2.out _, hinn.out, by show _ = _; rw [hstep.out, if_pos hpk]; rfl⟩
      · have hpb : (x.pos == (k : Int)) = false := by simpa using hpk
        go_wp2_with fail
        go_roundg (gk - 1)
        case measure => omega
        case rel => exact ⟨j + 1, A1, a1, s1, rfl, by go_num, by omega, hb2.out _, hi1.out, by show _ = _; rw [hstep.out, if_neg hpk]; exact hs1.out⟩
    · obtain rfl : j = cs.length := by omega
      have hfin : Hid (X.readB k = s1.1) := by
        show _ = _
        unfold Rv.readB
        rw [if_pos hE.out, hs1.out, List.take_length, HI.out.e2]
        rfl
      obtain ⟨ab, aoff, rfl, hab, hrd, hnf, hg, h32⟩ := hi1.out
      have HR := Lib.hid (hrd.below hb.out (Nat.le_refl _))
      have z0 : Hid (([] : List Int).length = 0) := rfl
      clear hrd
      go_wp2_with (at_builtin; refine at_list rfl (fun K hK => op_grow by1ok (.const (.slice none 0 0)) (.tmp 47) _ _ _ _ rfl Try.underlying38 infoU rfl none (some ⟨ab, aoff, none⟩) 0 a1 [] s1.1 0 32 z0.out s1.2.1 rfl rfl (.inl rfl) HR.out (by decide) (by decide) (by decide) wr.heap.size rfl (fun cap w2 ho hb2 hlt2 => hK _ _ ?_)))
      go_ret2
      have hc2 := (ho.rd' by1ok).2.1
      have hr2 := (ho.rd' by1ok).2.2.2.1
      refine ⟨some ⟨wr.heap.size, 0, none⟩, cap, ?_, ?_, ?_, (fun a ha => by cases ha; exact hb.out.size), bl_then hb.out hb.out.size hb2⟩
      · rw [hfin.out, s1.2.1, hE.out]
        rfl
      · rw [hfin.out]
        simpa using hc2
      · rw [hfin.out]
        exact hr2
end
end Go.Proofs.Ytglpckdmiohciaa
