/- Parts of a tree: plain. (*gather).all. -/
import Derived.Test.YtikgplhcadomcaaGreatQShapeP
import Derived.Test.YtikgplhcadomcaaGreatQTreeW6
namespace Go.Proofs.YtikgplhcadomcaaGreat
open Go.RowKit
set_option linter.unusedVariables false
set_option linter.unusedSimpArgs false
/-- The kid k of a level has the entries l below it. -/
def SubT (C : List (List Int)) : Nat → Kid → List Entry → Prop
  | 0, k, l => NodeOk ⟨0, l, []⟩ ∧ tellT C k.id = some (NodeP.bytes ⟨0, l, []⟩) ∧ k.last = NodeP.last ⟨0, l, []⟩
  | n + 1, k, l => ∃ (ks : List Kid) (ps : List (List Entry)), NodeOk ⟨((n + 1 : Nat) : Int), [], ks⟩ ∧ tellT C k.id = some (NodeP.bytes ⟨((n + 1 : Nat) : Int), [], ks⟩) ∧ k.last = NodeP.last ⟨((n + 1 : Nat) : Int), [], ks⟩ ∧ ks.length = ps.length ∧ ps.flatten = l ∧ ∀ (i : Nat) k' p, ks[i]? = some k' → ps[i]? = some p → SubT C n k' p
theorem parts_cut {α β : Type} : ∀ (rows : List (List α)) (ps : List β), rows.flatten.length = ps.length → ∃ qs : List (List β), qs.flatten = ps ∧ qs.length = rows.length ∧ ∀ (i : Nat) r q, rows[i]? = some r → qs[i]? = some q → r.length = q.length ∧ ∀ (j : Nat), ∃ m : Nat, rows.flatten[m]? = r[j]? ∧ ps[m]? = q[j]?
  | [], ps, h => ⟨[], by simpa using h.symm, rfl, fun i r q hr => by simp at hr⟩
  | r0 :: rows, ps, h => by
    simp only [List.flatten_cons, List.length_append] at h
    obtain ⟨qs, h1, h2, h3⟩ := parts_cut rows (ps.drop r0.length) (by rw [List.length_drop]; omega)
    refine ⟨ps.take r0.length :: qs, by rw [List.flatten_cons, h1, List.take_append_drop], by simp [h2], fun i r q hr hq => ?_⟩
    cases i with
    | zero =>
      simp only [List.getElem?_cons_zero, Option.some.injEq] at hr hq
      subst hr hq
      refine ⟨by rw [List.length_take]; omega, fun j => ?_⟩
      by_cases hj : j < r0.length
      · exact ⟨j, by rw [List.flatten_cons, List.getElem?_append_left hj], by rw [List.getElem?_take_of_lt hj]⟩
      · refine ⟨(r0 :: rows).flatten.length, ?_, ?_⟩
        · rw [List.getElem?_eq_none (Nat.le_refl _), List.getElem?_eq_none (by omega)]
        · rw [List.getElem?_eq_none (by rw [List.flatten_cons, List.length_append]; omega), List.getElem?_eq_none (by rw [List.length_take]; omega)]
    | succ i =>
      simp only [List.getElem?_cons_succ] at hr hq
      obtain ⟨k1, k2⟩ := h3 i r q hr hq
      refine ⟨k1, fun j => ?_⟩
      obtain ⟨m, m1, m2⟩ := k2 j
      refine ⟨r0.length + m, ?_, ?_⟩
      · rw [List.flatten_cons, List.getElem?_append_right (by omega), Nat.add_sub_cancel_left]; exact m1
      · rw [← m2, List.getElem?_drop]
theorem tower_subs {C : List (List Int)} {E : List Entry} (hm : MapOk E) (hC : (C.length : Int) ≤ 4095) : ∀ (T : List (List Kid)) (ks : List Kid), Tower C (ks :: T) E → T.length ≤ 20 → ∃ ps : List (List Entry), ps.length = ks.length ∧ ps.flatten = E ∧ ∀ (i : Nat) k p, ks[i]? = some k → ps[i]? = some p → SubT C T.length k p
  | [], ks, h, hT => by
    refine ⟨splitE E, ?_, splitE_flat E, fun i k p hk hp => ?_⟩
    · have := h.1; simpa [leafNs] using this.symm
    · have hn : (leafNs (splitE E))[i]? = some ⟨0, p, []⟩ := by unfold leafNs; rw [List.getElem?_map, hp]; rfl
      obtain ⟨h1, h2, -⟩ := h.2 i _ k hn hk
      exact ⟨leaf_ok hm _ (List.mem_of_getElem? hn), h2, h1⟩
  | ks' :: T, ks, h, hT => by
    have hT' : T.length ≤ 20 := by simp at hT; omega
    obtain ⟨ps, p1, p2, p3⟩ := tower_subs hm hC T ks' h.2 hT'
    obtain ⟨qs, q1, q2, q3⟩ := parts_cut (groupK (T.length + 1) ks') ps (by rw [groupK_flat, p1])
    refine ⟨qs.map List.flatten, ?_, ?_, fun i k p hk hp => ?_⟩
    · rw [List.length_map, q2]
      have := h.1.1
      simpa [innerNs] using this.symm
    · rw [← p2, ← q1]
      clear q1 q2 q3
      induction qs with
      | nil => rfl
      | cons q qs ih => simp [ih]
    · rw [List.getElem?_map] at hp
      cases hq : qs[i]? with
      | none => rw [hq] at hp; cases hp
      | some q =>
        rw [hq] at hp
        simp only [Option.map_some, Option.some.injEq] at hp
        subst hp
        have hi : i < (groupK (T.length + 1) ks').length := by rw [← q2]; exact (List.getElem?_eq_some_iff.1 hq).1
        have hr : (groupK (T.length + 1) ks')[i]? = some (groupK (T.length + 1) ks')[i] := List.getElem?_eq_getElem hi
        generalize (groupK (T.length + 1) ks')[i] = r at *
        have hn : (innerNs (T.length + 1) (groupK (T.length + 1) ks'))[i]? = some ⟨((T.length + 1 : Nat) : Int), [], r⟩ := by unfold innerNs; rw [List.getElem?_map, hr]; rfl
        obtain ⟨h1, h2, -⟩ := h.1.2 i _ k hn hk
        obtain ⟨k1, k2⟩ := q3 i r q hr hq
        refine ⟨r, q, inner_ok ⟨by omega, by simpa using hT⟩ (tower_good hm h.2) (tower_kids h.2 hC) _ (List.mem_of_getElem? hn), h2, h1, k1, rfl, fun j k' p hk' hp => ?_⟩
        obtain ⟨m, m1, m2⟩ := k2 j
        rw [groupK_flat] at m1
        exact p3 m k' p (by rw [m1]; exact hk') (by rw [m2]; exact hp)
/-- A tree that was built is one part. -/
theorem tower_sub {C : List (List Int)} {E : List Entry} {T : List (List Kid)} {k : Kid} (hm : MapOk E) (hC : (C.length : Int) ≤ 4095) (h : Tower C ([k] :: T) E) (hT : T.length ≤ 20) : SubT C T.length k E := by
  obtain ⟨ps, p1, p2, p3⟩ := tower_subs hm hC T [k] h hT
  obtain ⟨p, rfl⟩ : ∃ p, ps = [p] := by
    rcases ps with _ | ⟨p, _ | ⟨p2, ps⟩⟩
    · simp at p1
    · exact ⟨p, rfl⟩
    · simp at p1
  have := p3 0 k p rfl rfl
  simp at p2
  rw [← p2]
  exact this
theorem ok_ne {n : NodeP} (h : NodeOk n) : n.ents ≠ [] ∨ n.kids ≠ [] := by
  have z4 := (right_zero h.right).2.2.2.1
  by_cases hl : 0 < n.level
  · rw [if_pos hl] at z4
    exact .inr fun e => z4 (by rw [e]; rfl)
  · rw [if_neg hl] at z4
    exact .inl fun e => z4 (by rw [e]; rfl)
end Go.Proofs.YtikgplhcadomcaaGreat

namespace Go.Proofs.YtikgplhcadomcaaGreat
open Go.RowKit
set_option linter.unusedVariables false
set_option linter.unusedSimpArgs false
def upGb (m k v : Value) : Sem Unit := Instr.mapUpdate 179 m k v
theorem fold_upGb (m k v : Value) : Instr.mapUpdate 179 m k v = upGb m k v := rfl
theorem run_upGb {w : World} {b : Nat} {L : List (Int × Bool)} (h : MapU w b Value.bool L) (k : Int) (x : Bool) : ∃ w', (upGb (.map (some b)) (.int .u64 k) (.bool x)).run Tryz.prog w = .ok () w' ∧ MapU w' b Value.bool (upd L k x) ∧ w.grownBy w' (some b) :=
  runU_upd Tryz.underlying179 Tryz.underlying28 h k x
attribute [local go_sem ↓ high] fold_upGb
/-- What a walk has gathered: the block gg, its rows and its map; all its blocks are in G. -/
structure GaT (G : Nat → Prop) (gg mm : Nat) (ue uk : Value) (E : List Entry) (K : List Kid) (L : List (Int × Bool)) (w : World) : Prop where
  blk : w.heap[gg]? = some (.cells #[ue, uk, .map (some mm)] 181 (0, 0))
  oe : Own Entry.enc 2 113 0 w ue E
  ok : Own Kid.enc 2 109 0 w uk K
  mp : MapU w mm Value.bool L
  nm : gg ≠ mm
  ne : ∀ k, ue.ownBlock = some k → k ≠ gg ∧ k ≠ mm ∧ uk.ownBlock ≠ some k ∧ G k
  nk : ∀ k, uk.ownBlock = some k → k ≠ gg ∧ k ≠ mm ∧ G k
  gG : G gg ∧ G mm
  lt : ∀ i, G i → i < w.heap.size
/-- The same, behind a world w0 in which all its blocks were in G. -/
def GaX (w0 : World) (G : Nat → Prop) (gg mm : Nat) (ue uk : Value) (E : List Entry) (K : List Kid) (L : List (Int × Bool)) (w : World) : Prop :=
  ∃ G', GaT G' gg mm ue uk E K L w ∧ Chg G w0 w ∧ ∀ i, G' i → G i ∨ w0.heap.size ≤ i
section
variable {w0 w w' : World} {G F : Nat → Prop} {gg mm : Nat} {ue uk : Value} {E : List Entry} {K : List Kid} {L : List (Int × Bool)}
theorem GaT.chg (h : GaT G gg mm ue uk E K L w) (hc : Chg F w w') (hF : ∀ i, G i → ¬ F i) : GaT G gg mm ue uk E K L w' :=
  ⟨hc.blk h.blk (hF _ h.gG.1), h.oe.chg hc (fun k hk => hF _ (h.ne k hk).2.2.2), h.ok.chg hc (fun k hk => hF _ (h.nk k hk).2.2), h.mp.chg hc (hF _ h.gG.2), h.nm, h.ne, h.nk, h.gG, fun i hi => Nat.lt_of_lt_of_le (h.lt i hi) hc.size⟩
theorem GaX.below (h : GaX w0 G gg mm ue uk E K L w) (hb : Below w.heap.size w w') : GaX w0 G gg mm ue uk E K L w' := by
  obtain ⟨G', a, b, c⟩ := h
  exact ⟨G', a.chg (Below.chg hb fun _ => False) (fun _ _ h => h), b.trans (Below.chg hb G) (fun _ _ h => h), c⟩
theorem GaX.oe (h : GaX w0 G gg mm ue uk E K L w) : Own Entry.enc 2 113 0 w ue E := by obtain ⟨G', a, b, c⟩ := h; exact a.oe
theorem GaX.ok (h : GaX w0 G gg mm ue uk E K L w) : Own Kid.enc 2 109 0 w uk K := by obtain ⟨G', a, b, c⟩ := h; exact a.ok
theorem GaX.blk (h : GaX w0 G gg mm ue uk E K L w) : w.heap[gg]? = some (.cells #[ue, uk, .map (some mm)] 181 (0, 0)) := by obtain ⟨G', a, b, c⟩ := h; exact a.blk
theorem GaX.map {L' : List (Int × Bool)} (h : GaX w0 G gg mm ue uk E K L w) (hg : w.grownBy w' (some mm)) (hm : MapU w' mm Value.bool L') : GaX w0 G gg mm ue uk E K L' w' := by
  obtain ⟨G', a, b, c⟩ := h
  have hc : Chg (fun i => i = mm) w w' := Chg.grown hg rfl
  refine ⟨G', ⟨hc.blk a.blk a.nm, a.oe.chg hc (fun k hk e => (a.ne k hk).2.1 e), a.ok.chg hc (fun k hk e => (a.nk k hk).2.1 e), hm, a.nm, a.ne, a.nk, a.gG, fun i hi => Nat.lt_of_lt_of_le (a.lt i hi) hg.size⟩, b.trans hc (fun i hi e => ?_), c⟩
  rcases c i (e ▸ a.gG.2) with q | q
  · exact q
  · omega
theorem GaX.appE (h : GaX w0 G gg mm ue uk E K L w) {g7 n7 cap7 : Nat} {l : List Entry} (ho : Own Entry.enc 2 113 0 w' (.slice (some ⟨g7, 0, none⟩) n7 cap7) l) (hg : w.grownBy w' ue.ownBlock) (hat : ue.ownBlock = some g7 ∨ w.heap.size ≤ g7) (hlt : g7 < w'.heap.size) :
    Hid (GaX w0 G gg mm (.slice (some ⟨g7, 0, none⟩) n7 cap7) uk l K L (w'.setCell ⟨gg, 0, none⟩ (.slice (some ⟨g7, 0, none⟩) n7 cap7))) ∧ w'.frozen? ⟨gg, 0, none⟩ = false := by
  obtain ⟨G', a, b, c⟩ := h
  have hc : Chg (fun i => ue.ownBlock = some i) w w' := Chg.grownO hg (fun g e => e)
  have hgg := a.lt gg a.gG.1
  have hmm := a.lt mm a.gG.2
  have h7 : g7 ≠ gg ∧ g7 ≠ mm ∧ uk.ownBlock ≠ some g7 := by
    rcases hat with e | e
    · exact ⟨(a.ne g7 e).1, (a.ne g7 e).2.1, (a.ne g7 e).2.2.1⟩
    · exact ⟨by omega, by omega, fun q => by have := (a.ok.lt g7 q).2; omega⟩
  have hb1 := hc.blk a.blk (fun e => (a.ne gg e).1 rfl)
  have ok1 := a.ok.chg hc (fun k hk e => (a.ne k e).2.2.1 hk)
  have mp1 := a.mp.chg hc (fun e => (a.ne mm e).2.1 rfl)
  have hset : Chg (fun i => i = gg) w' (w'.setCell ⟨gg, 0, none⟩ (.slice (some ⟨g7, 0, none⟩) n7 cap7)) := Chg.set w' _ rfl
  refine ⟨⟨fun i => G' i ∨ i = g7, ⟨blk_set' hb1 0 _ rfl, ho.far (fun e => h7.1 (by injection e)) _, ok1.chg hset (fun k hk e => (a.nk k hk).1 e), mp1.chg hset (fun e => a.nm e.symm), a.nm, fun k hk => ?_, fun k hk => ⟨(a.nk k hk).1, (a.nk k hk).2.1, .inl (a.nk k hk).2.2⟩, ⟨.inl a.gG.1, .inl a.gG.2⟩, fun i hi => ?_⟩, (b.trans hc (fun i hi e => ?_)).trans hset (fun i hi e => ?_), fun i hi => ?_⟩, blk_free hb1 0⟩
  · have e : k = g7 := by injection hk with hk; exact hk.symm
    subst e
    exact ⟨h7.1, h7.2.1, h7.2.2, .inr rfl⟩
  · have hs := hset.size
    rcases hi with hi | hi
    · exact Nat.lt_of_lt_of_le (Nat.lt_of_lt_of_le (a.lt i hi) hc.size) hs
    · subst hi; exact Nat.lt_of_lt_of_le hlt hs
  · rcases c i (a.ne i e).2.2.2 with q | q
    · exact q
    · omega
  · rcases c i (e ▸ a.gG.1) with q | q
    · exact q
    · omega
  · rcases hi with hi | hi
    · exact c i hi
    · subst hi
      rcases hat with e | e
      · exact c i (a.ne i e).2.2.2
      · exact .inr (Nat.le_trans b.size e)
theorem GaX.appK (h : GaX w0 G gg mm ue uk E K L w) {g7 n7 cap7 : Nat} {l : List Kid} (ho : Own Kid.enc 2 109 0 w' (.slice (some ⟨g7, 0, none⟩) n7 cap7) l) (hg : w.grownBy w' uk.ownBlock) (hat : uk.ownBlock = some g7 ∨ w.heap.size ≤ g7) (hlt : g7 < w'.heap.size) :
    Hid (GaX w0 G gg mm ue (.slice (some ⟨g7, 0, none⟩) n7 cap7) E l L (w'.setCell ⟨gg, 1, none⟩ (.slice (some ⟨g7, 0, none⟩) n7 cap7))) ∧ w'.frozen? ⟨gg, 1, none⟩ = false := by
  obtain ⟨G', a, b, c⟩ := h
  have hc : Chg (fun i => uk.ownBlock = some i) w w' := Chg.grownO hg (fun g e => e)
  have hgg := a.lt gg a.gG.1
  have hmm := a.lt mm a.gG.2
  have h7 : g7 ≠ gg ∧ g7 ≠ mm ∧ ue.ownBlock ≠ some g7 := by
    rcases hat with e | e
    · exact ⟨(a.nk g7 e).1, (a.nk g7 e).2.1, fun q => (a.ne g7 q).2.2.1 e⟩
    · exact ⟨by omega, by omega, fun q => by have := (a.oe.lt g7 q).2; omega⟩
  have hb1 := hc.blk a.blk (fun e => (a.nk gg e).1 rfl)
  have ok1 := a.oe.chg hc (fun k hk e => (a.ne k hk).2.2.1 e)
  have mp1 := a.mp.chg hc (fun e => (a.nk mm e).2.1 rfl)
  have hset : Chg (fun i => i = gg) w' (w'.setCell ⟨gg, 1, none⟩ (.slice (some ⟨g7, 0, none⟩) n7 cap7)) := Chg.set w' _ rfl
  refine ⟨⟨fun i => G' i ∨ i = g7, ⟨blk_set' hb1 1 _ rfl, ok1.chg hset (fun k hk e => (a.ne k hk).1 e), ho.far (fun e => h7.1 (by injection e)) _, mp1.chg hset (fun e => a.nm e.symm), a.nm, fun k hk => ⟨(a.ne k hk).1, (a.ne k hk).2.1, fun q => h7.2.2 (by injection q with q; have q' : g7 = k := q; rw [q']; exact hk), .inl (a.ne k hk).2.2.2⟩, fun k hk => ?_, ⟨.inl a.gG.1, .inl a.gG.2⟩, fun i hi => ?_⟩, (b.trans hc (fun i hi e => ?_)).trans hset (fun i hi e => ?_), fun i hi => ?_⟩, blk_free hb1 1⟩
  · have e : k = g7 := by injection hk with hk; exact hk.symm
    subst e
    exact ⟨h7.1, h7.2.1, .inr rfl⟩
  · have hs := hset.size
    rcases hi with hi | hi
    · exact Nat.lt_of_lt_of_le (Nat.lt_of_lt_of_le (a.lt i hi) hc.size) hs
    · subst hi; exact Nat.lt_of_lt_of_le hlt hs
  · rcases c i (a.nk i e).2.2 with q | q
    · exact q
    · omega
  · rcases c i (e ▸ a.gG.1) with q | q
    · exact q
    · omega
  · rcases hi with hi | hi
    · exact c i hi
    · subst hi
      rcases hat with e | e
      · exact c i (a.nk i e).2.2
      · exact .inr (Nat.le_trans b.size e)
theorem GaX.same (h : GaX w0 G gg mm ue uk E K L w) : GaX w0 G gg mm ue uk E K L (w.setCell ⟨gg, 0, none⟩ ue) := by
  obtain ⟨G', a, b, c⟩ := h
  have hset : Chg (fun i => i = gg) w (w.setCell ⟨gg, 0, none⟩ ue) := Chg.set w _ rfl
  refine ⟨G', ⟨blk_set' a.blk 0 _ rfl, a.oe.chg hset (fun k hk e => (a.ne k hk).1 e), a.ok.chg hset (fun k hk e => (a.nk k hk).1 e), a.mp.chg hset (fun e => a.nm e.symm), a.nm, a.ne, a.nk, a.gG, fun i hi => Nat.lt_of_lt_of_le (a.lt i hi) hset.size⟩, b.trans hset (fun i hi e => ?_), c⟩
  rcases c i (e ▸ a.gG.1) with q | q
  · exact q
  · omega
end
def GaS (gg q4 q5 : Nat) (ue uk : Value) (mm : Nat) (kl : Str) (ki : Int) (lv : Int) (a : NdA) (nE nK : Nat) (W : World) : Prop :=
  W.heap[gg]? = some (.cells #[ue, uk, .map (some mm)] 181 (0, 0)) ∧ W.heap[q4]? = some (.cells #[.string kl, .int .u64 ki] 109 (0, 0)) ∧ W.heap[q5]? = some (.cells #[.int .i64 lv, .slice a.A nE a.ca, .slice a.B nK a.cb] 98 (0, 0))
section
variable {gg q4 q5 : Nat} {ue uk : Value} {mm : Nat} {kl : Str} {ki : Int} {lv : Int} {a : NdA} {nE nK : Nat} {W W' : World}
theorem GaS.cells (h : GaS gg q4 q5 ue uk mm kl ki lv a nE nK W) : W.cell? ⟨gg, 0, none⟩ = some ue ∧ W.cell? ⟨gg, 1, none⟩ = some uk ∧ W.cell? ⟨gg, 2, none⟩ = some (.map (some mm)) ∧ gg < W.heap.size ∧ W.cell? ⟨q4, 0, none⟩ = some (.string kl) ∧ W.cell? ⟨q4, 1, none⟩ = some (.int .u64 ki) ∧ q4 < W.heap.size ∧ W.cell? ⟨q5, 0, none⟩ = some (.int .i64 lv) ∧ W.cell? ⟨q5, 1, none⟩ = some (.slice a.A nE a.ca) ∧ W.cell? ⟨q5, 2, none⟩ = some (.slice a.B nK a.cb) ∧ q5 < W.heap.size := by
  obtain ⟨h1, h2, h3⟩ := h
  refine ⟨?_, ?_, ?_, blk_lt h1, ?_, ?_, blk_lt h2, ?_, ?_, ?_, blk_lt h3⟩
  · rw [blk_cell h1]; rfl
  · rw [blk_cell h1]; rfl
  · rw [blk_cell h1]; rfl
  · rw [blk_cell h2]; rfl
  · rw [blk_cell h2]; rfl
  · rw [blk_cell h3]; rfl
  · rw [blk_cell h3]; rfl
  · rw [blk_cell h3]; rfl
theorem GaS.grown {row : Option Nat} (h : GaS gg q4 q5 ue uk mm kl ki lv a nE nK W) (hg : W.grownBy W' row) (hr : ∀ k, row = some k → k ≠ gg ∧ k ≠ q4 ∧ k ≠ q5) : GaS gg q4 q5 ue uk mm kl ki lv a nE nK W' :=
  ⟨(hg.block gg (blk_lt h.1) (fun e => (hr gg e.symm).1 rfl)).trans h.1, (hg.block q4 (blk_lt h.2.1) (fun e => (hr q4 e.symm).2.1 rfl)).trans h.2.1, (hg.block q5 (blk_lt h.2.2) (fun e => (hr q5 e.symm).2.2 rfl)).trans h.2.2⟩
theorem GaS.set0 (h : GaS gg q4 q5 ue uk mm kl ki lv a nE nK W) (v : Value) (h4 : q4 ≠ gg) (h5 : q5 ≠ gg) : GaS gg q4 q5 v uk mm kl ki lv a nE nK (W.setCell ⟨gg, 0, none⟩ v) := ⟨blk_set' h.1 0 v rfl, blk_far h.2.1 h4 _, blk_far h.2.2 h5 _⟩
theorem GaS.below (h : GaS gg q4 q5 ue uk mm kl ki lv a nE nK W) (hb : Below W.heap.size W W') : GaS gg q4 q5 ue uk mm kl ki lv a nE nK W' := ⟨blk_below hb h.1 (blk_lt h.1), blk_below hb h.2.1 (blk_lt h.2.1), blk_below hb h.2.2 (blk_lt h.2.2)⟩
end
def GaL (w w' : World) (G : Nat → Prop) (gg mm : Nat) (E : List Entry) (K : List Kid) (L : List (Int × Bool)) (e : Ending) : Prop := e = .returned (.tuple #[]) ∧ ∃ ue uk, GaX w G gg mm ue uk E K L w'
set_option maxRecDepth 100000 in
set_option maxHeartbeats 4000000 in
theorem allLeaf_calls (w : World) (G : Nat → Prop) (gg mm : Nat) (ue uk : Value) (E : List Entry) (KL : List Kid) (L : List (Int × Bool)) (h : GaT G gg mm ue uk E KL L w) (kl : Str) (ki : Int) (lv : Int) (a : NdA) (E0 : List Entry) (hlv : Hid (lv = 0)) (hE0 : E0 ≠ []) (hAG : ∀ x, a.A = some x → ¬ G x.block) (hl0 : E0.length ≤ 100) (hlE : E.length ≤ 1000000) (hlK : KL.length ≤ 1000000) (hN : NdAt w a ⟨lv, E0, []⟩) :
    Calls Tryz.prog 149 #[.pointer (some ⟨gg, 0, none⟩), .agg #[.string kl, .int .u64 ki], .agg #[.int .i64 lv, .slice a.A E0.length a.ca, .slice a.B ([] : List Kid).length a.cb]] w fun e w' => GaL w w' G gg mm (E ++ E0) (KL ++ [⟨kl, ki⟩]) (upd L ki true) e := by
  obtain ⟨W1, hW1⟩ : ∃ W, w.alloc (.cells #[.string kl, .int .u64 ki] 109) = W := ⟨_, rfl⟩
  have hb1 : Below w.heap.size w W1 := by rw [← hW1]; exact bl_alloc (Below.refl _ w) _
  have hz1 : W1.heap[w.heap.size]? = some (.cells #[.string kl, .int .u64 ki] 109 (0, 0)) := by rw [← hW1]; exact blk_new w _
  obtain ⟨W2, hW2⟩ : ∃ W, W1.alloc (.cells #[.int .i64 lv, .slice a.A E0.length a.ca, .slice a.B 0 a.cb] 98) = W := ⟨_, rfl⟩
  have hb2 : Below W1.heap.size W1 W2 := by rw [← hW2]; exact bl_alloc (Below.refl _ W1) _
  have hz2 : W2.heap[W1.heap.size]? = some (.cells #[.int .i64 lv, .slice a.A E0.length a.ca, .slice a.B 0 a.cb] 98 (0, 0)) := by rw [← hW2]; exact blk_new W1 _
  have hz12 := blk_below hb2 hz1 (blk_lt hz1)
  obtain ⟨q4, hq4⟩ : ∃ q, w.heap.size = q := ⟨_, rfl⟩
  obtain ⟨q5, hq5⟩ : ∃ q, W1.heap.size = q := ⟨_, rfl⟩
  have hs5 : q4 ≤ q5 := by rw [← hq4, ← hq5]; exact hb1.size
  have hbw2 : Below w.heap.size w W2 := bl_then hb1 hb1.size hb2
  have X2 : GaX w G gg mm ue uk E KL L W2 := GaX.below ⟨G, h, Chg.refl _ _, fun i hi => .inl hi⟩ hbw2
  have P2 : Hid (GaX w G gg mm ue uk E KL L W2.drew) := X2.below (Below.refl W2.heap.size W2).drew
  have S2 : GaS gg q4 q5 ue uk mm kl ki lv a E0.length 0 W2.drew := ⟨P2.out.blk, by rw [← hq4]; exact hz12, by rw [← hq5]; exact hz2⟩
  have HQ : Hid (∀ k, (ue.ownBlock = some k ∨ uk.ownBlock = some k) → k ≠ gg ∧ k ≠ q4 ∧ k ≠ q5) := fun k hk => by
    have h1 : k ≠ gg ∧ k < w.heap.size := by
      rcases hk with hk | hk
      · exact ⟨(h.ne k hk).1, (h.oe.lt k hk).2⟩
      · exact ⟨(h.nk k hk).1, (h.ok.lt k hk).2⟩
    exact ⟨h1.1, by omega, by omega⟩
  have hmq : mm ≠ gg ∧ mm ≠ q4 ∧ mm ≠ q5 := by have := h.lt mm h.gG.2; exact ⟨fun e => h.nm e.symm, by omega, by omega⟩
  obtain ⟨w3, up3, m3x, g3⟩ := run_upGb (show MapU W2.drew mm Value.bool L by obtain ⟨G', a', _⟩ := P2.out; exact a'.mp) ki true
  have P3 := P2.out.map g3 m3x
  have S3 := S2.grown g3 (fun k hk => by injection hk with hk; subst hk; exact hmq)
  have P4 : Hid (GaX w G gg mm ue uk E KL (upd L ki true) w3.drew) := P3.below (Below.refl w3.heap.size w3).drew
  have S4 : GaS gg q4 q5 ue uk mm kl ki lv a E0.length 0 w3.drew := S3.below (Below.refl w3.heap.size w3).drew
  have OE4 := Lib.hid P4.out.oe
  have nE0 := Lib.hid hE0
  have tEn : Hid ((Value.agg #[.string ⟨#[]⟩, .string ⟨#[]⟩]).cells.size = 2) := rfl
  have tKn : Hid ((Value.agg #[.string ⟨#[]⟩, .int .u64 0]).cells.size = 2) := rfl
  have m1 : Hid ((E.length + E0.length) * 32 ≤ 140737488355328) := by show _ ≤ _; omega
  have m2 : Hid (E.length + E0.length ≤ 140737488355328) := by show _ ≤ _; omega
  have m3 : Hid ((KL.length + 1) * 24 ≤ 140737488355328) := by show _ ≤ _; omega
  have m4 : Hid (KL.length + 1 ≤ 140737488355328) := by show _ ≤ _; omega
  have nn : Hid (([⟨kl, ki⟩] : List Kid) ≠ []) := by show _ ≠ _; simp
  have lv0 : (lv == 0) = true := by rw [beq_iff_eq]; exact hlv.out
  have RE4 : Hid (Rd Entry.enc 2 w3.drew a.A E0) := (((hN.below hbw2).hE.below (Below.refl W2.heap.size W2).drew (Nat.le_refl _)).grown g3 (fun x hx e => by injection e with e; exact hAG x hx (e ▸ h.gG.2))).below (Below.refl w3.heap.size w3).drew (Nat.le_refl _)
  have hgq : q4 ≠ gg ∧ q5 ≠ gg := by have := h.lt gg h.gG.1; omega
  have HGQ := Lib.hid hgq
  clear hb1 hz1 hb2 hz2 hz12 hbw2 X2 P2 P3 hN h hgq
  go_enter Tryz.func149, Tryz.ntmps149
  go_upto_region 1 with fail
  refine wp_region_noPanic ?_
  refine wp_regionZ 6 (GaS gg q4 q5 ue uk mm kl ki lv a E0.length 0) (by kernel_rfl) ?_
  refine AnyZ.takeU [6] (i := 0) (oi := ⟨some 6, _, _, _, _, _⟩) (v := ?_) rfl (by kernel_rfl) (by kernel_rfl) (by kernel_rfl) (by kernel_rfl) (by kernel_rfl) (by kernel_rfl) (fun _ _ _ h => h) (Or.inl ⟨by rfl, ?_⟩) (by assumption) ?_
  rotate_left
  · (intro w hSw; (try dsimp only at hSw); obtain ⟨kc0, kc1, kc2, klg, kd0, kd1, kld, ke0, ke1, ke2, kle⟩ := hSw.cells; (go_simp <;> with_reducible rfl))
  try simp only [Act.put, List.setIfInBounds_toArray, List.set_cons_zero, List.set_cons_succ]
  refine AnyZ.takeU [6] (i := 1) (oi := ⟨some 7, _, _, _, _, _⟩) (v := ?_) rfl (by kernel_rfl) (by kernel_rfl) (by kernel_rfl) (by kernel_rfl) (by kernel_rfl) (by kernel_rfl) (fun _ _ _ h => h) (Or.inl ⟨by rfl, ?_⟩) (by assumption) ?_
  rotate_left
  · (intro w hSw; (try dsimp only at hSw); obtain ⟨kc0, kc1, kc2, klg, kd0, kd1, kld, ke0, ke1, ke2, kle⟩ := hSw.cells; (go_simp <;> with_reducible rfl))
  try simp only [Act.put, List.setIfInBounds_toArray, List.set_cons_zero, List.set_cons_succ]
  refine AnyZ.takeU [6] (i := 2) (oi := ⟨some 8, _, _, _, _, _⟩) (v := ?_) rfl (by kernel_rfl) (by kernel_rfl) (by kernel_rfl) (by kernel_rfl) (by kernel_rfl) (by kernel_rfl) (fun _ _ _ h => h) (Or.inl ⟨by rfl, ?_⟩) (by assumption) ?_
  rotate_left
  · (intro w hSw; (try dsimp only at hSw); obtain ⟨kc0, kc1, kc2, klg, kd0, kd1, kld, ke0, ke1, ke2, kle⟩ := hSw.cells; (go_simp <;> with_reducible rfl))
  try simp only [Act.put, List.setIfInBounds_toArray, List.set_cons_zero, List.set_cons_succ]
  refine AnyZ.takeU [6] (i := 3) (oi := ⟨some 9, _, _, _, _, _⟩) (v := ?_) rfl (by kernel_rfl) (by kernel_rfl) (by kernel_rfl) (by kernel_rfl) (by kernel_rfl) (by kernel_rfl) (fun _ _ _ h => h) (Or.inl ⟨by rfl, ?_⟩) (by assumption) ?_
  rotate_left
  · (intro w hSw; (try dsimp only at hSw); obtain ⟨kc0, kc1, kc2, klg, kd0, kd1, kld, ke0, ke1, ke2, kle⟩ := hSw.cells; (go_simp <;> with_reducible rfl))
  try simp only [Act.put, List.setIfInBounds_toArray, List.set_cons_zero, List.set_cons_succ]
  refine AnyZ.takeU [6] (i := 4) (oi := ⟨some 10, _, _, _, _, _⟩) (v := ?_) rfl (by kernel_rfl) (by kernel_rfl) (by kernel_rfl) (by kernel_rfl) (by kernel_rfl) (by kernel_rfl) (fun _ _ _ h => h) (Or.inl ⟨by rfl, ?_⟩) (by assumption) ?_
  rotate_left
  · (intro w hSw; (try dsimp only at hSw); obtain ⟨kc0, kc1, kc2, klg, kd0, kd1, kld, ke0, ke1, ke2, kle⟩ := hSw.cells; (go_simp <;> with_reducible rfl))
  try simp only [Act.put, List.setIfInBounds_toArray, List.set_cons_zero, List.set_cons_succ]
  refine AnyZ.takeU [6] (i := 5) (oi := ⟨some 11, _, _, _, _, _⟩) (v := ?_) rfl (by kernel_rfl) (by kernel_rfl) (by kernel_rfl) (by kernel_rfl) (by kernel_rfl) (by kernel_rfl) (fun _ _ _ h => h) (Or.inl ⟨by rfl, ?_⟩) (by assumption) ?_
  rotate_left
  · (intro w hSw; (try dsimp only at hSw); obtain ⟨kc0, kc1, kc2, klg, kd0, kd1, kld, ke0, ke1, ke2, kle⟩ := hSw.cells; (go_simp <;> with_reducible rfl))
  try simp only [Act.put, List.setIfInBounds_toArray, List.set_cons_zero, List.set_cons_succ]
  refine AnyZ.one (i := 6) (by kernel_rfl) rfl (fun K hK => ?_)
  go_simp
  refine hK.out _ _ (.inl rfl) ?_
  clear hK K
  try simp only [Act.put, List.setIfInBounds_toArray, List.set_cons_zero, List.set_cons_succ]
  refine AnyZ.done (by kernel_rfl) ?_ _
  refine NoPanic.normal ?_
  go_upto_region 2 with fail
  refine wp_region_noPanic ?_
  refine wp_regionZ 10 (GaS gg q4 q5 ue uk mm kl ki lv a E0.length 0) (by kernel_rfl) ?_
  refine AnyZ.takeU [10] (i := 0) (oi := ⟨some 12, _, _, _, _, _⟩) (v := ?_) rfl (by kernel_rfl) (by kernel_rfl) (by kernel_rfl) (by kernel_rfl) (by kernel_rfl) (by kernel_rfl) (fun _ _ _ h => h) (Or.inl ⟨by rfl, ?_⟩) (by assumption) ?_
  rotate_left
  · (intro w hSw; (try dsimp only at hSw); obtain ⟨kc0, kc1, kc2, klg, kd0, kd1, kld, ke0, ke1, ke2, kle⟩ := hSw.cells; (go_simp <;> with_reducible rfl))
  try simp only [Act.put, List.setIfInBounds_toArray, List.set_cons_zero, List.set_cons_succ]
  refine AnyZ.takeU [10] (i := 1) (oi := ⟨some 13, _, _, _, _, _⟩) (v := ?_) rfl (by kernel_rfl) (by kernel_rfl) (by kernel_rfl) (by kernel_rfl) (by kernel_rfl) (by kernel_rfl) (fun _ _ _ h => h) (Or.inl ⟨by rfl, ?_⟩) (by assumption) ?_
  rotate_left
  · (intro w hSw; (try dsimp only at hSw); obtain ⟨kc0, kc1, kc2, klg, kd0, kd1, kld, ke0, ke1, ke2, kle⟩ := hSw.cells; (go_simp <;> with_reducible rfl))
  try simp only [Act.put, List.setIfInBounds_toArray, List.set_cons_zero, List.set_cons_succ]
  refine AnyZ.takeU [10] (i := 2) (oi := ⟨some 14, _, _, _, _, _⟩) (v := ?_) rfl (by kernel_rfl) (by kernel_rfl) (by kernel_rfl) (by kernel_rfl) (by kernel_rfl) (by kernel_rfl) (fun _ _ _ h => h) (Or.inl ⟨by rfl, ?_⟩) (by assumption) ?_
  rotate_left
  · (intro w hSw; (try dsimp only at hSw); obtain ⟨kc0, kc1, kc2, klg, kd0, kd1, kld, ke0, ke1, ke2, kle⟩ := hSw.cells; (go_simp <;> with_reducible rfl))
  try simp only [Act.put, List.setIfInBounds_toArray, List.set_cons_zero, List.set_cons_succ]
  refine AnyZ.takeU [10] (i := 3) (oi := ⟨some 15, _, _, _, _, _⟩) (v := ?_) rfl (by kernel_rfl) (by kernel_rfl) (by kernel_rfl) (by kernel_rfl) (by kernel_rfl) (by kernel_rfl) (fun _ _ _ h => h) (Or.inl ⟨by rfl, ?_⟩) (by assumption) ?_
  rotate_left
  · (intro w hSw; (try dsimp only at hSw); obtain ⟨kc0, kc1, kc2, klg, kd0, kd1, kld, ke0, ke1, ke2, kle⟩ := hSw.cells; (go_simp <;> with_reducible rfl))
  try simp only [Act.put, List.setIfInBounds_toArray, List.set_cons_zero, List.set_cons_succ]
  refine AnyZ.takeU [10] (i := 4) (oi := ⟨some 16, _, _, _, _, _⟩) (v := ?_) rfl (by kernel_rfl) (by kernel_rfl) (by kernel_rfl) (by kernel_rfl) (by kernel_rfl) (by kernel_rfl) (fun _ _ _ h => h) (Or.inl ⟨by rfl, ?_⟩) (by assumption) ?_
  rotate_left
  · (intro w hSw; (try dsimp only at hSw); obtain ⟨kc0, kc1, kc2, klg, kd0, kd1, kld, ke0, ke1, ke2, kle⟩ := hSw.cells; (go_simp <;> with_reducible rfl))
  try simp only [Act.put, List.setIfInBounds_toArray, List.set_cons_zero, List.set_cons_succ]
  refine AnyZ.takeU [10] (i := 5) (oi := ⟨some 17, _, _, _, _, _⟩) (v := ?_) rfl (by kernel_rfl) (by kernel_rfl) (by kernel_rfl) (by kernel_rfl) (by kernel_rfl) (by kernel_rfl) (fun _ _ _ h => h) (Or.inl ⟨by rfl, ?_⟩) (by assumption) ?_
  rotate_left
  · (intro w hSw; (try dsimp only at hSw); obtain ⟨kc0, kc1, kc2, klg, kd0, kd1, kld, ke0, ke1, ke2, kle⟩ := hSw.cells; (go_simp <;> with_reducible rfl))
  try simp only [Act.put, List.setIfInBounds_toArray, List.set_cons_zero, List.set_cons_succ]
  refine AnyZ.takeU [10] (i := 6) (oi := ⟨some 18, _, _, _, _, _⟩) (v := ?_) rfl (by kernel_rfl) (by kernel_rfl) (by kernel_rfl) (by kernel_rfl) (by kernel_rfl) (by kernel_rfl) (fun _ _ _ h => h) (Or.inl ⟨by rfl, ?_⟩) (by assumption) ?_
  rotate_left
  · (intro w hSw; (try dsimp only at hSw); obtain ⟨kc0, kc1, kc2, klg, kd0, kd1, kld, ke0, ke1, ke2, kle⟩ := hSw.cells; (go_simp <;> with_reducible rfl))
  try simp only [Act.put, List.setIfInBounds_toArray, List.set_cons_zero, List.set_cons_succ]
  refine AnyZ.one (i := 7) (by kernel_rfl) rfl (fun K hK => ?_)
  refine at_step rfl (op_ownN Entry.ok (.tmp 16) (.tmp 18) _ _ _ _ rfl Tryz.underlying22 infoEn tEn.out 0 ue E a.A a.ca E0 E0.length rfl nE0.out rfl rfl OE4.out RE4.out (Nat.zero_le _) m1.out m2.out ?_)
  intro g7 cap7 w7 ho7 hg7 hat7 hlt7
  obtain ⟨P8, f7⟩ := P4.out.appE ho7 hg7 hat7 hlt7
  have S7 := S4.grown hg7 (fun k hk => HQ.out k (.inl hk))
  obtain ⟨c7, -, -, l7, -, -, -, -, -, -, -⟩ := S7.cells
  clear ho7 hg7 hat7 hlt7
  refine hK.out _ _ (.inr (by assumption)) ?_
  clear hK K
  try simp only [Act.put, List.setIfInBounds_toArray, List.set_cons_zero, List.set_cons_succ]
  refine AnyZ.takeU [10, 9] (i := 8) (oi := ⟨some 20, _, _, _, _, _⟩) (v := ?_) rfl (by kernel_rfl) (by kernel_rfl) (by kernel_rfl) (by kernel_rfl) (by kernel_rfl) (by kernel_rfl) (fun _ _ _ h => h) (Or.inl ⟨by rfl, ?_⟩) (by assumption) ?_
  rotate_left
  · (intro w hSw; (try dsimp only at hSw); obtain ⟨kc0, kc1, kc2, klg, kd0, kd1, kld, ke0, ke1, ke2, kle⟩ := hSw.cells; (go_simp <;> with_reducible rfl))
  try simp only [Act.put, List.setIfInBounds_toArray, List.set_cons_zero, List.set_cons_succ]
  refine AnyZ.takeU [10] (i := 9) (oi := ⟨some 21, _, _, _, _, _⟩) (v := ?_) rfl (by kernel_rfl) (by kernel_rfl) (by kernel_rfl) (by kernel_rfl) (by kernel_rfl) (by kernel_rfl) (fun _ _ _ h => h) (Or.inl ⟨by rfl, ?_⟩) (by assumption) ?_
  rotate_left
  · (intro w hSw; (try dsimp only at hSw); obtain ⟨kc0, kc1, kc2, klg, kd0, kd1, kld, ke0, ke1, ke2, kle⟩ := hSw.cells; (go_simp <;> with_reducible rfl))
  try simp only [Act.put, List.setIfInBounds_toArray, List.set_cons_zero, List.set_cons_succ]
  refine AnyZ.one (i := 10) (by kernel_rfl) rfl (fun K hK => ?_)
  go_simp
  refine hK.out _ _ (.inl rfl) ?_
  clear hK K
  try simp only [Act.put, List.setIfInBounds_toArray, List.set_cons_zero, List.set_cons_succ]
  refine AnyZ.done (by kernel_rfl) ?_ _
  refine NoPanic.normal ?_
  have S8' := S7.set0 (.slice (some ⟨g7, 0, none⟩) (E.length + E0.length) cap7) HGQ.out.1 HGQ.out.2
  obtain ⟨w8, hw8⟩ : ∃ w8, w7.setCell ⟨gg, 0, none⟩ (.slice (some ⟨g7, 0, none⟩) (E.length + E0.length) cap7) = w8 := ⟨_, rfl⟩
  rw [hw8] at P8 S8' ⊢
  obtain ⟨ue8, hu8⟩ : ∃ v, Value.slice (some ⟨g7, 0, none⟩) (E.length + E0.length) cap7 = v := ⟨_, rfl⟩
  rw [hu8] at P8 S8'
  obtain ⟨-, -, -, -, -, -, -, e0, -, -, el⟩ := S8'.cells
  have S8 : GaS gg q4 q5 ue8 uk mm kl ki lv a E0.length 0 w8.drew := S8'.below (Below.refl w8.heap.size w8).drew
  have hb9 : Below w8.drew.heap.size w8.drew (w8.drew.alloc (.cells #[.string kl, .int .u64 ki] 109)) := bl_alloc (Below.refl _ w8.drew) _
  have S9 : GaS gg q4 q5 ue8 uk mm kl ki lv a E0.length 0 (w8.drew.alloc (.cells #[.string kl, .int .u64 ki] 109)) := S8.below hb9
  have P9 := Lib.hid ((P8.out.below (Below.refl w8.heap.size w8).drew).below hb9)
  have OK9 := Lib.hid P9.out.ok
  have RK9 : Hid (Rd Kid.enc 2 (w8.drew.alloc (.cells #[.string kl, .int .u64 ki] 109)) (some ⟨w8.heap.size, 0, none⟩) [⟨kl, ki⟩]) := Rd.lit (blk_new w8.drew _) rfl
  clear S2 S3 S4 S7 S8' c7 l7 f7 hw8 hu8 hb9 up3 m3x g3
  go_upto_region 4 with fail
  refine wp_region_noPanic ?_
  refine wp_regionZ 10 (GaS gg q4 q5 ue8 uk mm kl ki lv a E0.length 0) (by kernel_rfl) ?_
  refine AnyZ.takeU [10] (i := 0) (oi := ⟨some 25, _, _, _, _, _⟩) (v := ?_) rfl (by kernel_rfl) (by kernel_rfl) (by kernel_rfl) (by kernel_rfl) (by kernel_rfl) (by kernel_rfl) (fun _ _ _ h => h) (Or.inl ⟨by rfl, ?_⟩) (by assumption) ?_
  rotate_left
  · (intro w hSw; (try dsimp only at hSw); obtain ⟨kc0, kc1, kc2, klg, kd0, kd1, kld, ke0, ke1, ke2, kle⟩ := hSw.cells; (go_simp <;> with_reducible rfl))
  try simp only [Act.put, List.setIfInBounds_toArray, List.set_cons_zero, List.set_cons_succ]
  refine AnyZ.takeU [10] (i := 1) (oi := ⟨some 26, _, _, _, _, _⟩) (v := ?_) rfl (by kernel_rfl) (by kernel_rfl) (by kernel_rfl) (by kernel_rfl) (by kernel_rfl) (by kernel_rfl) (fun _ _ _ h => h) (Or.inl ⟨by rfl, ?_⟩) (by assumption) ?_
  rotate_left
  · (intro w hSw; (try dsimp only at hSw); obtain ⟨kc0, kc1, kc2, klg, kd0, kd1, kld, ke0, ke1, ke2, kle⟩ := hSw.cells; (go_simp <;> with_reducible rfl))
  try simp only [Act.put, List.setIfInBounds_toArray, List.set_cons_zero, List.set_cons_succ]
  refine AnyZ.takeU [10] (i := 2) (oi := ⟨some 27, _, _, _, _, _⟩) (v := ?_) rfl (by kernel_rfl) (by kernel_rfl) (by kernel_rfl) (by kernel_rfl) (by kernel_rfl) (by kernel_rfl) (fun _ _ _ h => h) (Or.inl ⟨by rfl, ?_⟩) (by assumption) ?_
  rotate_left
  · (intro w hSw; (try dsimp only at hSw); obtain ⟨kc0, kc1, kc2, klg, kd0, kd1, kld, ke0, ke1, ke2, kle⟩ := hSw.cells; (go_simp <;> with_reducible rfl))
  try simp only [Act.put, List.setIfInBounds_toArray, List.set_cons_zero, List.set_cons_succ]
  refine AnyZ.takeU [10] (i := 3) (oi := ⟨some 28, _, _, _, _, _⟩) (v := ?_) rfl (by kernel_rfl) (by kernel_rfl) (by kernel_rfl) (by kernel_rfl) (by kernel_rfl) (by kernel_rfl) (fun _ _ _ h => h) (Or.inl ⟨by rfl, ?_⟩) (by assumption) ?_
  rotate_left
  · (intro w hSw; (try dsimp only at hSw); obtain ⟨kc0, kc1, kc2, klg, kd0, kd1, kld, ke0, ke1, ke2, kle⟩ := hSw.cells; (go_simp <;> with_reducible rfl))
  try simp only [Act.put, List.setIfInBounds_toArray, List.set_cons_zero, List.set_cons_succ]
  refine AnyZ.takeU [10] (i := 4) (oi := ⟨some 29, _, _, _, _, _⟩) (v := ?_) rfl (by kernel_rfl) (by kernel_rfl) (by kernel_rfl) (by kernel_rfl) (by kernel_rfl) (by kernel_rfl) (fun _ _ _ h => h) (Or.inl ⟨by rfl, ?_⟩) (by assumption) ?_
  rotate_left
  · (intro w hSw; (try dsimp only at hSw); obtain ⟨kc0, kc1, kc2, klg, kd0, kd1, kld, ke0, ke1, ke2, kle⟩ := hSw.cells; (go_simp <;> with_reducible rfl))
  try simp only [Act.put, List.setIfInBounds_toArray, List.set_cons_zero, List.set_cons_succ]
  refine AnyZ.takeU [10] (i := 5) (oi := ⟨some 30, _, _, _, _, _⟩) (v := ?_) rfl (by kernel_rfl) (by kernel_rfl) (by kernel_rfl) (by kernel_rfl) (by kernel_rfl) (by kernel_rfl) (fun _ _ _ h => h) (Or.inl ⟨by rfl, ?_⟩) (by assumption) ?_
  rotate_left
  · (intro w hSw; (try dsimp only at hSw); obtain ⟨kc0, kc1, kc2, klg, kd0, kd1, kld, ke0, ke1, ke2, kle⟩ := hSw.cells; (go_simp <;> with_reducible rfl))
  try simp only [Act.put, List.setIfInBounds_toArray, List.set_cons_zero, List.set_cons_succ]
  refine AnyZ.one (i := 6) (by kernel_rfl) rfl (fun K hK => ?_)
  go_simp
  refine hK.out _ _ (.inr (by assumption)) ?_
  clear hK K
  try simp only [Act.put, List.setIfInBounds_toArray, List.set_cons_zero, List.set_cons_succ]
  refine AnyZ.one (i := 7) (by kernel_rfl) rfl (fun K hK => ?_)
  refine at_step rfl (op_ownN Kid.ok (.tmp 29) (.tmp 31) _ _ _ _ rfl Tryz.underlying96 infoKn tKn.out 0 uk KL (some ⟨w8.heap.size, 0, none⟩) 1 [⟨kl, ki⟩] 1 rfl nn.out rfl rfl OK9.out RK9.out (Nat.zero_le _) m3.out m4.out ?_)
  intro g10 cap10 w10 ho10 hg10 hat10 hlt10
  obtain ⟨P11, f10⟩ := P9.out.appK ho10 hg10 hat10 hlt10
  have S10 := S9.grown hg10 (fun k hk => HQ.out k (.inr hk))
  obtain ⟨-, c10, -, l10, -, -, -, -, -, -, -⟩ := S10.cells
  clear ho10 hg10 hat10 hlt10
  refine hK.out _ _ (.inr (by assumption)) ?_
  clear hK K
  try simp only [Act.put, List.setIfInBounds_toArray, List.set_cons_zero, List.set_cons_succ]
  refine AnyZ.takeU [10, 9] (i := 8) (oi := ⟨some 33, _, _, _, _, _⟩) (v := ?_) rfl (by kernel_rfl) (by kernel_rfl) (by kernel_rfl) (by kernel_rfl) (by kernel_rfl) (by kernel_rfl) (fun _ _ _ h => h) (Or.inl ⟨by rfl, ?_⟩) (by assumption) ?_
  rotate_left
  · (intro w hSw; (try dsimp only at hSw); obtain ⟨kc0, kc1, kc2, klg, kd0, kd1, kld, ke0, ke1, ke2, kle⟩ := hSw.cells; (go_simp <;> with_reducible rfl))
  try simp only [Act.put, List.setIfInBounds_toArray, List.set_cons_zero, List.set_cons_succ]
  refine AnyZ.takeU [10] (i := 9) (oi := ⟨some 34, _, _, _, _, _⟩) (v := ?_) rfl (by kernel_rfl) (by kernel_rfl) (by kernel_rfl) (by kernel_rfl) (by kernel_rfl) (by kernel_rfl) (fun _ _ _ h => h) (Or.inl ⟨by rfl, ?_⟩) (by assumption) ?_
  rotate_left
  · (intro w hSw; (try dsimp only at hSw); obtain ⟨kc0, kc1, kc2, klg, kd0, kd1, kld, ke0, ke1, ke2, kle⟩ := hSw.cells; (go_simp <;> with_reducible rfl))
  try simp only [Act.put, List.setIfInBounds_toArray, List.set_cons_zero, List.set_cons_succ]
  refine AnyZ.one (i := 10) (by kernel_rfl) rfl (fun K hK => ?_)
  go_simp
  refine hK.out _ _ (.inl rfl) ?_
  clear hK K
  try simp only [Act.put, List.setIfInBounds_toArray, List.set_cons_zero, List.set_cons_succ]
  refine AnyZ.done (by kernel_rfl) ?_ _
  refine NoPanic.normal ?_
  go_wp2
  go_end0
  exact ⟨rfl, _, _, P11.out⟩
def GaI (w w' : World) (G : Nat → Prop) (gg mm : Nat) (E : List Entry) (K : List Kid) (L : List (Int × Bool)) (e : Ending) : Prop := e = .returned (.tuple #[]) ∧ ∃ ue uk, GaX w G gg mm ue uk E K L w'
set_option maxRecDepth 100000 in
set_option maxHeartbeats 4000000 in
theorem allInner_calls (w : World) (G : Nat → Prop) (gg mm : Nat) (ue uk : Value) (E : List Entry) (KL : List Kid) (L : List (Int × Bool)) (h : GaT G gg mm ue uk E KL L w) (kl : Str) (ki : Int) (lv : Int) (a : NdA) (K0 : List Kid) (hlv : 1 ≤ lv) (hN : NdAt w a ⟨lv, [], K0⟩) :
    Calls Tryz.prog 149 #[.pointer (some ⟨gg, 0, none⟩), .agg #[.string kl, .int .u64 ki], .agg #[.int .i64 lv, .slice a.A ([] : List Entry).length a.ca, .slice a.B K0.length a.cb]] w fun e w' => GaI w w' G gg mm E KL (upd L ki true) e := by
  obtain ⟨W1, hW1⟩ : ∃ W, w.alloc (.cells #[.string kl, .int .u64 ki] 109) = W := ⟨_, rfl⟩
  have hb1 : Below w.heap.size w W1 := by rw [← hW1]; exact bl_alloc (Below.refl _ w) _
  have hz1 : W1.heap[w.heap.size]? = some (.cells #[.string kl, .int .u64 ki] 109 (0, 0)) := by rw [← hW1]; exact blk_new w _
  obtain ⟨W2, hW2⟩ : ∃ W, W1.alloc (.cells #[.int .i64 lv, .slice a.A 0 a.ca, .slice a.B K0.length a.cb] 98) = W := ⟨_, rfl⟩
  have hb2 : Below W1.heap.size W1 W2 := by rw [← hW2]; exact bl_alloc (Below.refl _ W1) _
  have hz2 : W2.heap[W1.heap.size]? = some (.cells #[.int .i64 lv, .slice a.A 0 a.ca, .slice a.B K0.length a.cb] 98 (0, 0)) := by rw [← hW2]; exact blk_new W1 _
  have hz12 := blk_below hb2 hz1 (blk_lt hz1)
  obtain ⟨q4, hq4⟩ : ∃ q, w.heap.size = q := ⟨_, rfl⟩
  obtain ⟨q5, hq5⟩ : ∃ q, W1.heap.size = q := ⟨_, rfl⟩
  have hs5 : q4 ≤ q5 := by rw [← hq4, ← hq5]; exact hb1.size
  have hbw2 : Below w.heap.size w W2 := bl_then hb1 hb1.size hb2
  have X2 : GaX w G gg mm ue uk E KL L W2 := GaX.below ⟨G, h, Chg.refl _ _, fun i hi => .inl hi⟩ hbw2
  have P2 : Hid (GaX w G gg mm ue uk E KL L W2.drew) := X2.below (Below.refl W2.heap.size W2).drew
  have S2 : GaS gg q4 q5 ue uk mm kl ki lv a 0 K0.length W2.drew := ⟨P2.out.blk, by rw [← hq4]; exact hz12, by rw [← hq5]; exact hz2⟩
  have HQ : Hid (∀ k, (ue.ownBlock = some k ∨ uk.ownBlock = some k) → k ≠ gg ∧ k ≠ q4 ∧ k ≠ q5) := fun k hk => by
    have h1 : k ≠ gg ∧ k < w.heap.size := by
      rcases hk with hk | hk
      · exact ⟨(h.ne k hk).1, (h.oe.lt k hk).2⟩
      · exact ⟨(h.nk k hk).1, (h.ok.lt k hk).2⟩
    exact ⟨h1.1, by omega, by omega⟩
  have hmq : mm ≠ gg ∧ mm ≠ q4 ∧ mm ≠ q5 := by have := h.lt mm h.gG.2; exact ⟨fun e => h.nm e.symm, by omega, by omega⟩
  obtain ⟨w3, up3, m3x, g3⟩ := run_upGb (show MapU W2.drew mm Value.bool L by obtain ⟨G', a', _⟩ := P2.out; exact a'.mp) ki true
  have P3 := P2.out.map g3 m3x
  have S3 := S2.grown g3 (fun k hk => by injection hk with hk; subst hk; exact hmq)
  have P4 : Hid (GaX w G gg mm ue uk E KL (upd L ki true) w3.drew) := P3.below (Below.refl w3.heap.size w3).drew
  have S4 : GaS gg q4 q5 ue uk mm kl ki lv a 0 K0.length w3.drew := S3.below (Below.refl w3.heap.size w3).drew
  have lv0 : (lv == 0) = false := by rw [beq_eq_false_iff_ne]; omega
  obtain ⟨eA, eC, hue, hle, -, -, -⟩ := P4.out.oe.rd Entry.ok
  have HUE := Lib.hid hue
  clear hue
  have hgq : q4 ≠ gg ∧ q5 ≠ gg := by have := h.lt gg h.gG.1; omega
  have HGQ := Lib.hid hgq
  clear hb1 hz1 hb2 hz2 hz12 hbw2 X2 P2 P3 hN h hgq
  go_enter Tryz.func149, Tryz.ntmps149
  go_upto_region 1 with fail
  refine wp_region_noPanic ?_
  refine wp_regionZ 6 (GaS gg q4 q5 ue uk mm kl ki lv a 0 K0.length) (by kernel_rfl) ?_
  refine AnyZ.takeU [6] (i := 0) (oi := ⟨some 6, _, _, _, _, _⟩) (v := ?_) rfl (by kernel_rfl) (by kernel_rfl) (by kernel_rfl) (by kernel_rfl) (by kernel_rfl) (by kernel_rfl) (fun _ _ _ h => h) (Or.inl ⟨by rfl, ?_⟩) (by assumption) ?_
  rotate_left
  · (intro w hSw; (try dsimp only at hSw); obtain ⟨kc0, kc1, kc2, klg, kd0, kd1, kld, ke0, ke1, ke2, kle⟩ := hSw.cells; (go_simp <;> with_reducible rfl))
  try simp only [Act.put, List.setIfInBounds_toArray, List.set_cons_zero, List.set_cons_succ]
  refine AnyZ.takeU [6] (i := 1) (oi := ⟨some 7, _, _, _, _, _⟩) (v := ?_) rfl (by kernel_rfl) (by kernel_rfl) (by kernel_rfl) (by kernel_rfl) (by kernel_rfl) (by kernel_rfl) (fun _ _ _ h => h) (Or.inl ⟨by rfl, ?_⟩) (by assumption) ?_
  rotate_left
  · (intro w hSw; (try dsimp only at hSw); obtain ⟨kc0, kc1, kc2, klg, kd0, kd1, kld, ke0, ke1, ke2, kle⟩ := hSw.cells; (go_simp <;> with_reducible rfl))
  try simp only [Act.put, List.setIfInBounds_toArray, List.set_cons_zero, List.set_cons_succ]
  refine AnyZ.takeU [6] (i := 2) (oi := ⟨some 8, _, _, _, _, _⟩) (v := ?_) rfl (by kernel_rfl) (by kernel_rfl) (by kernel_rfl) (by kernel_rfl) (by kernel_rfl) (by kernel_rfl) (fun _ _ _ h => h) (Or.inl ⟨by rfl, ?_⟩) (by assumption) ?_
  rotate_left
  · (intro w hSw; (try dsimp only at hSw); obtain ⟨kc0, kc1, kc2, klg, kd0, kd1, kld, ke0, ke1, ke2, kle⟩ := hSw.cells; (go_simp <;> with_reducible rfl))
  try simp only [Act.put, List.setIfInBounds_toArray, List.set_cons_zero, List.set_cons_succ]
  refine AnyZ.takeU [6] (i := 3) (oi := ⟨some 9, _, _, _, _, _⟩) (v := ?_) rfl (by kernel_rfl) (by kernel_rfl) (by kernel_rfl) (by kernel_rfl) (by kernel_rfl) (by kernel_rfl) (fun _ _ _ h => h) (Or.inl ⟨by rfl, ?_⟩) (by assumption) ?_
  rotate_left
  · (intro w hSw; (try dsimp only at hSw); obtain ⟨kc0, kc1, kc2, klg, kd0, kd1, kld, ke0, ke1, ke2, kle⟩ := hSw.cells; (go_simp <;> with_reducible rfl))
  try simp only [Act.put, List.setIfInBounds_toArray, List.set_cons_zero, List.set_cons_succ]
  refine AnyZ.takeU [6] (i := 4) (oi := ⟨some 10, _, _, _, _, _⟩) (v := ?_) rfl (by kernel_rfl) (by kernel_rfl) (by kernel_rfl) (by kernel_rfl) (by kernel_rfl) (by kernel_rfl) (fun _ _ _ h => h) (Or.inl ⟨by rfl, ?_⟩) (by assumption) ?_
  rotate_left
  · (intro w hSw; (try dsimp only at hSw); obtain ⟨kc0, kc1, kc2, klg, kd0, kd1, kld, ke0, ke1, ke2, kle⟩ := hSw.cells; (go_simp <;> with_reducible rfl))
  try simp only [Act.put, List.setIfInBounds_toArray, List.set_cons_zero, List.set_cons_succ]
  refine AnyZ.takeU [6] (i := 5) (oi := ⟨some 11, _, _, _, _, _⟩) (v := ?_) rfl (by kernel_rfl) (by kernel_rfl) (by kernel_rfl) (by kernel_rfl) (by kernel_rfl) (by kernel_rfl) (fun _ _ _ h => h) (Or.inl ⟨by rfl, ?_⟩) (by assumption) ?_
  rotate_left
  · (intro w hSw; (try dsimp only at hSw); obtain ⟨kc0, kc1, kc2, klg, kd0, kd1, kld, ke0, ke1, ke2, kle⟩ := hSw.cells; (go_simp <;> with_reducible rfl))
  try simp only [Act.put, List.setIfInBounds_toArray, List.set_cons_zero, List.set_cons_succ]
  refine AnyZ.one (i := 6) (by kernel_rfl) rfl (fun K hK => ?_)
  go_simp
  refine hK.out _ _ (.inl rfl) ?_
  clear hK K
  try simp only [Act.put, List.setIfInBounds_toArray, List.set_cons_zero, List.set_cons_succ]
  refine AnyZ.done (by kernel_rfl) ?_ _
  refine NoPanic.normal ?_
  go_upto_region 2 with fail
  refine wp_region_noPanic ?_
  refine wp_regionZ 10 (GaS gg q4 q5 ue uk mm kl ki lv a 0 K0.length) (by kernel_rfl) ?_
  refine AnyZ.takeU [10] (i := 0) (oi := ⟨some 12, _, _, _, _, _⟩) (v := ?_) rfl (by kernel_rfl) (by kernel_rfl) (by kernel_rfl) (by kernel_rfl) (by kernel_rfl) (by kernel_rfl) (fun _ _ _ h => h) (Or.inl ⟨by rfl, ?_⟩) (by assumption) ?_
  rotate_left
  · (intro w hSw; (try dsimp only at hSw); obtain ⟨kc0, kc1, kc2, klg, kd0, kd1, kld, ke0, ke1, ke2, kle⟩ := hSw.cells; (go_simp <;> with_reducible rfl))
  try simp only [Act.put, List.setIfInBounds_toArray, List.set_cons_zero, List.set_cons_succ]
  refine AnyZ.takeU [10] (i := 1) (oi := ⟨some 13, _, _, _, _, _⟩) (v := ?_) rfl (by kernel_rfl) (by kernel_rfl) (by kernel_rfl) (by kernel_rfl) (by kernel_rfl) (by kernel_rfl) (fun _ _ _ h => h) (Or.inl ⟨by rfl, ?_⟩) (by assumption) ?_
  rotate_left
  · (intro w hSw; (try dsimp only at hSw); obtain ⟨kc0, kc1, kc2, klg, kd0, kd1, kld, ke0, ke1, ke2, kle⟩ := hSw.cells; (go_simp <;> with_reducible rfl))
  try simp only [Act.put, List.setIfInBounds_toArray, List.set_cons_zero, List.set_cons_succ]
  refine AnyZ.takeU [10] (i := 2) (oi := ⟨some 14, _, _, _, _, _⟩) (v := ?_) rfl (by kernel_rfl) (by kernel_rfl) (by kernel_rfl) (by kernel_rfl) (by kernel_rfl) (by kernel_rfl) (fun _ _ _ h => h) (Or.inl ⟨by rfl, ?_⟩) (by assumption) ?_
  rotate_left
  · (intro w hSw; (try dsimp only at hSw); obtain ⟨kc0, kc1, kc2, klg, kd0, kd1, kld, ke0, ke1, ke2, kle⟩ := hSw.cells; (go_simp <;> with_reducible rfl))
  try simp only [Act.put, List.setIfInBounds_toArray, List.set_cons_zero, List.set_cons_succ]
  refine AnyZ.takeU [10] (i := 3) (oi := ⟨some 15, _, _, _, _, _⟩) (v := ?_) rfl (by kernel_rfl) (by kernel_rfl) (by kernel_rfl) (by kernel_rfl) (by kernel_rfl) (by kernel_rfl) (fun _ _ _ h => h) (Or.inl ⟨by rfl, ?_⟩) (by assumption) ?_
  rotate_left
  · (intro w hSw; (try dsimp only at hSw); obtain ⟨kc0, kc1, kc2, klg, kd0, kd1, kld, ke0, ke1, ke2, kle⟩ := hSw.cells; (go_simp <;> with_reducible rfl))
  try simp only [Act.put, List.setIfInBounds_toArray, List.set_cons_zero, List.set_cons_succ]
  refine AnyZ.takeU [10] (i := 4) (oi := ⟨some 16, _, _, _, _, _⟩) (v := ?_) rfl (by kernel_rfl) (by kernel_rfl) (by kernel_rfl) (by kernel_rfl) (by kernel_rfl) (by kernel_rfl) (fun _ _ _ h => h) (Or.inl ⟨by rfl, ?_⟩) (by assumption) ?_
  rotate_left
  · (intro w hSw; (try dsimp only at hSw); obtain ⟨kc0, kc1, kc2, klg, kd0, kd1, kld, ke0, ke1, ke2, kle⟩ := hSw.cells; (go_simp <;> with_reducible rfl))
  try simp only [Act.put, List.setIfInBounds_toArray, List.set_cons_zero, List.set_cons_succ]
  refine AnyZ.takeU [10] (i := 5) (oi := ⟨some 17, _, _, _, _, _⟩) (v := ?_) rfl (by kernel_rfl) (by kernel_rfl) (by kernel_rfl) (by kernel_rfl) (by kernel_rfl) (by kernel_rfl) (fun _ _ _ h => h) (Or.inl ⟨by rfl, ?_⟩) (by assumption) ?_
  rotate_left
  · (intro w hSw; (try dsimp only at hSw); obtain ⟨kc0, kc1, kc2, klg, kd0, kd1, kld, ke0, ke1, ke2, kle⟩ := hSw.cells; (go_simp <;> with_reducible rfl))
  try simp only [Act.put, List.setIfInBounds_toArray, List.set_cons_zero, List.set_cons_succ]
  refine AnyZ.takeU [10] (i := 6) (oi := ⟨some 18, _, _, _, _, _⟩) (v := ?_) rfl (by kernel_rfl) (by kernel_rfl) (by kernel_rfl) (by kernel_rfl) (by kernel_rfl) (by kernel_rfl) (fun _ _ _ h => h) (Or.inl ⟨by rfl, ?_⟩) (by assumption) ?_
  rotate_left
  · (intro w hSw; (try dsimp only at hSw); obtain ⟨kc0, kc1, kc2, klg, kd0, kd1, kld, ke0, ke1, ke2, kle⟩ := hSw.cells; (go_simp <;> with_reducible rfl))
  try simp only [Act.put, List.setIfInBounds_toArray, List.set_cons_zero, List.set_cons_succ]
  refine AnyZ.one (i := 7) (by kernel_rfl) rfl (fun K hK => ?_)
  refine at_step rfl (op_nothing (.tmp 16) (.tmp 18) _ _ _ _ rfl Tryz.underlying22 infoEn eA a.A E.length eC a.ca hle HUE.out rfl ?_)
  obtain ⟨c7, -, -, l7, -, -, -, -, -, -, -⟩ := S4.cells
  have f7 := blk_free S4.1 0
  refine hK.out _ _ (.inr (by assumption)) ?_
  clear hK K
  try simp only [Act.put, List.setIfInBounds_toArray, List.set_cons_zero, List.set_cons_succ]
  refine AnyZ.takeU [10, 9] (i := 8) (oi := ⟨some 20, _, _, _, _, _⟩) (v := ?_) rfl (by kernel_rfl) (by kernel_rfl) (by kernel_rfl) (by kernel_rfl) (by kernel_rfl) (by kernel_rfl) (fun _ _ _ h => h) (Or.inl ⟨by rfl, ?_⟩) (by assumption) ?_
  rotate_left
  · (intro w hSw; (try dsimp only at hSw); obtain ⟨kc0, kc1, kc2, klg, kd0, kd1, kld, ke0, ke1, ke2, kle⟩ := hSw.cells; (go_simp <;> with_reducible rfl))
  try simp only [Act.put, List.setIfInBounds_toArray, List.set_cons_zero, List.set_cons_succ]
  refine AnyZ.takeU [10] (i := 9) (oi := ⟨some 21, _, _, _, _, _⟩) (v := ?_) rfl (by kernel_rfl) (by kernel_rfl) (by kernel_rfl) (by kernel_rfl) (by kernel_rfl) (by kernel_rfl) (fun _ _ _ h => h) (Or.inl ⟨by rfl, ?_⟩) (by assumption) ?_
  rotate_left
  · (intro w hSw; (try dsimp only at hSw); obtain ⟨kc0, kc1, kc2, klg, kd0, kd1, kld, ke0, ke1, ke2, kle⟩ := hSw.cells; (go_simp <;> with_reducible rfl))
  try simp only [Act.put, List.setIfInBounds_toArray, List.set_cons_zero, List.set_cons_succ]
  refine AnyZ.one (i := 10) (by kernel_rfl) rfl (fun K hK => ?_)
  go_simp
  refine hK.out _ _ (.inl rfl) ?_
  clear hK K
  try simp only [Act.put, List.setIfInBounds_toArray, List.set_cons_zero, List.set_cons_succ]
  refine AnyZ.done (by kernel_rfl) ?_ _
  refine NoPanic.normal ?_
  have P8 : Hid (GaX w G gg mm ue uk E KL (upd L ki true) (w3.setCell ⟨gg, 0, none⟩ (.slice eA E.length eC)).drew) := by rw [← HUE.out]; exact P4.out.same
  have S8' : GaS gg q4 q5 (.slice eA E.length eC) uk mm kl ki lv a 0 K0.length (w3.setCell ⟨gg, 0, none⟩ (.slice eA E.length eC)).drew := S4.set0 (.slice eA E.length eC) HGQ.out.1 HGQ.out.2
  obtain ⟨w8, hw8⟩ : ∃ w8, (w3.setCell ⟨gg, 0, none⟩ (.slice eA E.length eC)).drew = w8 := ⟨_, rfl⟩
  rw [hw8] at P8 S8' ⊢
  obtain ⟨-, -, -, -, -, -, -, e0, -, -, el⟩ := S8'.cells
  clear S2 S3 S4 S8' c7 l7 f7 hw8 up3 m3x g3
  go_wp2
  go_end0
  exact ⟨rfl, _, _, P8.out⟩
end Go.Proofs.YtikgplhcadomcaaGreat
