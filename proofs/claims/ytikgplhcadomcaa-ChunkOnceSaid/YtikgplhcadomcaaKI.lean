/- Texts on a device: written and read again; plain laws, no program. Format, a save on any device, what is loaded: plain laws, no program. How many pages are free behind puts and a commit: plain laws, no program. What a crash within a transaction leaves: plain laws, no program. What is opened behind a crash within a transaction: plain laws, no program. law07.awake in plain words, evaluated. A pager: how it lies in memory, beside its device and its free pages. -/
import Derived.Test.YtikgplhcadomcaaKH
namespace Go.Proofs.Ytikgplhcadomcaa
open Go.RowKit
set_option linter.unusedVariables false
set_option linter.unusedSimpArgs false

theorem needP_lo {n : Int} (h : needP n ≠ 0) : 0 ≤ n ∧ n ≤ 131072 ∧ 1 ≤ needP n ∧ n ≤ needP n * 124 ∧ needP n ≤ 1058 := by
  unfold needP at h ⊢
  split at h
  · exact absurd rfl h
  · rename_i q
    rw [if_neg q]
    omega
theorem needP_ok {n : Int} (h0 : 0 ≤ n) (h1 : n ≤ 131072) : needP n = max 1 ((n + 123) / 124) := by
  unfold needP
  rw [if_neg (by omega)]
theorem plen (b : List Int) : (pageL b).length = 128 := by unfold pageL; rw [List.length_append]; simp [sumL, padL]; omega
theorem pad_len (b : List Int) : (padL b).length = 124 := by unfold padL; simp; omega
theorem pad_pad (b : List Int) : padL (padL b) = padL b := by
  have h := pad_len b
  generalize padL b = c at *
  unfold padL
  rw [List.take_of_length_le (by omega), show 124 - c.length = 0 from by omega]
  simp
theorem page_pad (b : List Int) : pageL (padL b) = pageL b := by unfold pageL; rw [pad_pad]
theorem page_drop (b : List Int) : (pageL b).drop 4 = padL b := by
  unfold pageL
  rw [List.drop_left' (by simp [sumL])]

/-! ### Sectors one behind the other -/
/-- Sector p is read as s. -/
def SecAt (D : Dv) (p : Int) (s : List Int) : Prop := D.readE p = 0 ∧ D.readB p = s
theorem rdRun_cat {D : Dv} : ∀ (ss : List (List Int)) (p : Int), (∀ (j : Nat) s, ss[j]? = some s → SecAt D (p + j) s) → rdRun D p ss.length = (ss.flatten, 0)
  | [], p, h => rfl
  | s :: ss, p, h => by
    have h0 := h 0 s rfl
    simp only [Int.natCast_zero, Int.add_zero] at h0
    have ih := rdRun_cat ss (p + 1) (fun j x hx => by have := h (j + 1) x (by simpa using hx); rwa [show p + ((j + 1 : Nat) : Int) = p + 1 + j from by omega] at this)
    show rdRun D p (ss.length + 1) = _
    unfold rdRun
    rw [if_neg (by rw [h0.1]; simp), ih, h0.2]
    simp [consR]
theorem cut32_flat {p : List Int} (h : p.length = 128) : (cut32 p).flatten = p := by
  unfold cut32
  simp only [show List.range 4 = [0, 1, 2, 3] from rfl, List.map_cons, List.map_nil, List.flatten_cons, List.flatten_nil, List.append_nil, Nat.zero_mul, List.drop_zero]
  have h1 : p.take 32 ++ (p.drop 32).take 32 = p.take 64 := by rw [← List.take_add]
  have h2 : p.take 64 ++ (p.drop 64).take 32 = p.take 96 := by rw [← List.take_add]
  have h3 : p.take 96 ++ (p.drop 96).take 32 = p.take 128 := by rw [← List.take_add]
  have h4 : p.take 128 = p := List.take_of_length_le (by omega)
  show p.take 32 ++ ((p.drop 32).take 32 ++ ((p.drop 64).take 32 ++ (p.drop 96).take 32)) = p
  rw [← List.append_assoc, ← List.append_assoc, h1, h2, h3, h4]
/-- The page at pg has the text piece x. -/
def PgHas (D : Dv) (pg : Int) (x : List Int) : Prop := ∀ (j : Nat) s, (cut32 (pageL x))[j]? = some s → SecAt D (pg * 4 + j) s
theorem readPg_has {D : Dv} {pg : Int} {x : List Int} (h : PgHas D pg x) : readPg D pg = (padL x, 0) := by
  have e := rdRun_cat (cut32 (pageL x)) (pg * 4) h
  rw [cut32_flat (plen x), show (cut32 (pageL x)).length = 4 from by simp [cut32]] at e
  unfold readPg
  rw [e]
  simp only [ne_eq, not_true_eq_false, if_false, page_drop, page_pad, if_true]
/-- The text b stands at page 'start'. -/
def Text (D : Dv) (start : Int) (b : List Int) : Prop := ∀ i : Nat, i < (needP b.length).toNat → PgHas D (start + i) (pieceL b i)
theorem rdPages_has {D : Dv} (b : List Int) : ∀ (m : Nat) (i : Nat) (pg : Int), (∀ j : Nat, j < m → PgHas D (pg + j) (pieceL b (i + j))) → rdPages D pg m = ((List.range' i m).flatMap (fun j => padL (pieceL b j)), 0)
  | 0, i, pg, h => rfl
  | m + 1, i, pg, h => by
    have h0 := readPg_has (h 0 (by omega))
    simp only [Int.natCast_zero, Int.add_zero, Nat.add_zero] at h0
    have ih := rdPages_has b m (i + 1) (pg + 1) (fun j hj => by have := h (j + 1) (by omega); rwa [show pg + ((j + 1 : Nat) : Int) = pg + 1 + j from by omega, show i + (j + 1) = i + 1 + j from by omega] at this)
    unfold rdPages
    rw [h0, ih]
    simp [consR, List.range'_succ]
theorem pads_take {b : List Int} : ∀ (m i : Nat), b.length ≤ (i + m) * 124 → ((List.range' i m).flatMap (fun j => padL (pieceL b j))).take (b.length - i * 124) = b.drop (i * 124)
  | 0, i, h => by
    simp
    omega
  | m + 1, i, h => by
    have ih := pads_take (b := b) m (i + 1) (by rw [show i + 1 + m = i + (m + 1) from by omega]; exact h)
    rw [List.range'_succ, List.flatMap_cons]
    by_cases hb : b.length ≤ i * 124
    · rw [show b.length - i * 124 = 0 from by omega, List.take_zero, List.drop_of_length_le hb]
    · by_cases hl : b.length < (i + 1) * 124
      · have hp : padL (pieceL b i) = b.drop (i * 124) ++ List.replicate (124 - (b.length - i * 124)) 0 := by
          unfold padL pieceL
          have e : (b.drop (i * 124)).take 124 = b.drop (i * 124) := List.take_of_length_le (by simp; omega)
          rw [e, e, List.length_drop]
        rw [hp, List.append_assoc, List.take_left' (by simp)]
      · have hp : padL (pieceL b i) = (b.drop (i * 124)).take 124 := by
          unfold padL pieceL
          have e : ((b.drop (i * 124)).take 124).length = 124 := by simp; omega
          rw [List.take_of_length_le (by omega), e]
          simp
        have hpl : (padL (pieceL b i)).length = 124 := pad_len _
        rw [List.take_append, hpl, List.take_of_length_le (by omega), show b.length - i * 124 - 124 = b.length - (i + 1) * 124 from by omega, ih, hp]
        have := List.take_append_drop 124 (b.drop (i * 124))
        rw [List.drop_drop, show i * 124 + 124 = (i + 1) * 124 from by omega] at this
        exact this
theorem readT_has {D : Dv} {start : Int} {b : List Int} (hb : needP b.length ≠ 0) (h : Text D start b) : readT D start b.length = (b, 0) := by
  have h2 := needP_lo hb
  have e := rdPages_has b (needP b.length).toNat 0 start (fun j hj => by rw [Nat.zero_add]; exact h j hj)
  have p := pads_take (b := b) (needP b.length).toNat 0 (by omega)
  unfold readT
  rw [if_neg hb, e]
  simp only [ne_eq, not_true_eq_false, if_false, Int.toNat_natCast]
  simpa using p

/-! ### What is written -/
abbrev isSec (s : List Int) : Prop := s.length = 32 ∧ ∀ x ∈ s, 0 ≤ x ∧ x ≤ 255
/-- D' is D with more in its cache. -/
structure Grew (D D' : Dv) (ws : List Wr) : Prop where
  kept : D'.kept = D.kept
  n : D'.n = D.n
  bad : D'.bad = D.bad
  cache : D'.cache = D.cache ++ ws
theorem Grew.refl (D : Dv) : Grew D D [] := ⟨rfl, rfl, rfl, by simp⟩
theorem Grew.trans {A B C : Dv} {u v : List Wr} (h : Grew A B u) (k : Grew B C v) : Grew A C (u ++ v) :=
  ⟨k.kept.trans h.kept, k.n.trans h.n, k.bad.trans h.bad, by rw [k.cache, h.cache, List.append_assoc]⟩
/-- The writes of sectors from p on. -/
def wrs (p : Int) : List (List Int) → List Wr
  | [] => []
  | s :: l => if h : isSec s then ⟨p, ⟨s, h⟩⟩ :: wrs (p + 1) l else wrs (p + 1) l
theorem act_same (D : Dv) : D.act.2.kept = D.kept ∧ D.act.2.n = D.n ∧ D.act.2.bad = D.bad ∧ D.act.2.cache = D.cache := by
  unfold Dv.act
  split
  · exact ⟨rfl, rfl, rfl, rfl⟩
  · split
    · exact ⟨rfl, rfl, rfl, rfl⟩
    · split <;> exact ⟨rfl, rfl, rfl, rfl⟩
theorem act_dead (D : Dv) (h : ¬ D.act.1 = true) : D.act.2.dead = true := by
  unfold Dv.act at h ⊢
  split
  · assumption
  · rename_i h1
    rw [if_neg h1] at h
    split
    · rename_i h2
      rw [if_pos h2] at h
      exact absurd rfl h
    · rename_i h2
      rw [if_neg h2] at h
      split
      · rfl
      · rename_i h3
        rw [if_neg h3] at h
        exact absurd rfl h
theorem write_grew {D : Dv} {p : Int} {s : List Int} (h0 : 0 ≤ p) (h1 : p < D.n) (hs : isSec s) : ((D.write p s).1 = 0 ∧ Grew D (D.write p s).2 [⟨p, ⟨s, hs⟩⟩]) ∨ ((D.write p s).1 = 40 ∧ Grew D (D.write p s).2 [] ∧ (D.write p s).2.dead = true) := by
  have hh : D.has p = true := by unfold Dv.has; simp [h0, h1]
  obtain ⟨a1, a2, a3, a4⟩ := act_same D
  unfold Dv.write
  by_cases hd : D.dead = true
  · rw [if_pos hd]
    exact .inr ⟨rfl, Grew.refl D, hd⟩
  · rw [if_neg hd, dif_pos ⟨hh, hs⟩]
    by_cases ha : D.act.1 = true
    · rw [if_pos ha]
      exact .inl ⟨rfl, a1, a2, a3, by rw [← a4]⟩
    · rw [if_neg ha]
      exact .inr ⟨rfl, ⟨a1, a2, a3, by rw [a4]; simp⟩, act_dead D ha⟩
theorem wrRun_grew : ∀ (l : List (List Int)) (D : Dv) (p : Int), 0 ≤ p → p + l.length ≤ D.n → (∀ s ∈ l, isSec s) →
    ((wrRun D p l).1 = 0 ∧ Grew D (wrRun D p l).2 (wrs p l)) ∨ ((wrRun D p l).1 = 40 ∧ (∃ u v, wrs p l = u ++ v ∧ Grew D (wrRun D p l).2 u) ∧ (wrRun D p l).2.dead = true)
  | [], D, p, _, _, _ => .inl ⟨rfl, Grew.refl D⟩
  | s :: l, D, p, h0, h1, hs => by
    simp only [List.length_cons] at h1
    have hs0 := hs s List.mem_cons_self
    have hw : wrs p (s :: l) = ⟨p, ⟨s, hs0⟩⟩ :: wrs (p + 1) l := by simp only [wrs]; rw [dif_pos hs0]
    have hu : wrRun D p (s :: l) = if (D.write p s).1 ≠ 0 then D.write p s else wrRun (D.write p s).2 (p + 1) l := rfl
    rw [hw, hu]
    rcases write_grew (D := D) h0 (by omega) hs0 with ⟨e, g⟩ | ⟨e, g, d⟩
    · rw [if_neg (by rw [e]; simp)]
      rcases wrRun_grew l (D.write p s).2 (p + 1) (by omega) (by rw [g.n]; omega) (fun x hx => hs x (List.mem_cons_of_mem _ hx)) with ⟨e2, g2⟩ | ⟨e2, ⟨u, v, e3, g2⟩, d2⟩
      · exact .inl ⟨e2, g.trans g2⟩
      · exact .inr ⟨e2, ⟨⟨p, ⟨s, hs0⟩⟩ :: u, v, by rw [e3]; rfl, g.trans g2⟩, d2⟩
    · rw [if_pos (by rw [e]; simp)]
      exact .inr ⟨e, ⟨[], _, rfl, g⟩, d⟩
theorem calm_wrRun : ∀ (l : List (List Int)) (D : Dv) (p : Int), Calm D → 0 ≤ p → p + l.length ≤ D.n → (∀ s ∈ l, isSec s) → (wrRun D p l).1 = 0 ∧ Grew D (wrRun D p l).2 (wrs p l) ∧ Calm (wrRun D p l).2
  | [], D, p, hc, _, _, _ => ⟨rfl, Grew.refl D, hc⟩
  | s :: l, D, p, hc, h0, h1, hs => by
    simp only [List.length_cons] at h1
    have hs0 := hs s List.mem_cons_self
    have hw : wrs p (s :: l) = ⟨p, ⟨s, hs0⟩⟩ :: wrs (p + 1) l := by simp only [wrs]; rw [dif_pos hs0]
    have hu : wrRun D p (s :: l) = if (D.write p s).1 ≠ 0 then D.write p s else wrRun (D.write p s).2 (p + 1) l := rfl
    have hcw := (calm_write hc p s).1
    rw [hw, hu]
    rcases write_grew (D := D) h0 (by omega) hs0 with ⟨e, g⟩ | ⟨e, g, d⟩
    · rw [if_neg (by rw [e]; simp)]
      obtain ⟨e2, g2, c2⟩ := calm_wrRun l (D.write p s).2 (p + 1) hcw (by omega) (by rw [g.n]; omega) (fun x hx => hs x (List.mem_cons_of_mem _ hx))
      exact ⟨e2, g.trans g2, c2⟩
    · rw [hcw.1] at d
      cases d
theorem wrs_mem : ∀ (l : List (List Int)) (p : Int), ∀ x ∈ wrs p l, p ≤ x.pos ∧ x.pos < p + l.length
  | [], p, x, hx => by cases hx
  | s :: l, p, x, hx => by
    have ih := wrs_mem l (p + 1)
    simp only [wrs] at hx
    simp only [List.length_cons]
    split at hx
    · rcases List.mem_cons.1 hx with rfl | hx
      · dsimp only; omega
      · have := ih x hx; omega
    · have := ih x hx; omega
theorem lastAt_none {q : Int} : ∀ {l : List Wr}, (∀ x ∈ l, x.pos ≠ q) → lastAt q l = none
  | [], _ => rfl
  | x :: l, h => by
    simp only [lastAt]
    rw [lastAt_none (fun y hy => h y (List.mem_cons_of_mem _ hy)), if_neg (h x List.mem_cons_self)]
    rfl
theorem lastAt_app (q : Int) : ∀ (l m : List Wr), lastAt q (l ++ m) = (lastAt q m).orElse fun _ => lastAt q l
  | [], m => by simp [lastAt]
  | x :: l, m => by
    simp only [List.cons_append, lastAt, lastAt_app q l m]
    cases lastAt q m <;> rfl
theorem lastAt_wrs : ∀ (l : List (List Int)) (p : Int) (j : Nat) (s : List Int), (∀ s ∈ l, isSec s) → (h : l[j]? = some s) → ∃ hs : isSec s, lastAt (p + j) (wrs p l) = some ⟨s, hs⟩
  | [], p, j, s, _, h => by simp at h
  | x :: l, p, 0, s, hs, h => by
    simp only [List.getElem?_cons_zero, Option.some.injEq] at h
    subst h
    have h0 := hs x List.mem_cons_self
    refine ⟨h0, ?_⟩
    simp only [wrs]
    rw [dif_pos h0]
    simp only [lastAt]
    rw [lastAt_none (fun y hy => by have := wrs_mem l (p + 1) y hy; simp only [Int.natCast_zero]; omega)]
    simp
  | x :: l, p, j + 1, s, hs, h => by
    obtain ⟨h1, h2⟩ := lastAt_wrs l (p + 1) j s (fun y hy => hs y (List.mem_cons_of_mem _ hy)) (by simpa using h)
    refine ⟨h1, ?_⟩
    rw [show p + 1 + (j : Int) = p + ((j + 1 : Nat) : Int) from by omega] at h2
    simp only [wrs]
    split
    · simp only [lastAt]
      rw [h2]
      rfl
    · exact h2
theorem calm_sec {D : Dv} (h : Calm D) {p : Int} (h0 : 0 ≤ p) (h1 : p < D.n) : SecAt D p (D.now p).1 := by
  have hE : D.readE p = 0 := by
    unfold Dv.readE Dv.badAt Dv.has
    rw [h.1, h.2.2]
    simp [h0, h1, look, at?]
  exact ⟨hE, readB_now hE⟩
/-! ### The sectors of a text -/
theorem secsFrom_len (b : List Int) : ∀ (m i : Nat), ((List.range' i m).flatMap fun i => cut32 (pageL (pieceL b i))).length = m * 4
  | 0, i => rfl
  | m + 1, i => by
    rw [List.range'_succ, List.flatMap_cons, List.length_append, secsFrom_len b m (i + 1), show (cut32 (pageL (pieceL b i))).length = 4 from by simp [cut32]]
    omega
theorem secsFrom_get (b : List Int) : ∀ (m i k j : Nat), k < m → j < 4 → ((List.range' i m).flatMap fun i => cut32 (pageL (pieceL b i)))[k * 4 + j]? = (cut32 (pageL (pieceL b (i + k))))[j]?
  | 0, i, k, j, hk, hj => by omega
  | m + 1, i, k, j, hk, hj => by
    have hl : (cut32 (pageL (pieceL b i))).length = 4 := by simp [cut32]
    rw [List.range'_succ, List.flatMap_cons]
    cases k with
    | zero => rw [List.getElem?_append_left (by omega)]; simp
    | succ k =>
      rw [List.getElem?_append_right (by omega), hl, show (k + 1) * 4 + j - 4 = k * 4 + j from by omega, secsFrom_get b m (i + 1) k j (by omega) hj, show i + 1 + k = i + (k + 1) from by omega]
theorem textSecs_len (b : List Int) : (textSecs b).length = (needP b.length).toNat * 4 := by
  have := secsFrom_len b (needP b.length).toNat 0
  rwa [← List.range_eq_range'] at this
theorem textSecs_get (b : List Int) (k j : Nat) (hk : k < (needP b.length).toNat) (hj : j < 4) : (textSecs b)[k * 4 + j]? = (cut32 (pageL (pieceL b k)))[j]? := by
  have := secsFrom_get b (needP b.length).toNat 0 k j hk hj
  rwa [← List.range_eq_range', Nat.zero_add] at this
theorem pad_byte {b : List Int} (h : byteL b) : byteL (padL b) := by
  unfold padL
  intro x hx
  rcases List.mem_append.1 hx with hx | hx
  · exact h x (List.mem_of_mem_take hx)
  · rw [List.eq_of_mem_replicate hx]; omega
theorem page_byte {b : List Int} (h : byteL b) : byteL (pageL b) := by
  intro x hx
  unfold pageL at hx
  rcases List.mem_append.1 hx with hx | hx
  · unfold sumL at hx
    obtain ⟨i, _, rfl⟩ := List.mem_map.1 hx
    omega
  · exact pad_byte h x hx
theorem textSecs_sec {b : List Int} (h : byteL b) : ∀ s ∈ textSecs b, isSec s := by
  intro s hs
  unfold textSecs at hs
  obtain ⟨i, hi, hs⟩ := List.mem_flatMap.1 hs
  unfold cut32 at hs
  obtain ⟨k, hk, rfl⟩ := List.mem_map.1 hs
  have hk4 := List.mem_range.1 hk
  refine ⟨?_, fun x hx => ?_⟩
  · rw [List.length_take, List.length_drop, plen]; omega
  · exact page_byte (fun y hy => h y (List.mem_of_mem_drop (List.mem_of_mem_take hy))) x (List.mem_of_mem_drop (List.mem_of_mem_take hx))
theorem text_of {D : Dv} {start : Int} {b : List Int} (h : ∀ (j : Nat) s, (textSecs b)[j]? = some s → SecAt D (start * 4 + j) s) : Text D start b := by
  intro i hi j s hs
  have hj : j < 4 := by have := (List.getElem?_eq_some_iff.1 hs).1; simpa [cut32] using this
  have := h (i * 4 + j) s (by rw [textSecs_get b i j hi hj]; exact hs)
  rwa [show start * 4 + ((i * 4 + j : Nat) : Int) = (start + i) * 4 + j from by omega] at this
/-- A calm device that has the text's sectors behind all that it had. -/
theorem text_calm {D : Dv} {start : Int} {b : List Int} (hc : Calm D) (hb : byteL b) (h0 : 0 ≤ start) (h1 : (start + needP b.length) * 4 ≤ D.n) (h : ∀ (j : Nat) s, (textSecs b)[j]? = some s → (D.now (start * 4 + j)).1 = s) : Text D start b := by
  refine text_of fun j s hs => ?_
  have hj := (List.getElem?_eq_some_iff.1 hs).1
  rw [textSecs_len] at hj
  have := calm_sec hc (p := start * 4 + j) (by omega) (by omega)
  rwa [h j s hs] at this
theorem text_keep {D D' : Dv} {start : Int} {b : List Int} (hc : Calm D') (h0 : 0 ≤ start) (h1 : (start + needP b.length) * 4 ≤ D'.n) (h : Text D start b) (hD : ∀ p, start * 4 ≤ p → p < (start + needP b.length) * 4 → (D'.now p).1 = (D.now p).1) : Text D' start b := by
  intro i hi j s hs
  have hj : j < 4 := by have := (List.getElem?_eq_some_iff.1 hs).1; simpa [cut32] using this
  obtain ⟨e1, e2⟩ := h i hi j s hs
  have hr := readB_now e1
  have := calm_sec hc (p := (start + i) * 4 + j) (by omega) (by omega)
  rwa [hD _ (by omega) (by omega), ← hr, e2] at this
theorem calm_writeT {D : Dv} {start : Int} {b : List Int} (hc : Calm D) (hb : byteL b) (hn : needP b.length ≠ 0) (h0 : 0 ≤ start) (h1 : (start + needP b.length) * 4 ≤ D.n) :
    (writeT D start b).1 = 0 ∧ Grew D (writeT D start b).2 (wrs (start * 4) (textSecs b)) ∧ Calm (writeT D start b).2 := by
  unfold writeT
  rw [if_neg hn]
  exact calm_wrRun _ D _ hc (by omega) (by rw [textSecs_len]; have := needP_lo hn; omega) (textSecs_sec hb)
theorem writeT_grew {D : Dv} {start : Int} {b : List Int} (hb : byteL b) (hn : needP b.length ≠ 0) (h0 : 0 ≤ start) (h1 : (start + needP b.length) * 4 ≤ D.n) :
    ((writeT D start b).1 = 0 ∧ Grew D (writeT D start b).2 (wrs (start * 4) (textSecs b))) ∨ ((writeT D start b).1 = 40 ∧ (∃ u v, wrs (start * 4) (textSecs b) = u ++ v ∧ Grew D (writeT D start b).2 u) ∧ (writeT D start b).2.dead = true) := by
  unfold writeT
  rw [if_neg hn]
  exact wrRun_grew _ D _ (by omega) (by rw [textSecs_len]; have := needP_lo hn; omega) (textSecs_sec hb)
theorem now_grew {D D' : Dv} {ws : List Wr} (g : Grew D D' ws) (p : Int) : D'.now p = ((lastAt p ws).orElse fun _ => lastAt p D.cache).getD (D.base p) := by
  unfold Dv.now Dv.base
  rw [g.cache, lastAt_app, g.kept]
theorem now_same {D D' : Dv} {ws : List Wr} (g : Grew D D' ws) {p : Int} (h : ∀ x ∈ ws, x.pos ≠ p) : D'.now p = D.now p := by
  rw [now_grew g, lastAt_none h]
  rfl
theorem text_written {D D' : Dv} {start : Int} {b : List Int} (g : Grew D D' (wrs (start * 4) (textSecs b))) (hc : Calm D') (hb : byteL b) (h0 : 0 ≤ start) (h1 : (start + needP b.length) * 4 ≤ D.n) : Text D' start b := by
  refine text_calm hc hb h0 (by rw [g.n]; exact h1) fun j s hs => ?_
  obtain ⟨h2, h3⟩ := lastAt_wrs _ (start * 4) j s (textSecs_sec hb) hs
  rw [now_grew g, h3]
  rfl
/-! ### A flush -/
theorem keepL_full {K : List (Int × Sec)} (h : Nd K) (x : Wr) (j : Int) : kv (keepL K x 32) j = if j = x.pos then x.b else kv K j := by
  rw [keepL_kv h, overS_full]
theorem foldK_nd : ∀ (l : List Wr) (K : List (Int × Sec)), Nd K → Nd (l.foldl (fun K x => keepL K x 32) K)
  | [], _, h => h
  | x :: l, K, h => foldK_nd l _ (keepL_nd h _ _)
theorem foldK_kv : ∀ (l : List Wr) (K : List (Int × Sec)), Nd K → ∀ j, kv (l.foldl (fun K x => keepL K x 32) K) j = (lastAt j l).getD (kv K j)
  | [], _, h, j => rfl
  | x :: l, K, h, j => by
    rw [List.foldl_cons, foldK_kv l _ (keepL_nd h _ _), keepL_full h]
    simp only [lastAt]
    cases lastAt j l with
    | some y => rfl
    | none =>
      by_cases hj : x.pos = j
      · rw [if_pos hj.symm, if_pos hj]; rfl
      · rw [if_neg (fun e => hj e.symm), if_neg hj]; rfl
/-- Behind a flush all sectors are as they were read. -/
theorem flush_now {D : Dv} (hc : Calm D) (hn : Nd D.kept) : D.flush.1 = 0 ∧ Calm D.flush.2 ∧ D.flush.2.cache = [] ∧ D.flush.2.n = D.n ∧ Nd D.flush.2.kept ∧ ∀ p, kv D.flush.2.kept p = D.now p := by
  unfold Dv.flush
  rw [calm_act hc]
  exact ⟨rfl, hc, rfl, rfl, foldK_nd _ _ hn, fun p => foldK_kv _ _ hn p⟩
theorem now_kept {D : Dv} (h : D.cache = []) (p : Int) : D.now p = kv D.kept p := by
  unfold Dv.now
  rw [h]
  rfl
end Go.Proofs.Ytikgplhcadomcaa

namespace Go.Proofs.Ytikgplhcadomcaa
open Go.RowKit
set_option linter.unusedVariables false
set_option linter.unusedSimpArgs false

theorem load_calm {D : Dv} (hc : Calm D) (h0 : D.cache = []) (hn : 2 ≤ D.n) : loadR D = loadK D.kept := by
  obtain ⟨a1, a2⟩ := calm_read hc h0 0 (by omega) (by omega)
  obtain ⟨b1, b2⟩ := calm_read hc h0 1 (by omega) (by omega)
  have hout : outAt D 2 = ld (kv D.kept 0).1 (kv D.kept 1).1 := by
    show step (step zeroSup (D.readB 0)) (D.readB 1) = _
    rw [a2, b2]
    rfl
  unfold loadR loadK
  rw [if_neg (fun q => q a1), if_neg (fun q => q b1), hout]
theorem loadK_same {K K' : List (Int × Sec)} (h0 : kv K' 0 = kv K 0) (h1 : kv K' 1 = kv K 1) : loadK K' = loadK K := by
  unfold loadK
  rw [h0, h1]
theorem write_calm {D : Dv} (hc : Calm D) {p : Int} {s : List Int} (h0 : 0 ≤ p) (h1 : p < D.n) (hs : isSec s) : (D.write p s).1 = 0 ∧ Grew D (D.write p s).2 [⟨p, ⟨s, hs⟩⟩] ∧ Calm (D.write p s).2 := by
  have hc2 := (calm_write hc p s).1
  rcases write_grew (D := D) h0 h1 hs with ⟨e, g⟩ | ⟨_, _, d⟩
  · exact ⟨e, g, hc2⟩
  · rw [hc2.1] at d
    cases d
theorem calm_fl {D : Dv} (hc : Calm D) : D.flush.2.kept = D.cache.foldl (fun K x => keepL K x 32) D.kept := by
  unfold Dv.flush
  rw [calm_act hc]
  rfl
theorem sup_range (s : Sup) : 0 ≤ s.epoch % 2 ∧ s.epoch % 2 < 2 := by omega
theorem flush_cases (D : Dv) : (D.flush.1 = 0 ∧ D.flush.2.cache = [] ∧ D.flush.2.kept = D.cache.foldl (fun K x => keepL K x 32) D.kept ∧ D.flush.2.n = D.n ∧ D.flush.2.bad = D.bad) ∨ (D.flush.1 ≠ 0 ∧ D.flush.2.cache = D.cache ∧ D.flush.2.kept = D.kept ∧ D.flush.2.n = D.n ∧ D.flush.2.bad = D.bad) := by
  obtain ⟨a1, a2, a3, a4⟩ := act_same D
  unfold Dv.flush
  split
  · exact .inl ⟨rfl, rfl, by rw [← a1, ← a4], a2, a3⟩
  · exact .inr ⟨by simp, a4, a1, a2, a3⟩
/-- A save, on whatever device. -/
theorem save_cases (D : Dv) (hn : 2 ≤ D.n) (s : Sup) : (saveR D s).2.n = D.n ∧ (saveR D s).2.bad = D.bad ∧
    (((saveR D s).1 ≠ 0 ∧ (saveR D s).2.kept = D.kept ∧ (saveR D s).2.cache = D.cache) ∨
     ((saveR D s).1 ≠ 0 ∧ (saveR D s).2.kept = D.cache.foldl (fun K x => keepL K x 32) D.kept ∧ ((saveR D s).2.cache = [] ∨ (saveR D s).2.cache = [wrOf s])) ∨
     ((saveR D s).1 = 0 ∧ (saveR D s).2.kept = keepL (D.cache.foldl (fun K x => keepL K x 32) D.kept) (wrOf s) 32 ∧ (saveR D s).2.cache = [])) := by
  have hs : isSec (put s) := ⟨put_len s, put_byte s⟩
  have hr := sup_range s
  unfold saveR
  rcases flush_cases D with ⟨e1, e2, e3, e4, e5⟩ | ⟨e1, e2, e3, e4, e5⟩
  · rw [if_neg (by rw [e1]; simp)]
    rcases write_grew (D := D.flush.2) (p := s.epoch % 2) hr.1 (by rw [e4]; omega) hs with ⟨w1, g⟩ | ⟨w1, g, d⟩
    · rw [if_neg (by rw [w1]; simp)]
      have gc : (D.flush.2.write (s.epoch % 2) (put s)).2.cache = [wrOf s] := by rw [g.cache, e2]; rfl
      rcases flush_cases (D.flush.2.write (s.epoch % 2) (put s)).2 with ⟨f1, f2, f3, f4, f5⟩ | ⟨f1, f2, f3, f4, f5⟩
      · refine ⟨by rw [f4, g.n, e4], by rw [f5, g.bad, e5], .inr (.inr ⟨f1, ?_, f2⟩)⟩
        rw [f3, gc, g.kept, e3]
        rfl
      · exact ⟨by rw [f4, g.n, e4], by rw [f5, g.bad, e5], .inr (.inl ⟨f1, by rw [f3, g.kept, e3], .inr (by rw [f2, gc])⟩)⟩
    · rw [if_pos (by rw [w1]; simp)]
      exact ⟨by rw [g.n, e4], by rw [g.bad, e5], .inr (.inl ⟨by rw [w1]; simp, by rw [g.kept, e3], .inl (by rw [g.cache, e2]; rfl)⟩)⟩
  · rw [if_pos e1]
    exact ⟨e4, e5, .inl ⟨e1, e3, e2⟩⟩
theorem calm_saveR {D : Dv} (hc : Calm D) (hn : 2 ≤ D.n) (s : Sup) : (saveR D s).1 = 0 ∧ Calm (saveR D s).2 ∧ (saveR D s).2.cache = [] ∧ (saveR D s).2.n = D.n ∧ (saveR D s).2.kept = keepL (D.cache.foldl (fun K x => keepL K x 32) D.kept) (wrOf s) 32 := by
  have hs : isSec (put s) := ⟨put_len s, put_byte s⟩
  have hr := sup_range s
  obtain ⟨f1, f2, f3, f4⟩ := calm_flush hc
  have fk := calm_fl hc
  unfold saveR
  rw [if_neg (by rw [f1]; simp)]
  obtain ⟨w1, g, hw⟩ := write_calm f2 (p := s.epoch % 2) hr.1 (by rw [f4]; omega) hs
  rw [if_neg (by rw [w1]; simp)]
  obtain ⟨k1, k2, k3, k4⟩ := calm_flush hw
  refine ⟨k1, k2, k3, by rw [k4, g.n, f4], ?_⟩
  rw [calm_fl hw, g.cache, f3, g.kept, fk]
  rfl

/-! ### Format -/
def sup1 : Sup := ⟨1, 0, 0, 0⟩
theorem sup1_ok : sup1.ok := by unfold Sup.ok sup1; decide
/-- A device that was formatted, and nothing else. -/
structure Formed (D : Dv) : Prop where
  calm : Calm D
  cache : D.cache = []
  nd : Nd D.kept
  k0 : kv D.kept 0 = sec0
  k1 : kv D.kept 1 = supSec sup1
theorem format_ok {D : Dv} (hc : Calm D) (h0 : D.cache = []) (hk : D.kept = []) (hn : 8 ≤ D.n) : (formatR D).1 = 0 ∧ Formed (formatR D).2 ∧ (formatR D).2.n = D.n := by
  have hs : isSec sec0.1 := sec0.2
  unfold formatR
  rw [if_neg (by omega)]
  obtain ⟨w1, g1, c1⟩ := write_calm hc (p := 0) (by omega) (by omega) hs
  rw [if_neg (by rw [w1]; simp)]
  obtain ⟨w2, g2, c2⟩ := write_calm c1 (p := 1) (by omega) (by rw [g1.n]; omega) hs
  rw [if_neg (by rw [w2]; simp)]
  obtain ⟨s1, s2, s3, s4, s5⟩ := calm_saveR c2 (by rw [g2.n, g1.n]; omega) sup1
  have hnd : Nd ((((D.write 0 sec0.1).2.write 1 sec0.1).2).cache.foldl (fun K x => keepL K x 32) (((D.write 0 sec0.1).2.write 1 sec0.1).2).kept) := foldK_nd _ _ (by rw [g2.kept, g1.kept, hk]; exact List.nodup_nil)
  refine ⟨s1, ⟨s2, s3, ?_, ?_, ?_⟩, by rw [show (⟨1, 0, 0, 0⟩ : Sup) = sup1 from rfl, s4, g2.n, g1.n]⟩
  all_goals rw [show (⟨1, 0, 0, 0⟩ : Sup) = sup1 from rfl, s5]
  · exact keepL_nd hnd _ _
  · rw [keepL_full hnd, if_neg (by show ¬ (0 : Int) = 1 % 2; decide), foldK_kv _ _ (by rw [g2.kept, g1.kept, hk]; exact List.nodup_nil), g2.cache, g1.cache, h0, g2.kept, g1.kept, hk]
    rfl
  · rw [keepL_full hnd, if_pos (by show (1 : Int) = 1 % 2; decide)]
    rfl
def xs1 : Nat → Sup := fun _ => sup1
theorem formed_saved {D : Dv} (h : Formed D) : Saved xs1 1 D.kept := ⟨h.nd, h.k1, h.k0⟩
theorem formed_load {D : Dv} (h : Formed D) : loadK D.kept = (sup1, 0) := by
  have hg : Good xs1 1 := fun j hj => by
    have : j = 0 := by omega
    subst this
    exact ⟨sup1_ok, rfl⟩
  rw [load_saved hg (formed_saved h)]
  rfl
theorem formed_open {D : Dv} (h : Formed D) (hn : 8 ≤ D.n) : openR D = (some (⟨sup1, Fr.new 1 (D.n / 4), [], [], false⟩, []), 0) := by
  unfold openR
  rw [load_calm h.calm h.cache (by omega), formed_load h]
  rfl
theorem new_calm (n : Int) : Calm (Dv.new n) ∧ (Dv.new n).cache = [] ∧ (Dv.new n).kept = [] ∧ (Dv.new n).n = (min (max n 0) 65536).toNat := ⟨⟨rfl, rfl, rfl⟩, rfl, rfl, rfl⟩
end Go.Proofs.Ytikgplhcadomcaa

namespace Go.Proofs.Ytikgplhcadomcaa
open Go.RowKit
set_option linter.unusedVariables false
set_option linter.unusedSimpArgs false

def sumPg : List Span → Int
  | [] => 0
  | x :: l => x.pages + sumPg l
theorem sumPg_app : ∀ (l m : List Span), sumPg (l ++ m) = sumPg l + sumPg m
  | [], m => by simp [sumPg]
  | x :: l, m => by simp only [List.cons_append, sumPg, sumPg_app l m]; omega
theorem sum_norm {n : Int} : ∀ {l : List Span} {lo : Int}, Norm lo n l → lo ≤ n → 0 ≤ sumPg l ∧ sumPg l ≤ n - lo
  | [], lo, _, hl => by simp [sumPg]; omega
  | x :: l, lo, ⟨h1, h2, h3, h4⟩, hl => by
    simp only [sumPg]
    by_cases hx : x.start + x.pages + 1 ≤ n
    · have := sum_norm h4 hx
      omega
    · cases l with
      | nil => simp only [sumPg]; omega
      | cons y l => obtain ⟨q1, q2, q3, q4⟩ := h4; omega
theorem cnt_from : ∀ (l : List Span) (a : Int), 0 ≤ a → (∀ x ∈ l, 0 ≤ x.pages) → a + sumPg l ≤ 1000000 → l.foldl (fun a x => wrap64 (a + x.pages)) a = a + sumPg l
  | [], a, _, _, _ => by simp [sumPg]
  | x :: l, a, ha, hp, hs => by
    have hx := hp x List.mem_cons_self
    have hl : ∀ (m : List Span), (∀ x ∈ m, 0 ≤ x.pages) → 0 ≤ sumPg m := fun m hm => by
      induction m with
      | nil => simp [sumPg]
      | cons y m ih => have := hm y List.mem_cons_self; have := ih (fun z hz => hm z (List.mem_cons_of_mem _ hz)); simp only [sumPg]; omega
    have h0 := hl l (fun z hz => hp z (List.mem_cons_of_mem _ hz))
    simp only [sumPg] at hs ⊢
    rw [List.foldl_cons, wrap64I (by omega), cnt_from l (a + x.pages) (by omega) (fun z hz => hp z (List.mem_cons_of_mem _ hz)) (by omega)]
    omega
theorem cntW_sum {D : Fr} (h : D.Ok) : cntW D.l = sumPg D.l := by
  have hp : ∀ x ∈ D.l, 0 ≤ x.pages := fun x hx => by have := h.norm.mem x hx; omega
  have hs : sumPg D.l ≤ 16384 := by
    by_cases he : D.l = []
    · rw [he]; simp [sumPg]
    · have := h.norm.len he
      have := (sum_norm h.norm (by omega)).2
      have := h.lo0
      have := h.n1
      omega
  unfold cntW
  rw [cnt_from D.l 0 (by omega) hp (by omega)]
  omega
theorem sum_rest {r s : Span} (hw : within s r = true) (hs : 1 ≤ s.pages) : sumPg (rest r s) = r.pages - s.pages := by
  simp only [within, decide_eq_true_eq] at hw
  unfold rest
  rw [sumPg_app]
  split <;> split <;> simp only [sumPg] <;> omega
theorem sum_cut {l : List Span} {i : Nat} {r s : Span} (hr : l[i]? = some r) (hw : within s r = true) (hs : 1 ≤ s.pages) : sumPg (cutL l i s) = sumPg l - s.pages := by
  have hi := (List.getElem?_eq_some_iff.1 hr)
  obtain ⟨hlt, he⟩ := hi
  have hl : l = l.take i ++ r :: l.drop (i + 1) := by
    rw [← he]
    exact (by rw [← List.drop_eq_getElem_cons hlt, List.take_append_drop])
  have hg : l.getD i default = r := by rw [List.getD_eq_getElem?_getD, hr]; rfl
  unfold cutL
  rw [hg, sumPg_app, sumPg_app, sum_rest hw hs]
  have := congrArg sumPg hl
  rw [sumPg_app] at this
  simp only [sumPg] at this
  omega
/-- What take made. -/
theorem take_made {D : Fr} (h : D.Ok) {n : Int} (hy : (D.take n).1.2 = true) : sumPg (D.take n).2.l = sumPg D.l - n ∧ (D.take n).2.Ok := by
  have hn : ¬ n < 1 := fun e => by unfold Fr.take at hy; rw [if_pos e] at hy; cases hy
  have hp : ¬ place (room ⟨0, n⟩) D.l < 0 := fun e => by unfold Fr.take at hy; rw [if_neg hn, if_pos e] at hy; cases hy
  obtain ⟨i, r, e, hr, hw, hbefore⟩ := place_some hp
  have hg : D.l.getD i default = r := by rw [List.getD_eq_getElem?_getD, hr]; rfl
  have et : D.take n = ((r.start, true), { D with l := cutL D.l i ⟨r.start, n⟩ }) := by
    unfold Fr.take
    rw [if_neg hn, if_neg hp, e]
    simp only [Int.toNat_natCast, hg]
  simp only [room, decide_eq_true_eq] at hw
  have hwr : within ⟨r.start, n⟩ r = true := by simp only [within, decide_eq_true_eq]; omega
  rw [et]
  exact ⟨sum_cut hr hwr (by show 1 ≤ n; omega), h.lo0, h.lo1, h.n0, h.n1, cut_norm (s := ⟨r.start, n⟩) (by show 1 ≤ n; omega) hwr i h.norm hr⟩
theorem need500 {b : List Int} (hl : b.length ≤ 500) : needP b.length ≠ 0 ∧ 1 ≤ needP b.length ∧ needP b.length ≤ 5 := by
  rw [needP_ok (by omega) (by omega)]
  omega

/-- Behind some puts: all that is free, and what is used, is what there is. -/
structure Cnt (n : Int) (D : Dv) (P : Pg) (u : Int) : Prop where
  calm : Calm D
  dn : (D.n : Int) = n
  lo8 : 8 ≤ n
  hi : n ≤ 400
  ok : P.fr.Ok
  lo : P.fr.lo = 1
  frn : P.fr.n = n / 4
  sum : sumPg P.fr.l + u = n / 4
  live : P.ended = false
  drop : P.drop = []
  s : P.s = sup1
/-- What laying a text does on a calm device. -/
theorem lay_calm {n : Int} {D : Dv} {P : Pg} {u : Int} (h : Cnt n D P u) {b : List Int} (hb : byteL b) (hl : b.length ≤ 500) :
    ((layR D P b).1.2 = 0 ∧ 1 ≤ (layR D P b).1.1.start ∧ (layR D P b).1.1.start + (layR D P b).1.1.pages ≤ n / 4 ∧ (layR D P b).1.1.pages = needP b.length ∧ Cnt n (layR D P b).2.1 (layR D P b).2.2 (u + (layR D P b).1.1.pages)) ∨ ((layR D P b).1.2 = 70 ∧ (layR D P b).2.1 = D ∧ (layR D P b).2.2 = P) := by
  obtain ⟨n0, n1, n2⟩ := need500 hl
  unfold layR
  simp only [if_neg n0]
  by_cases ht : (P.fr.take (needP b.length)).1.2 = true
  · left
    rw [if_neg (by rw [ht]; simp)]
    obtain ⟨m1, m2⟩ := take_made h.ok ht
    obtain ⟨t1, t2, t3, t4, t5, t6, t7⟩ := Fr.take_yes h.ok ht
    simp only [Fr.there, decide_eq_true_eq] at t2
    rw [h.lo, h.frn] at t2
    have hdn := h.dn
    have hw := calm_writeT h.calm hb n0 (start := (P.fr.take (needP b.length)).1.1) (by omega) (by rw [hdn]; omega)
    rw [if_neg (by rw [hw.1]; simp)]
    refine ⟨rfl, by dsimp only; omega, by dsimp only; omega, rfl, ⟨hw.2.2, by rw [hw.2.1.n]; exact h.dn, h.lo8, h.hi, m2, t4.trans h.lo, t5.trans h.frn, ?_, h.live, h.drop, h.s⟩⟩
    have := h.sum
    dsimp only
    omega
  · right
    have ht' : (P.fr.take (needP b.length)).1.2 = false := by simpa using ht
    rw [if_pos ht']
    exact ⟨rfl, rfl, rfl⟩
theorem put_cnt {n : Int} {D : Dv} {P : Pg} {u : Int} (h : Cnt n D P u) {b : List Int} (hb : byteL b) (hl : b.length ≤ 500) :
    ((putR D P b).1.2 = 0 ∧ 1 ≤ (putR D P b).1.1.pages ∧ (putR D P b).1.1.pages ≤ 5 ∧ Cnt n (putR D P b).2.1 (putR D P b).2.2 (u + (putR D P b).1.1.pages)) ∨ ((putR D P b).1.2 = 70 ∧ Cnt n (putR D P b).2.1 (putR D P b).2.2 u) := by
  obtain ⟨n0, n1, n2⟩ := need500 hl
  unfold putR
  rw [if_neg (by rw [h.live]; simp)]
  rcases lay_calm h hb hl with ⟨e, s1, s2, s3, c⟩ | ⟨e, e2, e3⟩
  · rw [if_pos e]
    exact .inl ⟨e, by dsimp only; omega, by dsimp only; omega, ⟨c.calm, c.dn, c.lo8, c.hi, c.ok, c.lo, c.frn, c.sum, c.live, c.drop, c.s⟩⟩
  · rw [if_neg (by rw [e]; simp)]
    exact .inr ⟨e, by rw [e2, e3]; exact h⟩
theorem commit_cnt {n : Int} {D : Dv} {P : Pg} {u : Int} (h : Cnt n D P u) {b : List Int} (hb : byteL b) (hl : b.length ≤ 500) :
    ((commitR D P b).1 = 0 ∧ (commitR D P b).2.2.fr.Ok ∧ sumPg (commitR D P b).2.2.fr.l + (u + (commitR D P b).2.2.s.pages) = n / 4 ∧ 0 ≤ (commitR D P b).2.2.s.pages ∧ (commitR D P b).2.2.s.pages ≤ 5) ∨ ((commitR D P b).1 = 70 ∧ (commitR D P b).2.2.fr.Ok ∧ sumPg (commitR D P b).2.2.fr.l + u = n / 4) := by
  obtain ⟨n0, n1, n2⟩ := need500 hl
  unfold commitR
  rw [if_neg (by rw [h.live]; simp)]
  rcases lay_calm h hb hl with ⟨e, s1, s2, s3, c⟩ | ⟨e, e2, e3⟩
  · rw [if_neg (by rw [e]; simp)]
    have hdn := c.dn
    have h8 := c.lo8
    obtain ⟨v1, v2, v3, v4, v5⟩ := calm_saveR c.calm (by omega) (nextS P (layR D P b).1.1 b)
    rw [if_neg (by rw [v1]; simp)]
    have hg : ((layR D P b).2.2.fr.give P.s.span).2 = (layR D P b).2.2.fr := by
      have : ¬ (layR D P b).2.2.fr.free P.s.span = true := by
        rw [h.s]
        unfold Fr.free Fr.there Sup.span sup1
        simp
      rw [Fr.give_no this]
    left
    rw [hg, h.drop]
    refine ⟨rfl, c.ok, ?_, ?_, ?_⟩
    · have := c.sum
      show sumPg (layR D P b).2.2.fr.l + (u + (layR D P b).1.1.pages) = _
      exact this
    · show 0 ≤ (layR D P b).1.1.pages
      omega
    · show (layR D P b).1.1.pages ≤ 5
      omega
  · rw [if_pos (by rw [e]; simp)]
    exact .inr ⟨e, by rw [e3]; exact h.ok, by rw [e3]; exact h.sum⟩
theorem cnt_start {D : Dv} (h : Formed D) (h8 : 8 ≤ D.n) (hi : D.n ≤ 400) : Cnt D.n D ⟨sup1, Fr.new 1 (D.n / 4), [], [], false⟩ 1 := by
  have h2 : (2 : Int) ≤ (D.n : Int) / 4 := by omega
  have h3 : (D.n : Int) / 4 ≤ 100 := by omega
  have e : Fr.new 1 ((D.n : Int) / 4) = ⟨1, (D.n : Int) / 4, [⟨1, (D.n : Int) / 4 - 1⟩]⟩ := by
    unfold Fr.new
    rw [show max (1 : Int) 0 = 1 from rfl, show min ((D.n : Int) / 4) 16384 = (D.n : Int) / 4 from by omega, if_pos (by omega)]
  refine ⟨h.calm, rfl, by omega, by omega, Fr.new_ok (by omega) (by omega), by rw [e], by rw [e], ?_, rfl, rfl, rfl⟩
  rw [e]
  simp [sumPg]
end Go.Proofs.Ytikgplhcadomcaa

namespace Go.Proofs.Ytikgplhcadomcaa
open Go.RowKit
set_option linter.unusedVariables false
set_option linter.unusedSimpArgs false

/-- Of a hundred pages those from k on are free. -/
def one (k : Int) : Fr := ⟨1, 100, [⟨k, 100 - k⟩]⟩
theorem one_ok {k : Int} (h0 : 1 ≤ k) (h1 : k < 100) : (one k).Ok :=
  ⟨show (0 : Int) ≤ 1 from by omega, show (1 : Int) ≤ 9223372036854775807 from by omega, show (-9223372036854775808 : Int) ≤ 100 from by omega, show (100 : Int) ≤ 16384 from by omega, show 1 ≤ k ∧ 1 ≤ 100 - k ∧ k + (100 - k) ≤ 100 ∧ True from ⟨h0, by omega, by omega, trivial⟩⟩
theorem take_one {k n : Int} (h0 : 1 ≤ n) (h1 : k + n < 100) : (one k).take n = ((k, true), one (k + n)) := by
  have hr : room ⟨0, n⟩ ⟨k, 100 - k⟩ = true := by simp only [room, decide_eq_true_eq]; omega
  have hp : place (room ⟨0, n⟩) (one k).l = 0 := by unfold one; rw [place_cons, if_pos hr]
  unfold Fr.take
  rw [if_neg (by omega), hp, if_neg (by omega)]
  have hg : ((one k).l.getD (0 : Int).toNat default) = ⟨k, 100 - k⟩ := rfl
  rw [hg]
  unfold cutL
  rw [hg]
  unfold rest one
  dsimp only
  rw [if_neg (by omega), if_pos (by omega), show k + (100 - k) - (k + n) = 100 - (k + n) from by omega]
  rfl
def endOf (k : Int) : List (List Int) → Int
  | [] => k
  | x :: l => endOf (k + needP x.length) l
def spansOf (k : Int) : List (List Int) → List Span
  | [] => []
  | x :: l => ⟨k, needP x.length⟩ :: spansOf (k + needP x.length) l
def cacheOf (k : Int) : List (List Int) → List Wr
  | [] => []
  | x :: l => wrs (k * 4) (textSecs x) ++ cacheOf (k + needP x.length) l
theorem endOf_app (x : List Int) : ∀ (l : List (List Int)) (k : Int), endOf k (l ++ [x]) = endOf k l + needP x.length
  | [], k => rfl
  | y :: l, k => endOf_app x l _
theorem spansOf_app (x : List Int) : ∀ (l : List (List Int)) (k : Int), spansOf k (l ++ [x]) = spansOf k l ++ [⟨endOf k l, needP x.length⟩]
  | [], k => rfl
  | y :: l, k => by simp only [List.cons_append, spansOf, endOf, spansOf_app x l]
theorem cacheOf_app (x : List Int) : ∀ (l : List (List Int)) (k : Int), cacheOf k (l ++ [x]) = cacheOf k l ++ wrs (endOf k l * 4) (textSecs x)
  | [], k => by simp [cacheOf, endOf]
  | y :: l, k => by simp only [List.cons_append, cacheOf, endOf, cacheOf_app x l, List.append_assoc]
def Shorts (l : List (List Int)) : Prop := ∀ x ∈ l, x.length ≤ 500 ∧ byteL x
theorem endOf_bound : ∀ (l : List (List Int)) (k : Int), Shorts l → k ≤ endOf k l ∧ endOf k l ≤ k + 5 * l.length
  | [], k, _ => by simp [endOf]
  | x :: l, k, h => by
    have h1 := need500 (h x List.mem_cons_self).1
    have h2 := endOf_bound l (k + needP x.length) (fun y hy => h y (List.mem_cons_of_mem _ hy))
    simp only [endOf, List.length_cons]
    omega
theorem cacheOf_mem : ∀ (l : List (List Int)) (k : Int), Shorts l → ∀ x ∈ cacheOf k l, k * 4 ≤ x.pos ∧ x.pos < endOf k l * 4
  | [], k, _, x, hx => by cases hx
  | y :: l, k, h, x, hx => by
    have h1 := need500 (h y List.mem_cons_self).1
    have hs : Shorts l := fun z hz => h z (List.mem_cons_of_mem _ hz)
    have h2 := endOf_bound l (k + needP y.length) hs
    simp only [cacheOf] at hx
    simp only [endOf]
    rcases List.mem_append.1 hx with hx | hx
    · have := wrs_mem _ _ x hx
      rw [textSecs_len] at this
      omega
    · have := cacheOf_mem l _ hs x hx
      omega
/-- The texts stand one behind the other. -/
theorem cacheOf_at : ∀ (l : List (List Int)) (k : Int), Shorts l → ∀ (i : Nat) (x : List Int) (sp : Span), l[i]? = some x → (spansOf k l)[i]? = some sp → sp.pages = needP x.length ∧ k ≤ sp.start ∧ sp.start + sp.pages ≤ endOf k l ∧
      ∀ (j : Nat) s, (textSecs x)[j]? = some s → ∃ hs : isSec s, lastAt (sp.start * 4 + j) (cacheOf k l) = some ⟨s, hs⟩
  | [], k, _, i, x, sp, hx, _ => by simp at hx
  | y :: l, k, h, 0, x, sp, hx, hsp => by
    simp only [List.getElem?_cons_zero, Option.some.injEq, spansOf] at hx hsp
    subst hx hsp
    have h1 := need500 (h y List.mem_cons_self).1
    have hs : Shorts l := fun z hz => h z (List.mem_cons_of_mem _ hz)
    have h2 := endOf_bound l (k + needP y.length) hs
    refine ⟨rfl, Int.le_refl _, by simp only [endOf]; omega, fun j s hj => ?_⟩
    obtain ⟨q1, q2⟩ := lastAt_wrs (textSecs y) (k * 4) j s (textSecs_sec (h y List.mem_cons_self).2) hj
    refine ⟨q1, ?_⟩
    have hlt := (List.getElem?_eq_some_iff.1 hj).1
    rw [textSecs_len] at hlt
    simp only [cacheOf]
    rw [lastAt_app, lastAt_none (fun z hz => by have := cacheOf_mem l _ hs z hz; omega), q2]
    rfl
  | y :: l, k, h, i + 1, x, sp, hx, hsp => by
    have h1 := need500 (h y List.mem_cons_self).1
    have hs : Shorts l := fun z hz => h z (List.mem_cons_of_mem _ hz)
    obtain ⟨q1, q2, q3, q4⟩ := cacheOf_at l (k + needP y.length) hs i x sp (by simpa using hx) (by simpa [spansOf] using hsp)
    refine ⟨q1, by omega, by simp only [endOf]; exact q3, fun j s hj => ?_⟩
    obtain ⟨r1, r2⟩ := q4 j s hj
    refine ⟨r1, ?_⟩
    simp only [cacheOf]
    rw [lastAt_app, r2]
    rfl
/-- Within a transaction on a hundred pages: what was put, or the device is dead. -/
structure Run (k0 : Int) (K : List (Int × Sec)) (S : Sup) (D : Dv) (P : Pg) (xs : List (List Int)) : Prop where
  kept : D.kept = K
  n : D.n = 400
  bad : D.bad = []
  s : P.s = S
  drop : P.drop = []
  some : (P.ended = false ∧ P.fr = one (endOf k0 xs) ∧ D.cache = cacheOf k0 xs) ∨ (P.ended = true ∧ ∀ x ∈ D.cache, k0 * 4 ≤ x.pos)
theorem lay_run {k0 : Int} {K : List (Int × Sec)} {S : Sup} {D : Dv} {P : Pg} {xs : List (List Int)} (h : Run k0 K S D P xs) (he : P.ended = false) (hk : 1 ≤ k0) (hxs : Shorts xs) (hend : endOf k0 xs + 5 < 100) {b : List Int} (hb : byteL b) (hl : b.length ≤ 500) :
    ((layR D P b).1 = (⟨endOf k0 xs, needP b.length⟩, 0) ∧ (layR D P b).2.2.ended = false ∧ Run k0 K S (layR D P b).2.1 (layR D P b).2.2 (xs ++ [b])) ∨ ((layR D P b).1.2 = 40 ∧ (layR D P b).2.2.ended = true ∧ Run k0 K S (layR D P b).2.1 (layR D P b).2.2 (xs ++ [b])) := by
  obtain ⟨n0, n1, n2⟩ := need500 hl
  have hb1 := endOf_bound xs k0 hxs
  obtain ⟨e1, e2, e3⟩ | ⟨e1, _⟩ := h.some
  rotate_left
  · rw [he] at e1; cases e1
  unfold layR
  simp only [if_neg n0]
  rw [e2, take_one n1 (by omega)]
  simp only [Bool.true_eq_false, if_false]
  rcases writeT_grew (D := D) hb n0 (start := endOf k0 xs) (by omega) (by rw [h.n]; omega) with ⟨w1, g⟩ | ⟨w1, ⟨u, v, w2, g⟩, d⟩
  · left
    rw [if_neg (by rw [w1]; simp)]
    refine ⟨rfl, he, g.kept.trans h.kept, g.n.trans h.n, g.bad.trans h.bad, h.s, h.drop, .inl ⟨he, ?_, ?_⟩⟩
    · show one _ = one _
      rw [endOf_app]
    · rw [g.cache, cacheOf_app, e3]
  · right
    rw [if_pos (by rw [w1]; simp)]
    refine ⟨rfl, rfl, g.kept.trans h.kept, g.n.trans h.n, g.bad.trans h.bad, h.s, h.drop, .inr ⟨rfl, fun x hx => ?_⟩⟩
    rw [g.cache, e3] at hx
    rcases List.mem_append.1 hx with hx | hx
    · exact (cacheOf_mem xs k0 hxs x hx).1
    · have := wrs_mem (textSecs b) (endOf k0 xs * 4) x (by rw [w2]; exact List.mem_append_left _ hx)
      omega
theorem put_run {k0 : Int} {K : List (Int × Sec)} {S : Sup} {D : Dv} {P : Pg} {xs : List (List Int)} (h : Run k0 K S D P xs) (hk : 1 ≤ k0) (hxs : Shorts xs) (hend : endOf k0 xs + 5 < 100) {b : List Int} (hb : byteL b) (hl : b.length ≤ 500) :
    Run k0 K S (putR D P b).2.1 (putR D P b).2.2 (xs ++ [b]) ∧ ((putR D P b).2.2.ended = false → (putR D P b).1.1 = ⟨endOf k0 xs, needP b.length⟩ ∧ P.ended = false) ∧ ((putR D P b).2.2.put = P.put ∨ ∃ s, (putR D P b).2.2.put = P.put ++ [s]) := by
  have lp : (layR D P b).2.2.put = P.put := by
    unfold layR
    dsimp only
    split
    · rfl
    · split
      · rfl
      · split <;> rfl
  unfold putR
  by_cases he : P.ended = true
  · rw [if_pos he]
    obtain ⟨e1, e2, e3⟩ | ⟨e1, e2⟩ := h.some
    · rw [he] at e1; cases e1
    · exact ⟨⟨h.kept, h.n, h.bad, h.s, h.drop, .inr ⟨he, e2⟩⟩, fun q => (by rw [he] at q; cases q), .inl rfl⟩
  · have he' : P.ended = false := by simpa using he
    rw [if_neg he]
    rcases lay_run h he' hk hxs hend hb hl with ⟨q1, q2, q3⟩ | ⟨q1, q2, q3⟩
    · rw [if_pos (by rw [q1])]
      refine ⟨⟨q3.kept, q3.n, q3.bad, q3.s, q3.drop, q3.some⟩, fun _ => ⟨by rw [q1], he'⟩, .inr ⟨_, by rw [lp]⟩⟩
    · rw [if_neg (by rw [q1]; simp)]
      exact ⟨q3, fun q => (by rw [q2] at q; cases q), .inl lp⟩
/-- What there is behind the first commit. -/
structure Base (K : List (Int × Sec)) (S : Sup) (a : List Int) : Prop where
  nd : Nd K
  k0 : kv K 0 = supSec S
  k1 : kv K 1 = supSec sup1
  s : S = ⟨2, 1, needP a.length, a.length⟩
  al : a.length ≤ 500
  ab : byteL a
  text : ∀ (j : Nat) x, (textSecs a)[j]? = some x → (kv K (1 * 4 + j)).1 = x
theorem base_ok {K : List (Int × Sec)} {S : Sup} {a : List Int} (h : Base K S a) : S.ok := by
  have := need500 h.al
  have := h.al
  rw [h.s]
  unfold Sup.ok
  dsimp only
  omega
def xs2 (S : Sup) : Nat → Sup := fun j => if j = 0 then sup1 else S
theorem base_good {K : List (Int × Sec)} {S : Sup} {a : List Int} (h : Base K S a) : Good (xs2 S) 2 := fun j hj => by
  by_cases h0 : j = 0
  · subst h0; exact ⟨sup1_ok, rfl⟩
  · have : j = 1 := by omega
    subst this
    exact ⟨base_ok h, by show S.epoch = _; rw [h.s]; rfl⟩
theorem base_saved {K : List (Int × Sec)} {S : Sup} {a : List Int} (h : Base K S a) : Saved (xs2 S) 2 K := ⟨h.nd, h.k0, h.k1⟩
theorem base_load {K : List (Int × Sec)} {S : Sup} {a : List Int} (h : Base K S a) : loadK K = (S, 0) := by
  rw [load_saved (base_good h) (base_saved h)]
  rfl
/-- A device of a hundred pages, calm, nothing in its cache. -/
structure Rest (D : Dv) : Prop where
  calm : Calm D
  cache : D.cache = []
  n : D.n = 400
theorem claim_one {st n : Int} (h0 : 1 ≤ st) (h1 : 1 ≤ n) (h2 : st + n ≤ 100) : ((Fr.new 1 100).claim ⟨st, n⟩).1 = true ∧ ((Fr.new 1 100).claim ⟨st, n⟩).2.Ok ∧ ((Fr.new 1 100).claim ⟨st, n⟩).2.lo = 1 ∧ ((Fr.new 1 100).claim ⟨st, n⟩).2.n = 100 ∧ ∀ j, inL ((Fr.new 1 100).claim ⟨st, n⟩).2.l j ↔ (1 ≤ j ∧ j < 100) ∧ ¬ (st ≤ j ∧ j < st + n) := by
  have hok : (Fr.new 1 100).Ok := Fr.new_ok (by omega) (by omega)
  have hin : ∀ j, inL (Fr.new 1 100).l j ↔ 1 ≤ j ∧ j < 100 := fun j => by
    show inL [⟨1, 99⟩] j ↔ _
    simp only [inL, or_false]
    omega
  have hh : (Fr.new 1 100).has ⟨st, n⟩ = true := by
    rw [Fr.has_iff hok]
    refine ⟨?_, fun j j1 j2 => (hin j).2 (by dsimp only at j1 j2; omega)⟩
    unfold Fr.there
    simp only [decide_eq_true_eq]
    show 1 ≤ n ∧ 1 ≤ st ∧ st < 100 ∧ n ≤ 100 - st
    omega
  obtain ⟨c1, c2, c3, c4⟩ := Fr.claim_yes hok hh
  have hok2 : ((Fr.new 1 100).claim ⟨st, n⟩).2.Ok := claim_ok hok hh
  exact ⟨c1, hok2, c2, c3, fun j => by rw [c4 j, hin j]⟩
where
  claim_ok {D : Fr} {s : Span} (h : D.Ok) (hf : D.has s = true) : (D.claim s).2.Ok := by
    have hf2 := (Fr.has_iff h).1 hf
    unfold Fr.has at hf
    simp only [Bool.and_eq_true, decide_eq_true_eq] at hf
    obtain ⟨i, r, e, hr, hw, _⟩ := place_some (p := within s) (l := D.l) (by omega)
    have hs : 1 ≤ s.pages := by have := hf2.1; unfold Fr.there at this; simp only [decide_eq_true_eq] at this; exact this.1
    have e2 : D.claim s = (true, { D with l := cutL D.l i s }) := by
      unfold Fr.claim Fr.has
      rw [if_pos (by simp only [Bool.and_eq_true, decide_eq_true_eq]; exact hf), e]
      rfl
    rw [e2]
    exact ⟨h.lo0, h.lo1, h.n0, h.n1, cut_norm hs hw i h.norm hr⟩
/-- What is opened where a super and its text stand. -/
theorem open_root {D : Dv} (h : Rest D) {S : Sup} {b : List Int} (hl : loadK D.kept = (S, 0)) (hs : S.size = b.length) (hp : S.pages = needP b.length) (h0 : 1 ≤ S.start) (hn : needP b.length ≠ 0) (h1 : S.start + needP b.length ≤ 100) (ht : Text D S.start b) :
    openR D = (some (⟨S, ((Fr.new 1 100).claim S.span).2, [], [], false⟩, b), 0) ∧ ((Fr.new 1 100).claim S.span).1 = true := by
  have hnn := needP_lo hn
  have hc := (claim_one (st := S.start) (n := S.pages) h0 (by omega) (by omega)).1
  have hr := readT_has hn ht
  have hc' : ((Fr.new 1 (((400 : Nat) : Int) / 4)).claim S.span).1 = true := hc
  refine ⟨?_, hc⟩
  unfold openR
  rw [load_calm h.calm h.cache (by rw [h.n]; omega), hl, h.n]
  simp only [ne_eq, not_true_eq_false, if_false]
  rw [if_neg (by omega), if_neg (by rw [hc', hs, hp]; simp; omega), hs, hr]
  simp only [ne_eq, not_true_eq_false, if_false]
  rfl
end Go.Proofs.Ytikgplhcadomcaa

namespace Go.Proofs.Ytikgplhcadomcaa
open Go.RowKit
set_option linter.unusedVariables false
set_option linter.unusedSimpArgs false

/-- Behind Format, Open and the first commit. -/
theorem base_commit {D : Dv} (h : Formed D) (hn : D.n = 400) {a : List Int} (ha : byteL a) (hl : a.length ≤ 500) :
    ∃ S, (commitR D ⟨sup1, one 1, [], [], false⟩ a).1 = 0 ∧ Base (commitR D ⟨sup1, one 1, [], [], false⟩ a).2.1.kept S a ∧ Rest (commitR D ⟨sup1, one 1, [], [], false⟩ a).2.1 ∧ (commitR D ⟨sup1, one 1, [], [], false⟩ a).2.2 = ⟨S, one (1 + needP a.length), [], [], false⟩ := by
  obtain ⟨n0, n1, n2⟩ := need500 hl
  refine ⟨⟨2, 1, needP a.length, a.length⟩, ?_⟩
  obtain ⟨w1, g, c⟩ := calm_writeT h.calm ha n0 (start := 1) (by omega) (by rw [hn]; omega)
  have hL : layR D ⟨sup1, one 1, [], [], false⟩ a = ((⟨1, needP a.length⟩, 0), (writeT D 1 a).2, ⟨sup1, one (1 + needP a.length), [], [], false⟩) := by
    unfold layR
    simp only [if_neg n0]
    rw [take_one n1 (by omega)]
    simp only [Bool.true_eq_false, if_false]
    rw [if_neg (by rw [w1]; simp)]
  have hg : ((one (1 + needP a.length)).give sup1.span).2 = one (1 + needP a.length) := by
    have : ¬ (one (1 + needP a.length)).free sup1.span = true := by
      unfold Fr.free Fr.there Sup.span sup1
      simp
    rw [Fr.give_no this]
  obtain ⟨v1, v2, v3, v4, v5⟩ := calm_saveR c (by rw [g.n, hn]; omega) ⟨2, 1, needP a.length, a.length⟩
  have hC : commitR D ⟨sup1, one 1, [], [], false⟩ a = (0, (saveR (writeT D 1 a).2 ⟨2, 1, needP a.length, a.length⟩).2, ⟨⟨2, 1, needP a.length, a.length⟩, one (1 + needP a.length), [], [], false⟩) := by
    unfold commitR
    rw [hL]
    simp only [Bool.false_eq_true, if_false, ne_eq, not_true_eq_false]
    have e : nextS ⟨sup1, one 1, [], [], false⟩ ⟨1, needP a.length⟩ a = ⟨2, 1, needP a.length, a.length⟩ := rfl
    rw [e, if_neg (by rw [v1]; simp), hg]
    rfl
  rw [hC]
  have hnd : Nd ((writeT D 1 a).2.cache.foldl (fun K x => keepL K x 32) (writeT D 1 a).2.kept) := foldK_nd _ _ (by rw [g.kept]; exact h.nd)
  have hkv : ∀ j, kv ((writeT D 1 a).2.cache.foldl (fun K x => keepL K x 32) (writeT D 1 a).2.kept) j = (lastAt j (wrs (1 * 4) (textSecs a))).getD (kv D.kept j) := fun j => by
    rw [foldK_kv _ _ (by rw [g.kept]; exact h.nd), g.cache, h.cache, g.kept]
    rfl
  have hlow : ∀ j, j < 4 → lastAt j (wrs (1 * 4) (textSecs a)) = none := fun j hj => lastAt_none (fun x hx => by have := wrs_mem _ _ x hx; omega)
  refine ⟨rfl, ⟨?_, ?_, ?_, rfl, hl, ha, fun j x hx => ?_⟩, ⟨v2, v3, by rw [v4, g.n, hn]⟩, rfl⟩
  all_goals dsimp only
  · rw [v5]
    exact keepL_nd hnd _ _
  · rw [v5, keepL_full hnd, if_pos (by show (0 : Int) = 2 % 2; decide)]
    rfl
  · rw [v5, keepL_full hnd, if_neg (by show ¬ (1 : Int) = 2 % 2; decide), hkv, hlow 1 (by omega)]
    exact h.k1
  · obtain ⟨q1, q2⟩ := lastAt_wrs _ (1 * 4) j x (textSecs_sec ha) hx
    rw [v5, keepL_full hnd, if_neg (by show ¬ _ = (2 : Int) % 2; omega), hkv, q2]
    rfl
theorem base_start {D : Dv} (h : Rest D) {S : Sup} {k : Int} (m : Int) : Run k D.kept S (D.arm m) ⟨S, one k, [], [], false⟩ [] :=
  ⟨rfl, h.n, h.calm.2.2, rfl, rfl, .inl ⟨rfl, rfl, h.cache⟩⟩
theorem crash_rest {D : Dv} (hn : D.n = 400) (hb : D.bad = []) (f : Fate) : Rest (D.crash f) ∧ (D.crash f).kept = crashL f 0 D.kept D.cache := ⟨⟨⟨rfl, rfl, hb⟩, rfl, hn⟩, rfl⟩
/-- Where the sectors of the first commit stand, it is opened. -/
theorem open_old {K : List (Int × Sec)} {S : Sup} {a : List Int} (h : Base K S a) {D : Dv} (hR : Rest D) (hk : ∀ j, j < (1 + needP a.length) * 4 → kv D.kept j = kv K j) :
    openR D = (some (⟨S, ((Fr.new 1 100).claim S.span).2, [], [], false⟩, a), 0) := by
  obtain ⟨n0, n1, n2⟩ := need500 h.al
  have hl : loadK D.kept = (S, 0) := by rw [loadK_same (hk 0 (by omega)) (hk 1 (by omega)), base_load h]
  have hs := h.s
  refine (open_root hR hl (by rw [hs]) (by rw [hs]) (by rw [hs]; exact Int.le_refl 1) n0 (by rw [hs]; dsimp only; omega) ?_).1
  rw [show S.start = 1 from by rw [hs]]
  refine text_calm hR.calm h.ab (by omega) (by rw [hR.n]; omega) fun j x hx => ?_
  have hj := (List.getElem?_eq_some_iff.1 hx).1
  rw [textSecs_len] at hj
  rw [now_kept hR.cache, hk _ (by omega)]
  exact h.text j x hx
theorem crash_old {K : List (Int × Sec)} (hK : Nd K) (f : Fate) {ws : List Wr} {B : Int} (h : ∀ x ∈ ws, B ≤ x.pos) : ∀ j, j < B → kv (crashL f 0 K ws) j = kv K j := fun j hj => by
  rcases crash_kv f j ws 0 K hK (fun k x hx _ => by have := h x (List.mem_of_getElem? hx); omega) with e | ⟨x, hx, e, _⟩
  · exact e
  · have := h x hx
    omega
/-- What is opened behind the crash. -/
inductive Found (S : Sup) (a b : List Int) (k0 : Int) (xs : List (List Int)) (done : Int) (live : Prop) (D : Dv) : Prop where
  | old (h1 : done ≠ 0) (h2 : openR D = (some (⟨S, ((Fr.new 1 100).claim S.span).2, [], [], false⟩, a), 0))
  | new (h0 : live) (h1 : openR D = (some (⟨⟨3, endOf k0 xs, needP b.length, b.length⟩, ((Fr.new 1 100).claim ⟨endOf k0 xs, needP b.length⟩).2, [], [], false⟩, b), 0))
      (h2 : ∀ (i : Nat) x sp, xs[i]? = some x → (spansOf k0 xs)[i]? = some sp → Text D sp.start x)
theorem crash_law {K : List (Int × Sec)} {S : Sup} {a : List Int} (h : Base K S a) {D : Dv} {P : Pg} {xs : List (List Int)} (hR : Run (1 + needP a.length) K S D P xs) (hxs : Shorts xs) (h4 : xs.length ≤ 4) {b : List Int} (hb : byteL b) (hl : b.length ≤ 500) (f : Fate) :
    Rest ((commitR D P b).2.1.crash f) ∧ Found S a b (1 + needP a.length) xs (commitR D P b).1 (P.ended = false) ((commitR D P b).2.1.crash f) := by
  obtain ⟨n0, n1, n2⟩ := need500 h.al
  obtain ⟨m0, m1, m2⟩ := need500 hl
  have hend := endOf_bound xs (1 + needP a.length) hxs
  by_cases he : P.ended = true
  · have hC : commitR D P b = (40, D, P) := by unfold commitR; rw [if_pos he]
    rw [hC]
    obtain ⟨e1, _⟩ | ⟨_, e2⟩ := hR.some
    · rw [he] at e1; cases e1
    obtain ⟨c1, c2⟩ := crash_rest hR.n hR.bad f
    refine ⟨c1, .old (by simp) (open_old h c1 ?_)⟩
    rw [c2, hR.kept]
    exact crash_old h.nd f e2
  · have he' : P.ended = false := by simpa using he
    rcases lay_run hR he' (by omega) hxs (by omega) hb hl with ⟨q1, q2, q3⟩ | ⟨q1, q2, q3⟩
    rotate_left
    · have hC : commitR D P b = (40, (layR D P b).2.1, (layR D P b).2.2) := by unfold commitR; rw [if_neg he, if_pos (by rw [q1]; simp), q1]
      rw [hC]
      obtain ⟨e1, _⟩ | ⟨_, e2⟩ := q3.some
      · rw [q2] at e1; cases e1
      obtain ⟨c1, c2⟩ := crash_rest q3.n q3.bad f
      refine ⟨c1, .old (by simp) (open_old h c1 ?_)⟩
      dsimp only
      rw [c2, q3.kept]
      exact crash_old h.nd f e2
    · -- the text lies
      obtain ⟨-, -, ec⟩ | ⟨e1, _⟩ := q3.some
      rotate_left
      · rw [q2] at e1; cases e1
      have hsx : Shorts (xs ++ [b]) := fun y hy => by
        rcases List.mem_append.1 hy with hy | hy
        · exact hxs y hy
        · simp only [List.mem_singleton] at hy; subst hy; exact ⟨hl, hb⟩
      obtain ⟨ws, hws⟩ : ∃ ws, ws = cacheOf (1 + needP a.length) (xs ++ [b]) := ⟨_, rfl⟩
      have hpos : ∀ x ∈ ws, (1 + needP a.length) * 4 ≤ x.pos := fun x hx => by rw [hws] at hx; exact (cacheOf_mem _ _ hsx x hx).1
      obtain ⟨s3, hs3⟩ : ∃ s : Sup, s = nextS P (⟨endOf (1 + needP a.length) xs, needP b.length⟩ : Span) b := ⟨_, rfl⟩
      have hs3' : s3 = ⟨3, endOf (1 + needP a.length) xs, needP b.length, b.length⟩ := by
        rw [hs3]
        unfold nextS
        rw [hR.s, h.s]
        rfl
      have hs3ok : s3.ok := by
        rw [hs3']
        unfold Sup.ok
        dsimp only
        omega
      obtain ⟨K4, hK4⟩ : ∃ K4, K4 = ws.foldl (fun K x => keepL K x 32) K := ⟨_, rfl⟩
      have hnd : Nd K4 := by rw [hK4]; exact foldK_nd _ _ h.nd
      have hkv : ∀ j, kv K4 j = (lastAt j ws).getD (kv K j) := fun j => by rw [hK4]; exact foldK_kv _ _ h.nd j
      have hlow : ∀ j, j < (1 + needP a.length) * 4 → kv K4 j = kv K j := fun j hj => by rw [hkv, lastAt_none (fun x hx => by have := hpos x hx; omega)]; rfl
      have hsav : Saved (xs2 S) 2 K4 := ⟨hnd, by rw [hlow _ (by omega)]; exact h.k0, by rw [hlow _ (by omega)]; exact h.k1⟩
      have hl4 : loadK K4 = (S, 0) := by rw [loadK_same (hlow 0 (by omega)) (hlow 1 (by omega)), base_load h]
      -- what a device tells that has these sectors
      have hnew : ∀ D' : Dv, Rest D' → Nd D'.kept → (∀ j, 4 ≤ j → kv D'.kept j = kv K4 j) → loadK D'.kept = (s3, 0) → Found S a b (1 + needP a.length) xs (commitR D P b).1 (P.ended = false) D' := fun D' hr hn' hj' hld => by
        have tx : ∀ (i : Nat) x sp, (xs ++ [b])[i]? = some x → (spansOf (1 + needP a.length) (xs ++ [b]))[i]? = some sp → Text D' sp.start x := fun i x sp hx hsp => by
          obtain ⟨t1, t2, t3, t4⟩ := cacheOf_at _ _ hsx i x sp hx hsp
          rw [endOf_app] at t3
          refine text_calm hr.calm (hsx x (List.mem_of_getElem? hx)).2 (by omega) (by rw [hr.n]; omega) fun j y hy => ?_
          obtain ⟨u1, u2⟩ := t4 j y hy
          rw [now_kept hr.cache, hj' _ (by omega), hkv, hws, u2]
          rfl
        have hspl : (spansOf (1 + needP a.length) xs).length = xs.length := spans_len xs _
        refine .new he' ?_ (fun i x sp hx hsp => tx i x sp ?_ ?_)
        · have := (open_root hr hld (by rw [hs3']) (by rw [hs3']) (by rw [hs3']; dsimp only; omega) m0 (by rw [hs3']; dsimp only; omega) (tx xs.length b ⟨s3.start, needP b.length⟩ (by simp) (by
            rw [spansOf_app, List.getElem?_append_right (by omega), hspl, Nat.sub_self, hs3']; rfl))).1
          rw [this, hs3']
          rfl
        · rw [List.getElem?_append_left (List.getElem?_eq_some_iff.1 hx).1]; exact hx
        · rw [spansOf_app, List.getElem?_append_left (List.getElem?_eq_some_iff.1 hsp).1]; exact hsp
      have hold : ∀ D' : Dv, Rest D' → (∀ j, j < (1 + needP a.length) * 4 → kv D'.kept j = kv K j) → (commitR D P b).1 ≠ 0 → Found S a b (1 + needP a.length) xs (commitR D P b).1 (P.ended = false) D' := fun D' hr hj hne => .old hne (open_old h hr hj)
      have hps : (wrOf s3).pos = 1 := by show s3.epoch % 2 = 1; rw [hs3']; rfl
      have hkeep : ∀ k j, j ≠ 1 → kv (keepL K4 (wrOf s3) k) j = kv K4 j := fun k j hj => by rw [keepL_kv hnd, if_neg (by rw [hps]; exact hj)]
      obtain ⟨v0, v1, v2⟩ := save_cases (layR D P b).2.1 (by rw [q3.n]; omega) s3
      rw [ec, q3.kept, ← hws, ← hK4] at v2
      have hCd : (saveR (layR D P b).2.1 s3).1 ≠ 0 → (commitR D P b).1 = 40 ∧ (commitR D P b).2.1 = (saveR (layR D P b).2.1 s3).2 := fun hne => by
        unfold commitR
        rw [if_neg he, if_neg (by rw [q1]; simp), q1, ← hs3, if_pos hne]
        exact ⟨rfl, rfl⟩
      have hCo : (saveR (layR D P b).2.1 s3).1 = 0 → (commitR D P b).1 = 0 ∧ (commitR D P b).2.1 = (saveR (layR D P b).2.1 s3).2 := fun hz => by
        unfold commitR
        rw [if_neg he, if_neg (by rw [q1]; simp), q1, ← hs3, if_neg (by rw [hz]; simp)]
        exact ⟨rfl, rfl⟩
      obtain ⟨c1, c2⟩ := crash_rest (D := (saveR (layR D P b).2.1 s3).2) (by rw [v0, q3.n]) (by rw [v1, q3.bad]) f
      rcases v2 with ⟨r1, r2, r3⟩ | ⟨r1, r2, r3⟩ | ⟨r1, r2, r3⟩
      · obtain ⟨d1, d2⟩ := hCd r1
        have hne : (commitR D P b).1 ≠ 0 := by rw [d1]; simp
        rw [d2]
        refine ⟨c1, hold _ c1 ?_ hne⟩
        rw [c2, r2, r3]
        exact crash_old h.nd f hpos
      · obtain ⟨d1, d2⟩ := hCd r1
        have hne : (commitR D P b).1 ≠ 0 := by rw [d1]; simp
        rw [d2]
        refine ⟨c1, ?_⟩
        have hcr : crashL f 0 K4 (saveR (layR D P b).2.1 s3).2.cache = K4 ∨ ∃ k, k ≤ 32 ∧ crashL f 0 K4 (saveR (layR D P b).2.1 s3).2.cache = keepL K4 (wrOf s3) k := by
          rcases r3 with r3 | r3
          · rw [r3]; exact .inl rfl
          · rw [r3]
            simp only [crashL]
            split
            · exact .inr ⟨_, by omega, rfl⟩
            · split
              · exact .inr ⟨32, Nat.le_refl _, rfl⟩
              · exact .inl rfl
        rcases hcr with hcr | ⟨k, hk, hcr⟩
        · exact hold _ c1 (by rw [c2, r2, hcr]; exact hlow) hne
        · rcases load_crash (base_good h) hsav (by omega) hs3ok (by rw [hs3']; rfl) k hk with e | e
          · refine hnew _ c1 ?_ ?_ ?_
            · rw [c2, r2, hcr]; exact keepL_nd hnd _ _
            · intro j hj; rw [c2, r2, hcr]; exact hkeep k j (by omega)
            · rw [c2, r2, hcr]; exact e
          · refine .old hne ?_
            -- loaded as before: the super is the old one
            have hld : loadK ((saveR (layR D P b).2.1 s3).2.crash f).kept = (S, 0) := by rw [c2, r2, hcr, e, hl4]
            have hs := h.s
            refine (open_root c1 hld (by rw [hs]) (by rw [hs]) (by rw [hs]; exact Int.le_refl 1) n0 (by rw [hs]; dsimp only; omega) ?_).1
            rw [show S.start = 1 from by rw [hs]]
            refine text_calm c1.calm h.ab (by omega) (by rw [c1.n]; omega) fun j x hx => ?_
            have hj := (List.getElem?_eq_some_iff.1 hx).1
            rw [textSecs_len] at hj
            rw [now_kept c1.cache, c2, r2, hcr, hkeep k _ (by omega), hlow _ (by omega)]
            exact h.text j x hx
      · obtain ⟨d1, d2⟩ := hCo r1
        rw [d2]
        refine ⟨c1, hnew _ c1 ?_ ?_ ?_⟩
        all_goals rw [c2, r2, r3]
        · exact keepL_nd hnd _ _
        · exact fun j hj => hkeep 32 j (by omega)
        · exact load_done (base_good h) hsav hs3ok (by rw [hs3']; rfl)
where
  spans_len : ∀ (l : List (List Int)) (k : Int), (spansOf k l).length = l.length
    | [], _ => rfl
    | x :: l, k => by simp only [spansOf, List.length_cons, spans_len l]
/-- The pages from k to e are free. -/
structure Left (D : Fr) (k e : Int) : Prop where
  ok : D.Ok
  lo : D.lo = 1
  n : D.n = 100
  free : ∀ j, k ≤ j → j < e → inL D.l j
theorem left_claim {D : Fr} {k e n : Int} (h : Left D k e) (h0 : 1 ≤ k) (h1 : 1 ≤ n) (h2 : k + n ≤ e) (h3 : e ≤ 100) : (D.claim ⟨k, n⟩).1 = true ∧ Left (D.claim ⟨k, n⟩).2 (k + n) e := by
  have hh : D.has ⟨k, n⟩ = true := by
    rw [Fr.has_iff h.ok]
    refine ⟨?_, fun j j1 j2 => h.free j j1 (by dsimp only at j2; omega)⟩
    unfold Fr.there
    simp only [decide_eq_true_eq]
    rw [h.lo, h.n]
    omega
  obtain ⟨c1, c2, c3, c4⟩ := Fr.claim_yes h.ok hh
  exact ⟨c1, claim_one.claim_ok (st := k) (n := n) h.ok hh, c2.trans h.lo, c3.trans h.n, fun j j1 j2 => (c4 j).2 ⟨h.free j (by omega) j2, by dsimp only; omega⟩⟩
theorem left_new {st n k : Int} (h0 : 1 ≤ st) (h1 : 1 ≤ n) (h2 : st + n ≤ 100) (hk : 1 ≤ k) : Left ((Fr.new 1 100).claim ⟨st, n⟩).2 k st := by
  obtain ⟨c1, c2, c3, c4, c5⟩ := claim_one h0 h1 h2
  exact ⟨c2, c3, c4, fun j j1 j2 => (c5 j).2 ⟨by omega, by omega⟩⟩
end Go.Proofs.Ytikgplhcadomcaa

namespace Go.Proofs.Ytikgplhcadomcaa
open Go.RowKit
set_option linter.unusedVariables false
set_option linter.unusedSimpArgs false
def aw1 : Dv := (formatR (Dv.new 40)).2
def awP : Pg := ⟨sup1, Fr.new 1 10, [], [], false⟩
def aw2 : Dv := (commitR aw1 awP [97]).2.1
set_option maxRecDepth 100000 in
theorem aw_commit : (commitR aw1 awP [97]).1 = 0 := by kernel_rfl
set_option maxRecDepth 100000 in
theorem aw_open : (openR aw2).2 = 0 := by kernel_rfl
set_option maxRecDepth 100000 in
theorem aw_text : (openR aw2).1.map (·.2) = some [97] := by kernel_rfl
end Go.Proofs.Ytikgplhcadomcaa

namespace Go.Proofs.Ytikgplhcadomcaa
open Go.RowKit
set_option linter.unusedVariables false
set_option linter.unusedSimpArgs false

def Pg.cells (P : Pg) (g f : Nat) (vp vd : Value) : Array Value := #[.pointer (some ⟨g, 0, none⟩), .int .u64 P.s.epoch, .int .u32 P.s.start, .int .u32 P.s.pages, .int .u32 P.s.size, .pointer (some ⟨f, 0, none⟩), vp, vd, .bool P.ended]
/-- Which blocks are whose. -/
structure PgSet (n p : Nat) (F FD FF : Nat → Prop) (vp vd : Value) : Prop where
  fd : ∀ i, FD i → F i ∧ ¬ FF i ∧ i ≠ p
  ff : ∀ i, FF i → F i ∧ ¬ FD i ∧ i ≠ p
  fp : F p
  vp : ∀ k, vp.ownBlock = some k → F k ∧ ¬ FD k ∧ ¬ FF k ∧ k ≠ p ∧ vd.ownBlock ≠ some k
  vd : ∀ k, vd.ownBlock = some k → F k ∧ ¬ FD k ∧ ¬ FF k ∧ k ≠ p
  lt : ∀ i, F i → i < n
abbrev OwnS (w : World) (v : Value) (l : List Span) : Prop := Own Span.enc 2 33 0 w v l
/-- The pager P lies at block p, its device D at block g; all their blocks are in F. -/
def PgAt (w : World) (p g : Nat) (F : Nat → Prop) (D : Dv) (P : Pg) : Prop :=
  ∃ (f : Nat) (vp vd : Value) (FD FF : Nat → Prop), w.heap[p]? = some (.cells (P.cells g f vp vd) 76 (0, 0)) ∧ DevAt w g FD D ∧ FrAt w f FF P.fr ∧ OwnS w vp P.put ∧ OwnS w vd P.drop ∧ PgSet w.heap.size p F FD FF vp vd ∧ P.s.ok
/-- What a call made of the pager at p and its device at g. -/
def PgDid (F : Nat → Prop) (w w' : World) (p g : Nat) (D : Dv) (P : Pg) : Prop := ∃ F', PgAt w' p g F' D P ∧ Chg F w w' ∧ ∀ i, F' i → F i ∨ w.heap.size ≤ i

section
variable {w w' w'' : World} {p g : Nat} {F G : Nat → Prop} {D D' : Dv} {P P' : Pg}
theorem PgAt.lt (h : PgAt w p g F D P) : ∀ i, F i → i < w.heap.size := by obtain ⟨f, vp, vd, FD, FF, _, _, _, _, _, s, _⟩ := h; exact s.lt
theorem PgAt.fp (h : PgAt w p g F D P) : F p := by obtain ⟨f, vp, vd, FD, FF, _, _, _, _, _, s, _⟩ := h; exact s.fp
theorem PgAt.plt (h : PgAt w p g F D P) : p < w.heap.size := h.lt p h.fp
theorem PgAt.sok (h : PgAt w p g F D P) : P.s.ok := by obtain ⟨f, vp, vd, FD, FF, _, _, _, _, _, s, k⟩ := h; exact k
theorem PgAt.frok (h : PgAt w p g F D P) : P.fr.Ok := by obtain ⟨f, vp, vd, FD, FF, _, _, c, _, _, s, k⟩ := h; exact c.okD
theorem PgAt.fg (h : PgAt w p g F D P) : F g := by obtain ⟨f, vp, vd, FD, FF, _, b, c, _, _, s, k⟩ := h; exact (s.fd g b.fg).1
theorem PgAt.glt (h : PgAt w p g F D P) : g < w.heap.size := h.lt g h.fg
theorem PgAt.dev (h : PgAt w p g F D P) : ∃ FD : Nat → Prop, DevAt w g FD D ∧ ∀ i, FD i → F i := by obtain ⟨f, vp, vd, FD, FF, _, b, c, _, _, s, k⟩ := h; exact ⟨FD, b, fun i hi => (s.fd i hi).1⟩
theorem PgAt.chg (h : PgAt w p g F D P) (hc : Chg G w w') (hG : ∀ i, F i → ¬ G i) : PgAt w' p g F D P := by
  obtain ⟨f, vp, vd, FD, FF, a, b, c, d, e, s, k⟩ := h
  exact ⟨f, vp, vd, FD, FF, hc.blk a (hG _ s.fp), b.chg hc (fun i hi => hG _ (s.fd i hi).1), c.chg hc (fun i hi => hG _ (s.ff i hi).1), d.chg hc (fun i hi => hG _ (s.vp i hi).1), e.chg hc (fun i hi => hG _ (s.vd i hi).1), ⟨s.fd, s.ff, s.fp, s.vp, s.vd, fun i hi => Nat.lt_of_lt_of_le (s.lt i hi) hc.size⟩, k⟩
theorem PgAt.below (h : PgAt w p g F D P) (hb : Below w.heap.size w w') : PgAt w' p g F D P := h.chg (Below.chg hb fun _ => False) (fun _ _ h => h)
theorem PgAt.alloc (h : PgAt w p g F D P) (o : Obj) : PgAt (w.alloc o) p g F D P := h.below ((Below.refl _ w).alloc (Nat.le_refl _) o)
theorem PgAt.drew (h : PgAt w p g F D P) : PgAt w.drew p g F D P := h.below (Below.refl _ w).drew
theorem PgDid.refl (h : PgAt w p g F D P) : PgDid F w w p g D P := ⟨F, h, Chg.refl _ _, fun i hi => .inl hi⟩
theorem PgDid.of_below (h : PgAt w p g F D P) (hb : Below w.heap.size w w') : PgDid F w w' p g D P := ⟨F, h.below hb, Below.chg hb F, fun i hi => .inl hi⟩
theorem PgDid.after {F1 : Nat → Prop} (k : PgDid F1 w' w'' p g D' P') (c1 : Chg F w w') (s1 : ∀ i, F1 i → F i ∨ w.heap.size ≤ i) : PgDid F w w'' p g D' P' := by
  obtain ⟨F2, h2, c2, s2⟩ := k
  refine ⟨F2, h2, c1.trans c2 (fun i hi hf => ?_), fun i hi => ?_⟩
  · rcases s1 i hf with e | e
    · exact e
    · omega
  · rcases s2 i hi with e | e
    · exact s1 i e
    · exact .inr (Nat.le_trans c1.size e)
theorem PgDid.behind {F1 : Nat → Prop} (k : PgDid F1 w' w'' p g D' P') (hb : Below w.heap.size w w') (s1 : ∀ i, F1 i → F i) : PgDid F w w'' p g D' P' := k.after (Below.chg hb F) (fun i hi => .inl (s1 i hi))
/-- Then only new blocks. -/
theorem PgDid.then_below (k : PgDid F w w' p g D P) (hb : Below w'.heap.size w' w'') : PgDid F w w'' p g D P := by
  obtain ⟨F2, h2, c2, s2⟩ := k
  exact PgDid.after (PgDid.of_below h2 hb) c2 s2
/-- The pager opened, for a walk. -/
theorem PgAt.open (h : PgAt w p g F D P) : ∃ (f : Nat) (A B : Option Addr) (a b : Nat) (FD FF : Nat → Prop),
    w.cell? ⟨p, 0, none⟩ = some (.pointer (some ⟨g, 0, none⟩)) ∧ w.cell? ⟨p, 1, none⟩ = some (.int .u64 P.s.epoch) ∧ w.cell? ⟨p, 2, none⟩ = some (.int .u32 P.s.start) ∧ w.cell? ⟨p, 3, none⟩ = some (.int .u32 P.s.pages) ∧ w.cell? ⟨p, 4, none⟩ = some (.int .u32 P.s.size) ∧
    w.cell? ⟨p, 5, none⟩ = some (.pointer (some ⟨f, 0, none⟩)) ∧ w.cell? ⟨p, 6, none⟩ = some (.slice A P.put.length a) ∧ w.cell? ⟨p, 7, none⟩ = some (.slice B P.drop.length b) ∧ w.cell? ⟨p, 8, none⟩ = some (.bool P.ended) ∧ (∀ i, w.frozen? ⟨p, i, none⟩ = false) ∧
    DevAt w g FD D ∧ FrAt w f FF P.fr ∧ OwnS w (.slice A P.put.length a) P.put ∧ OwnS w (.slice B P.drop.length b) P.drop ∧ PgSet w.heap.size p F FD FF (.slice A P.put.length a) (.slice B P.drop.length b) ∧
    w.heap[p]? = some (.cells (P.cells g f (.slice A P.put.length a) (.slice B P.drop.length b)) 76 (0, 0)) ∧
    (∀ w' D', Did FD w w' g D' → PgDid F w w' p g D' P) ∧ (∀ w' fr', FrDid FF w w' f fr' → PgDid F w w' p g D { P with fr := fr' }) := by
  obtain ⟨f, vp, vd, FD, FF, hb, hd, hf, op, od, s, k⟩ := h
  obtain ⟨A, a, rfl, a1, a2, a3, a4⟩ := op.rd Span.ok
  obtain ⟨B, b, rfl, b1, b2, b3, b4⟩ := od.rd Span.ok
  refine ⟨f, A, B, a, b, FD, FF, ?_, ?_, ?_, ?_, ?_, ?_, ?_, ?_, ?_, fun i => blk_free hb i, hd, hf, op, od, s, hb, fun w' D' hD => ?_, fun w' fr' hD => ?_⟩
  iterate 9 (rw [blk_cell hb]; rfl)
  · obtain ⟨FD', d1, c1, s1⟩ := hD
    have old : ∀ i, F i → ¬ FD i → ¬ FD' i := fun i hi hn hd => (s1 i hd).elim hn (fun q => by have := s.lt i hi; omega)
    refine ⟨fun i => F i ∨ (w.heap.size ≤ i ∧ i < w'.heap.size), ⟨f, _, _, FD', FF, c1.blk hb (fun q => (s.fd _ q).2.2 rfl), d1, hf.chg c1 (fun i hi => (s.ff i hi).2.1), op.chg c1 (fun i hi => (s.vp i hi).2.1), od.chg c1 (fun i hi => (s.vd i hi).2.1), ?_, k⟩, c1.mono (fun i _ hi => (s.fd i hi).1), fun i hi => hi.imp_right And.left⟩
    refine ⟨fun i hi => ⟨?_, ?_, ?_⟩, fun i hi => ⟨.inl (s.ff i hi).1, old i (s.ff i hi).1 (s.ff i hi).2.1, (s.ff i hi).2.2⟩, .inl s.fp, fun i hi => ⟨.inl (s.vp i hi).1, old i (s.vp i hi).1 (s.vp i hi).2.1, (s.vp i hi).2.2⟩, fun i hi => ⟨.inl (s.vd i hi).1, old i (s.vd i hi).1 (s.vd i hi).2.1, (s.vd i hi).2.2⟩, ?_⟩
    · exact (s1 i hi).imp (fun q => (s.fd i q).1) (fun q => ⟨q, d1.lt i hi⟩)
    · exact fun q => old i (s.ff i q).1 (s.ff i q).2.1 hi
    · exact fun q => old i (by rw [q]; exact s.fp) (fun z => (s.fd i z).2.2 q) hi
    · rintro i (hi | hi)
      · exact Nat.lt_of_lt_of_le (s.lt i hi) c1.size
      · exact hi.2
  · obtain ⟨FF', d1, c1, s1⟩ := hD
    have old : ∀ i, F i → ¬ FF i → ¬ FF' i := fun i hi hn hd => (s1 i hd).elim hn (fun q => by have := s.lt i hi; omega)
    refine ⟨fun i => F i ∨ (w.heap.size ≤ i ∧ i < w'.heap.size), ⟨f, _, _, FD, FF', c1.blk hb (fun q => (s.ff _ q).2.2 rfl), hd.chg c1 (fun i hi => (s.fd i hi).2.1), d1, op.chg c1 (fun i hi => (s.vp i hi).2.2.1), od.chg c1 (fun i hi => (s.vd i hi).2.2.1), ?_, k⟩, c1.mono (fun i _ hi => (s.ff i hi).1), fun i hi => hi.imp_right And.left⟩
    refine ⟨fun i hi => ⟨.inl (s.fd i hi).1, old i (s.fd i hi).1 (s.fd i hi).2.1, (s.fd i hi).2.2⟩, fun i hi => ⟨?_, ?_, ?_⟩, .inl s.fp, fun i hi => ⟨.inl (s.vp i hi).1, (s.vp i hi).2.1, old i (s.vp i hi).1 (s.vp i hi).2.2.1, (s.vp i hi).2.2.2⟩, fun i hi => ⟨.inl (s.vd i hi).1, (s.vd i hi).2.1, old i (s.vd i hi).1 (s.vd i hi).2.2.1, (s.vd i hi).2.2.2⟩, ?_⟩
    · exact (s1 i hi).imp (fun q => (s.ff i q).1) (fun q => ⟨q, d1.lt i hi⟩)
    · exact fun q => old i (s.fd i q).1 (s.fd i q).2.1 hi
    · exact fun q => old i (by rw [q]; exact s.fp) (fun z => (s.ff i z).2.2 q) hi
    · rintro i (hi | hi)
      · exact Nat.lt_of_lt_of_le (s.lt i hi) c1.size
      · exact hi.2
/-- Its own cells told anew, the rows as they were, or nil both. -/
theorem PgAt.flat (h : PgAt w p g F D P) (hg : w.grownBy w' (some p)) (hfr : P'.fr = P.fr) (hk : P'.s.ok)
    (hb : ∀ f vp vd, w.heap[p]? = some (.cells (P.cells g f vp vd) 76 (0, 0)) → (P'.put = P.put ∧ P'.drop = P.drop ∧ w'.heap[p]? = some (.cells (P'.cells g f vp vd) 76 (0, 0))) ∨ (P'.put = [] ∧ P'.drop = [] ∧ w'.heap[p]? = some (.cells (P'.cells g f (.slice none 0 0) (.slice none 0 0)) 76 (0, 0)))) : PgDid F w w' p g D P' := by
  obtain ⟨f, vp, vd, FD, FF, h0, hd, hf, op, od, s, k⟩ := h
  have hc : Chg (fun i => i = p) w w' := Chg.grown hg rfl
  have hsz := hg.size
  refine ⟨F, ?_, hc.mono (fun i _ hi => by subst hi; exact s.fp), fun i hi => .inl hi⟩
  rcases hb f vp vd h0 with ⟨e1, e2, e3⟩ | ⟨e1, e2, e3⟩
  · refine ⟨f, vp, vd, FD, FF, e3, hd.chg hc (fun i hi => (s.fd i hi).2.2), ?_, ?_, ?_, ⟨s.fd, s.ff, s.fp, s.vp, s.vd, fun i hi => Nat.lt_of_lt_of_le (s.lt i hi) hsz⟩, hk⟩
    · rw [hfr]; exact hf.chg hc (fun i hi => (s.ff i hi).2.2)
    · rw [e1]; exact op.chg hc (fun i hi => (s.vp i hi).2.2.2.1)
    · rw [e2]; exact od.chg hc (fun i hi => (s.vd i hi).2.2.2)
  · refine ⟨f, _, _, FD, FF, e3, hd.chg hc (fun i hi => (s.fd i hi).2.2), ?_, ?_, ?_, ⟨s.fd, s.ff, s.fp, (fun i hi => by cases hi), (fun i hi => by cases hi), fun i hi => Nat.lt_of_lt_of_le (s.lt i hi) hsz⟩, hk⟩
    · rw [hfr]; exact hf.chg hc (fun i hi => (s.ff i hi).2.2)
    · rw [e1]; exact Own.nil
    · rw [e2]; exact Own.nil
/-- The row of what was put, told anew: a row that grew out of the old one. -/
theorem PgAt.puts (h : PgAt w p g F D P) {f : Nat} {vp vd v : Value} (h0 : w.heap[p]? = some (.cells (P.cells g f vp vd) 76 (0, 0))) {w1 : World} (hg : w.grownBy w1 vp.ownBlock) {l : List Span} (ho : OwnS w1 v l) (hv : ∀ k, v.ownBlock = some k → vp.ownBlock = some k ∨ w.heap.size ≤ k) :
    PgDid F w (w1.setCell ⟨p, 6, none⟩ v) p g D { P with put := l } := by
  obtain ⟨f', vp', vd', FD, FF, h1, hd, hf, op, od, s, k⟩ := h
  rw [h0] at h1
  have he := Obj.cells.inj (Option.some.inj h1)
  have he := he.1
  unfold Pg.cells at he
  simp only [Array.mk.injEq, List.cons.injEq, Value.pointer.injEq, Option.some.injEq, Addr.mk.injEq, true_and, and_true] at he
  obtain ⟨rfl, rfl, rfl⟩ := he
  have hpv : ∀ k, v.ownBlock = some k → k ≠ p := fun k hk => (hv k hk).elim (fun q => (s.vp k q).2.2.2.1) (fun q => by have := s.lt p s.fp; omega)
  have hc1 : Chg (fun i => vp.ownBlock = some i) w w1 := Chg.grownO hg (fun i hi => hi)
  have hc2 : Chg (fun i => vp.ownBlock = some i ∨ i = p) w (w1.setCell ⟨p, 6, none⟩ v) := (hc1.mono (G := fun i => vp.ownBlock = some i ∨ i = p) (fun i _ hi => .inl hi)).trans (Chg.set (F := fun i => i = p) w1 v rfl) (fun i _ hi => .inr hi)
  have hsz := hc2.size
  have hlt := s.lt
  have hlv : ∀ i, v.ownBlock = some i → i < w1.heap.size := fun i hi => (ho.lt i hi).2
  have hs1 : (w1.setCell ⟨p, 6, none⟩ v).heap.size = w1.heap.size := by simp [World.setCell]
  refine ⟨fun i => F i ∨ (w.heap.size ≤ i ∧ i < w1.heap.size), ⟨f, v, vd, FD, FF, ?_, hd.chg hc2 ?_, hf.chg hc2 ?_, ho.far (fun q => hpv _ q rfl) _, od.chg hc2 ?_, ⟨?_, ?_, ?_, ?_, ?_, ?_⟩, k⟩, hc2.mono ?_, fun i hi => hi.imp_right And.left⟩
  · exact blk_set' (hc1.blk h0 (fun q => (s.vp _ q).2.2.2.1 rfl)) 6 v rfl
  · rintro i hi (q | q)
    · exact (s.vp i q).2.1 hi
    · exact (s.fd i hi).2.2 q
  · rintro i hi (q | q)
    · exact (s.vp i q).2.2.1 hi
    · exact (s.ff i hi).2.2 q
  · rintro i hi (q | q)
    · exact (s.vp i q).2.2.2.2 hi
    · exact (s.vd i hi).2.2.2 q
  · exact fun i hi => ⟨.inl (s.fd i hi).1, (s.fd i hi).2⟩
  · exact fun i hi => ⟨.inl (s.ff i hi).1, (s.ff i hi).2⟩
  · exact .inl s.fp
  · intro i hi
    rcases hv i hi with q | q
    · exact ⟨.inl (s.vp i q).1, (s.vp i q).2⟩
    · exact ⟨.inr ⟨q, hlv i hi⟩, fun z => by have := hlt i (s.fd i z).1; omega, fun z => by have := hlt i (s.ff i z).1; omega, hpv i hi, fun z => by have := hlt i (s.vd i z).1; omega⟩
  · exact fun i hi => ⟨.inl (s.vd i hi).1, (s.vd i hi).2⟩
  · rintro i (hi | hi)
    · exact Nat.lt_of_lt_of_le (hlt i hi) hsz
    · rw [hs1]; exact hi.2
  · rintro i _ (q | q)
    · exact (s.vp i q).1
    · rw [q]; exact s.fp
/-- The row of what is to go, likewise. -/
theorem PgAt.drops (h : PgAt w p g F D P) {f : Nat} {vp vd v : Value} (h0 : w.heap[p]? = some (.cells (P.cells g f vp vd) 76 (0, 0))) {w1 : World} (hg : w.grownBy w1 vd.ownBlock) {l : List Span} (ho : OwnS w1 v l) (hv : ∀ k, v.ownBlock = some k → vd.ownBlock = some k ∨ w.heap.size ≤ k) :
    PgDid F w (w1.setCell ⟨p, 7, none⟩ v) p g D { P with drop := l } := by
  obtain ⟨f', vp', vd', FD, FF, h1, hd, hf, op, od, s, k⟩ := h
  rw [h0] at h1
  have he := Obj.cells.inj (Option.some.inj h1)
  have he := he.1
  unfold Pg.cells at he
  simp only [Array.mk.injEq, List.cons.injEq, Value.pointer.injEq, Option.some.injEq, Addr.mk.injEq, true_and, and_true] at he
  obtain ⟨rfl, rfl, rfl⟩ := he
  have hpv : ∀ k, v.ownBlock = some k → k ≠ p := fun k hk => (hv k hk).elim (fun q => (s.vd k q).2.2.2) (fun q => by have := s.lt p s.fp; omega)
  have hc1 : Chg (fun i => vd.ownBlock = some i) w w1 := Chg.grownO hg (fun i hi => hi)
  have hc2 : Chg (fun i => vd.ownBlock = some i ∨ i = p) w (w1.setCell ⟨p, 7, none⟩ v) := (hc1.mono (G := fun i => vd.ownBlock = some i ∨ i = p) (fun i _ hi => .inl hi)).trans (Chg.set (F := fun i => i = p) w1 v rfl) (fun i _ hi => .inr hi)
  have hsz := hc2.size
  have hlt := s.lt
  have hlv : ∀ i, v.ownBlock = some i → i < w1.heap.size := fun i hi => (ho.lt i hi).2
  have hs1 : (w1.setCell ⟨p, 7, none⟩ v).heap.size = w1.heap.size := by simp [World.setCell]
  refine ⟨fun i => F i ∨ (w.heap.size ≤ i ∧ i < w1.heap.size), ⟨f, vp, v, FD, FF, ?_, hd.chg hc2 ?_, hf.chg hc2 ?_, op.chg hc2 ?_, ho.far (fun q => hpv _ q rfl) _, ⟨?_, ?_, ?_, ?_, ?_, ?_⟩, k⟩, hc2.mono ?_, fun i hi => hi.imp_right And.left⟩
  · exact blk_set' (hc1.blk h0 (fun q => (s.vd _ q).2.2.2 rfl)) 7 v rfl
  · rintro i hi (q | q)
    · exact (s.vd i q).2.1 hi
    · exact (s.fd i hi).2.2 q
  · rintro i hi (q | q)
    · exact (s.vd i q).2.2.1 hi
    · exact (s.ff i hi).2.2 q
  · rintro i hi (q | q)
    · exact (s.vp i hi).2.2.2.2 q
    · exact (s.vp i hi).2.2.2.1 q
  · exact fun i hi => ⟨.inl (s.fd i hi).1, (s.fd i hi).2⟩
  · exact fun i hi => ⟨.inl (s.ff i hi).1, (s.ff i hi).2⟩
  · exact .inl s.fp
  · intro i hi
    obtain ⟨q1, q2, q3, q4, q5⟩ := s.vp i hi
    refine ⟨.inl q1, q2, q3, q4, fun z => ?_⟩
    rcases hv i z with q | q
    · exact q5 q
    · have := hlt i q1; omega
  · intro i hi
    rcases hv i hi with q | q
    · exact ⟨.inl (s.vd i q).1, (s.vd i q).2⟩
    · exact ⟨.inr ⟨q, hlv i hi⟩, fun z => by have := hlt i (s.fd i z).1; omega, fun z => by have := hlt i (s.ff i z).1; omega, hpv i hi⟩
  · rintro i (hi | hi)
    · exact Nat.lt_of_lt_of_le (hlt i hi) hsz
    · rw [hs1]; exact hi.2
  · rintro i _ (q | q)
    · exact (s.vd i q).1
    · rw [q]; exact s.fp
end
end Go.Proofs.Ytikgplhcadomcaa
