/- Texts on a device: written and read again; plain laws, no program. Format, a save on any device, what is loaded: plain laws, no program. What a crash within a transaction leaves: plain laws, no program. What is opened behind a crash within a transaction: plain laws, no program. A pager: how it lies in memory, beside its device and its free pages. -/
import Derived.Test.YtikgplhcadomcaaGreatKH
namespace Go.Proofs.YtikgplhcadomcaaGreat
open Go.RowKit
set_option linter.unusedVariables false
set_option linter.unusedSimpArgs false

theorem needP_lo {n : Int} (h : needP n ≠ 0) : 0 ≤ n ∧ n ≤ 131072 ∧ 1 ≤ needP n ∧ n ≤ needP n * 124 ∧ needP n ≤ 1058 := by
  unfold needP at h ⊢
  split at h
  · exact absurd rfl h
  · rename_i q
    rw [if_neg q]
    omega
theorem needP_ok {n : Int} (h0 : 0 ≤ n) (h1 : n ≤ 131072) : needP n = max 1 ((n + 123) / 124) := by
  unfold needP
  rw [if_neg (by omega)]
theorem plen (b : List Int) : (pageL b).length = 128 := by unfold pageL; rw [List.length_append]; simp [sumL, padL]; omega
theorem pad_len (b : List Int) : (padL b).length = 124 := by unfold padL; simp; omega
theorem pad_pad (b : List Int) : padL (padL b) = padL b := by
  have h := pad_len b
  generalize padL b = c at *
  unfold padL
  rw [List.take_of_length_le (by omega), show 124 - c.length = 0 from by omega]
  simp
theorem page_pad (b : List Int) : pageL (padL b) = pageL b := by unfold pageL; rw [pad_pad]
theorem page_drop (b : List Int) : (pageL b).drop 4 = padL b := by
  unfold pageL
  rw [List.drop_left' (by simp [sumL])]

/-! ### Sectors one behind the other -/
/-- Sector p is read as s. -/
def SecAt (D : Dv) (p : Int) (s : List Int) : Prop := D.readE p = 0 ∧ D.readB p = s
theorem rdRun_cat {D : Dv} : ∀ (ss : List (List Int)) (p : Int), (∀ (j : Nat) s, ss[j]? = some s → SecAt D (p + j) s) → rdRun D p ss.length = (ss.flatten, 0)
  | [], p, h => rfl
  | s :: ss, p, h => by
    have h0 := h 0 s rfl
    simp only [Int.natCast_zero, Int.add_zero] at h0
    have ih := rdRun_cat ss (p + 1) (fun j x hx => by have := h (j + 1) x (by simpa using hx); rwa [show p + ((j + 1 : Nat) : Int) = p + 1 + j from by omega] at this)
    show rdRun D p (ss.length + 1) = _
    unfold rdRun
    rw [if_neg (by rw [h0.1]; simp), ih, h0.2]
    simp [consR]
theorem cut32_flat {p : List Int} (h : p.length = 128) : (cut32 p).flatten = p := by
  unfold cut32
  simp only [show List.range 4 = [0, 1, 2, 3] from rfl, List.map_cons, List.map_nil, List.flatten_cons, List.flatten_nil, List.append_nil, Nat.zero_mul, List.drop_zero]
  have h1 : p.take 32 ++ (p.drop 32).take 32 = p.take 64 := by rw [← List.take_add]
  have h2 : p.take 64 ++ (p.drop 64).take 32 = p.take 96 := by rw [← List.take_add]
  have h3 : p.take 96 ++ (p.drop 96).take 32 = p.take 128 := by rw [← List.take_add]
  have h4 : p.take 128 = p := List.take_of_length_le (by omega)
  show p.take 32 ++ ((p.drop 32).take 32 ++ ((p.drop 64).take 32 ++ (p.drop 96).take 32)) = p
  rw [← List.append_assoc, ← List.append_assoc, h1, h2, h3, h4]
/-- The page at pg has the text piece x. -/
def PgHas (D : Dv) (pg : Int) (x : List Int) : Prop := ∀ (j : Nat) s, (cut32 (pageL x))[j]? = some s → SecAt D (pg * 4 + j) s
theorem readPg_has {D : Dv} {pg : Int} {x : List Int} (h : PgHas D pg x) : readPg D pg = (padL x, 0) := by
  have e := rdRun_cat (cut32 (pageL x)) (pg * 4) h
  rw [cut32_flat (plen x), show (cut32 (pageL x)).length = 4 from by simp [cut32]] at e
  unfold readPg
  rw [e]
  simp only [ne_eq, not_true_eq_false, if_false, page_drop, page_pad, if_true]
/-- The text b stands at page 'start'. -/
def Text (D : Dv) (start : Int) (b : List Int) : Prop := ∀ i : Nat, i < (needP b.length).toNat → PgHas D (start + i) (pieceL b i)
theorem rdPages_has {D : Dv} (b : List Int) : ∀ (m : Nat) (i : Nat) (pg : Int), (∀ j : Nat, j < m → PgHas D (pg + j) (pieceL b (i + j))) → rdPages D pg m = ((List.range' i m).flatMap (fun j => padL (pieceL b j)), 0)
  | 0, i, pg, h => rfl
  | m + 1, i, pg, h => by
    have h0 := readPg_has (h 0 (by omega))
    simp only [Int.natCast_zero, Int.add_zero, Nat.add_zero] at h0
    have ih := rdPages_has b m (i + 1) (pg + 1) (fun j hj => by have := h (j + 1) (by omega); rwa [show pg + ((j + 1 : Nat) : Int) = pg + 1 + j from by omega, show i + (j + 1) = i + 1 + j from by omega] at this)
    unfold rdPages
    rw [h0, ih]
    simp [consR, List.range'_succ]
theorem pads_take {b : List Int} : ∀ (m i : Nat), b.length ≤ (i + m) * 124 → ((List.range' i m).flatMap (fun j => padL (pieceL b j))).take (b.length - i * 124) = b.drop (i * 124)
  | 0, i, h => by
    simp
    omega
  | m + 1, i, h => by
    have ih := pads_take (b := b) m (i + 1) (by rw [show i + 1 + m = i + (m + 1) from by omega]; exact h)
    rw [List.range'_succ, List.flatMap_cons]
    by_cases hb : b.length ≤ i * 124
    · rw [show b.length - i * 124 = 0 from by omega, List.take_zero, List.drop_of_length_le hb]
    · by_cases hl : b.length < (i + 1) * 124
      · have hp : padL (pieceL b i) = b.drop (i * 124) ++ List.replicate (124 - (b.length - i * 124)) 0 := by
          unfold padL pieceL
          have e : (b.drop (i * 124)).take 124 = b.drop (i * 124) := List.take_of_length_le (by simp; omega)
          rw [e, e, List.length_drop]
        rw [hp, List.append_assoc, List.take_left' (by simp)]
      · have hp : padL (pieceL b i) = (b.drop (i * 124)).take 124 := by
          unfold padL pieceL
          have e : ((b.drop (i * 124)).take 124).length = 124 := by simp; omega
          rw [List.take_of_length_le (by omega), e]
          simp
        have hpl : (padL (pieceL b i)).length = 124 := pad_len _
        rw [List.take_append, hpl, List.take_of_length_le (by omega), show b.length - i * 124 - 124 = b.length - (i + 1) * 124 from by omega, ih, hp]
        have := List.take_append_drop 124 (b.drop (i * 124))
        rw [List.drop_drop, show i * 124 + 124 = (i + 1) * 124 from by omega] at this
        exact this
theorem readT_has {D : Dv} {start : Int} {b : List Int} (hb : needP b.length ≠ 0) (h : Text D start b) : readT D start b.length = (b, 0) := by
  have h2 := needP_lo hb
  have e := rdPages_has b (needP b.length).toNat 0 start (fun j hj => by rw [Nat.zero_add]; exact h j hj)
  have p := pads_take (b := b) (needP b.length).toNat 0 (by omega)
  unfold readT
  rw [if_neg hb, e]
  simp only [ne_eq, not_true_eq_false, if_false, Int.toNat_natCast]
  simpa using p

/-! ### What is written -/
abbrev isSec (s : List Int) : Prop := s.length = 32 ∧ ∀ x ∈ s, 0 ≤ x ∧ x ≤ 255
/-- D' is D with more in its cache. -/
structure Grew (D D' : Dv) (ws : List Wr) : Prop where
  kept : D'.kept = D.kept
  n : D'.n = D.n
  bad : D'.bad = D.bad
  cache : D'.cache = D.cache ++ ws
theorem Grew.refl (D : Dv) : Grew D D [] := ⟨rfl, rfl, rfl, by simp⟩
theorem Grew.trans {A B C : Dv} {u v : List Wr} (h : Grew A B u) (k : Grew B C v) : Grew A C (u ++ v) :=
  ⟨k.kept.trans h.kept, k.n.trans h.n, k.bad.trans h.bad, by rw [k.cache, h.cache, List.append_assoc]⟩
/-- The writes of sectors from p on. -/
def wrs (p : Int) : List (List Int) → List Wr
  | [] => []
  | s :: l => if h : isSec s then ⟨p, ⟨s, h⟩⟩ :: wrs (p + 1) l else wrs (p + 1) l
theorem act_same (D : Dv) : D.act.2.kept = D.kept ∧ D.act.2.n = D.n ∧ D.act.2.bad = D.bad ∧ D.act.2.cache = D.cache := by
  unfold Dv.act
  split
  · exact ⟨rfl, rfl, rfl, rfl⟩
  · split
    · exact ⟨rfl, rfl, rfl, rfl⟩
    · split <;> exact ⟨rfl, rfl, rfl, rfl⟩
theorem act_dead (D : Dv) (h : ¬ D.act.1 = true) : D.act.2.dead = true := by
  unfold Dv.act at h ⊢
  split
  · assumption
  · rename_i h1
    rw [if_neg h1] at h
    split
    · rename_i h2
      rw [if_pos h2] at h
      exact absurd rfl h
    · rename_i h2
      rw [if_neg h2] at h
      split
      · rfl
      · rename_i h3
        rw [if_neg h3] at h
        exact absurd rfl h
theorem write_grew {D : Dv} {p : Int} {s : List Int} (h0 : 0 ≤ p) (h1 : p < D.n) (hs : isSec s) : ((D.write p s).1 = 0 ∧ Grew D (D.write p s).2 [⟨p, ⟨s, hs⟩⟩]) ∨ ((D.write p s).1 = 40 ∧ Grew D (D.write p s).2 [] ∧ (D.write p s).2.dead = true) := by
  have hh : D.has p = true := by unfold Dv.has; simp [h0, h1]
  obtain ⟨a1, a2, a3, a4⟩ := act_same D
  unfold Dv.write
  by_cases hd : D.dead = true
  · rw [if_pos hd]
    exact .inr ⟨rfl, Grew.refl D, hd⟩
  · rw [if_neg hd, dif_pos ⟨hh, hs⟩]
    by_cases ha : D.act.1 = true
    · rw [if_pos ha]
      exact .inl ⟨rfl, a1, a2, a3, by rw [← a4]⟩
    · rw [if_neg ha]
      exact .inr ⟨rfl, ⟨a1, a2, a3, by rw [a4]; simp⟩, act_dead D ha⟩
theorem calm_wrRun : ∀ (l : List (List Int)) (D : Dv) (p : Int), Calm D → 0 ≤ p → p + l.length ≤ D.n → (∀ s ∈ l, isSec s) → (wrRun D p l).1 = 0 ∧ Grew D (wrRun D p l).2 (wrs p l) ∧ Calm (wrRun D p l).2
  | [], D, p, hc, _, _, _ => ⟨rfl, Grew.refl D, hc⟩
  | s :: l, D, p, hc, h0, h1, hs => by
    simp only [List.length_cons] at h1
    have hs0 := hs s List.mem_cons_self
    have hw : wrs p (s :: l) = ⟨p, ⟨s, hs0⟩⟩ :: wrs (p + 1) l := by simp only [wrs]; rw [dif_pos hs0]
    have hu : wrRun D p (s :: l) = if (D.write p s).1 ≠ 0 then D.write p s else wrRun (D.write p s).2 (p + 1) l := rfl
    have hcw := (calm_write hc p s).1
    rw [hw, hu]
    rcases write_grew (D := D) h0 (by omega) hs0 with ⟨e, g⟩ | ⟨e, g, d⟩
    · rw [if_neg (by rw [e]; simp)]
      obtain ⟨e2, g2, c2⟩ := calm_wrRun l (D.write p s).2 (p + 1) hcw (by omega) (by rw [g.n]; omega) (fun x hx => hs x (List.mem_cons_of_mem _ hx))
      exact ⟨e2, g.trans g2, c2⟩
    · rw [hcw.1] at d
      cases d
theorem wrs_mem : ∀ (l : List (List Int)) (p : Int), ∀ x ∈ wrs p l, p ≤ x.pos ∧ x.pos < p + l.length
  | [], p, x, hx => by cases hx
  | s :: l, p, x, hx => by
    have ih := wrs_mem l (p + 1)
    simp only [wrs] at hx
    simp only [List.length_cons]
    split at hx
    · rcases List.mem_cons.1 hx with rfl | hx
      · dsimp only; omega
      · have := ih x hx; omega
    · have := ih x hx; omega
theorem lastAt_none {q : Int} : ∀ {l : List Wr}, (∀ x ∈ l, x.pos ≠ q) → lastAt q l = none
  | [], _ => rfl
  | x :: l, h => by
    simp only [lastAt]
    rw [lastAt_none (fun y hy => h y (List.mem_cons_of_mem _ hy)), if_neg (h x List.mem_cons_self)]
    rfl
theorem lastAt_app (q : Int) : ∀ (l m : List Wr), lastAt q (l ++ m) = (lastAt q m).orElse fun _ => lastAt q l
  | [], m => by simp [lastAt]
  | x :: l, m => by
    simp only [List.cons_append, lastAt, lastAt_app q l m]
    cases lastAt q m <;> rfl
theorem lastAt_wrs : ∀ (l : List (List Int)) (p : Int) (j : Nat) (s : List Int), (∀ s ∈ l, isSec s) → (h : l[j]? = some s) → ∃ hs : isSec s, lastAt (p + j) (wrs p l) = some ⟨s, hs⟩
  | [], p, j, s, _, h => by simp at h
  | x :: l, p, 0, s, hs, h => by
    simp only [List.getElem?_cons_zero, Option.some.injEq] at h
    subst h
    have h0 := hs x List.mem_cons_self
    refine ⟨h0, ?_⟩
    simp only [wrs]
    rw [dif_pos h0]
    simp only [lastAt]
    rw [lastAt_none (fun y hy => by have := wrs_mem l (p + 1) y hy; simp only [Int.natCast_zero]; omega)]
    simp
  | x :: l, p, j + 1, s, hs, h => by
    obtain ⟨h1, h2⟩ := lastAt_wrs l (p + 1) j s (fun y hy => hs y (List.mem_cons_of_mem _ hy)) (by simpa using h)
    refine ⟨h1, ?_⟩
    rw [show p + 1 + (j : Int) = p + ((j + 1 : Nat) : Int) from by omega] at h2
    simp only [wrs]
    split
    · simp only [lastAt]
      rw [h2]
      rfl
    · exact h2
theorem calm_sec {D : Dv} (h : Calm D) {p : Int} (h0 : 0 ≤ p) (h1 : p < D.n) : SecAt D p (D.now p).1 := by
  have hE : D.readE p = 0 := by
    unfold Dv.readE Dv.badAt Dv.has
    rw [h.1, h.2.2]
    simp [h0, h1, look, at?]
  exact ⟨hE, readB_now hE⟩
/-! ### The sectors of a text -/
theorem secsFrom_len (b : List Int) : ∀ (m i : Nat), ((List.range' i m).flatMap fun i => cut32 (pageL (pieceL b i))).length = m * 4
  | 0, i => rfl
  | m + 1, i => by
    rw [List.range'_succ, List.flatMap_cons, List.length_append, secsFrom_len b m (i + 1), show (cut32 (pageL (pieceL b i))).length = 4 from by simp [cut32]]
    omega
theorem secsFrom_get (b : List Int) : ∀ (m i k j : Nat), k < m → j < 4 → ((List.range' i m).flatMap fun i => cut32 (pageL (pieceL b i)))[k * 4 + j]? = (cut32 (pageL (pieceL b (i + k))))[j]?
  | 0, i, k, j, hk, hj => by omega
  | m + 1, i, k, j, hk, hj => by
    have hl : (cut32 (pageL (pieceL b i))).length = 4 := by simp [cut32]
    rw [List.range'_succ, List.flatMap_cons]
    cases k with
    | zero => rw [List.getElem?_append_left (by omega)]; simp
    | succ k =>
      rw [List.getElem?_append_right (by omega), hl, show (k + 1) * 4 + j - 4 = k * 4 + j from by omega, secsFrom_get b m (i + 1) k j (by omega) hj, show i + 1 + k = i + (k + 1) from by omega]
theorem textSecs_len (b : List Int) : (textSecs b).length = (needP b.length).toNat * 4 := by
  have := secsFrom_len b (needP b.length).toNat 0
  rwa [← List.range_eq_range'] at this
theorem textSecs_get (b : List Int) (k j : Nat) (hk : k < (needP b.length).toNat) (hj : j < 4) : (textSecs b)[k * 4 + j]? = (cut32 (pageL (pieceL b k)))[j]? := by
  have := secsFrom_get b (needP b.length).toNat 0 k j hk hj
  rwa [← List.range_eq_range', Nat.zero_add] at this
theorem pad_byte {b : List Int} (h : byteL b) : byteL (padL b) := by
  unfold padL
  intro x hx
  rcases List.mem_append.1 hx with hx | hx
  · exact h x (List.mem_of_mem_take hx)
  · rw [List.eq_of_mem_replicate hx]; omega
theorem page_byte {b : List Int} (h : byteL b) : byteL (pageL b) := by
  intro x hx
  unfold pageL at hx
  rcases List.mem_append.1 hx with hx | hx
  · unfold sumL at hx
    obtain ⟨i, _, rfl⟩ := List.mem_map.1 hx
    omega
  · exact pad_byte h x hx
theorem textSecs_sec {b : List Int} (h : byteL b) : ∀ s ∈ textSecs b, isSec s := by
  intro s hs
  unfold textSecs at hs
  obtain ⟨i, hi, hs⟩ := List.mem_flatMap.1 hs
  unfold cut32 at hs
  obtain ⟨k, hk, rfl⟩ := List.mem_map.1 hs
  have hk4 := List.mem_range.1 hk
  refine ⟨?_, fun x hx => ?_⟩
  · rw [List.length_take, List.length_drop, plen]; omega
  · exact page_byte (fun y hy => h y (List.mem_of_mem_drop (List.mem_of_mem_take hy))) x (List.mem_of_mem_drop (List.mem_of_mem_take hx))
theorem text_of {D : Dv} {start : Int} {b : List Int} (h : ∀ (j : Nat) s, (textSecs b)[j]? = some s → SecAt D (start * 4 + j) s) : Text D start b := by
  intro i hi j s hs
  have hj : j < 4 := by have := (List.getElem?_eq_some_iff.1 hs).1; simpa [cut32] using this
  have := h (i * 4 + j) s (by rw [textSecs_get b i j hi hj]; exact hs)
  rwa [show start * 4 + ((i * 4 + j : Nat) : Int) = (start + i) * 4 + j from by omega] at this
/-- A calm device that has the text's sectors behind all that it had. -/
theorem text_calm {D : Dv} {start : Int} {b : List Int} (hc : Calm D) (hb : byteL b) (h0 : 0 ≤ start) (h1 : (start + needP b.length) * 4 ≤ D.n) (h : ∀ (j : Nat) s, (textSecs b)[j]? = some s → (D.now (start * 4 + j)).1 = s) : Text D start b := by
  refine text_of fun j s hs => ?_
  have hj := (List.getElem?_eq_some_iff.1 hs).1
  rw [textSecs_len] at hj
  have := calm_sec hc (p := start * 4 + j) (by omega) (by omega)
  rwa [h j s hs] at this
theorem text_keep {D D' : Dv} {start : Int} {b : List Int} (hc : Calm D') (h0 : 0 ≤ start) (h1 : (start + needP b.length) * 4 ≤ D'.n) (h : Text D start b) (hD : ∀ p, start * 4 ≤ p → p < (start + needP b.length) * 4 → (D'.now p).1 = (D.now p).1) : Text D' start b := by
  intro i hi j s hs
  have hj : j < 4 := by have := (List.getElem?_eq_some_iff.1 hs).1; simpa [cut32] using this
  obtain ⟨e1, e2⟩ := h i hi j s hs
  have hr := readB_now e1
  have := calm_sec hc (p := (start + i) * 4 + j) (by omega) (by omega)
  rwa [hD _ (by omega) (by omega), ← hr, e2] at this
theorem calm_writeT {D : Dv} {start : Int} {b : List Int} (hc : Calm D) (hb : byteL b) (hn : needP b.length ≠ 0) (h0 : 0 ≤ start) (h1 : (start + needP b.length) * 4 ≤ D.n) :
    (writeT D start b).1 = 0 ∧ Grew D (writeT D start b).2 (wrs (start * 4) (textSecs b)) ∧ Calm (writeT D start b).2 := by
  unfold writeT
  rw [if_neg hn]
  exact calm_wrRun _ D _ hc (by omega) (by rw [textSecs_len]; have := needP_lo hn; omega) (textSecs_sec hb)
theorem now_grew {D D' : Dv} {ws : List Wr} (g : Grew D D' ws) (p : Int) : D'.now p = ((lastAt p ws).orElse fun _ => lastAt p D.cache).getD (D.base p) := by
  unfold Dv.now Dv.base
  rw [g.cache, lastAt_app, g.kept]
theorem now_same {D D' : Dv} {ws : List Wr} (g : Grew D D' ws) {p : Int} (h : ∀ x ∈ ws, x.pos ≠ p) : D'.now p = D.now p := by
  rw [now_grew g, lastAt_none h]
  rfl
theorem text_written {D D' : Dv} {start : Int} {b : List Int} (g : Grew D D' (wrs (start * 4) (textSecs b))) (hc : Calm D') (hb : byteL b) (h0 : 0 ≤ start) (h1 : (start + needP b.length) * 4 ≤ D.n) : Text D' start b := by
  refine text_calm hc hb h0 (by rw [g.n]; exact h1) fun j s hs => ?_
  obtain ⟨h2, h3⟩ := lastAt_wrs _ (start * 4) j s (textSecs_sec hb) hs
  rw [now_grew g, h3]
  rfl
/-! ### A flush -/
theorem keepL_full {K : List (Int × Sec)} (h : Nd K) (x : Wr) (j : Int) : kv (keepL K x 32) j = if j = x.pos then x.b else kv K j := by
  rw [keepL_kv h, overS_full]
theorem foldK_nd : ∀ (l : List Wr) (K : List (Int × Sec)), Nd K → Nd (l.foldl (fun K x => keepL K x 32) K)
  | [], _, h => h
  | x :: l, K, h => foldK_nd l _ (keepL_nd h _ _)
theorem foldK_kv : ∀ (l : List Wr) (K : List (Int × Sec)), Nd K → ∀ j, kv (l.foldl (fun K x => keepL K x 32) K) j = (lastAt j l).getD (kv K j)
  | [], _, h, j => rfl
  | x :: l, K, h, j => by
    rw [List.foldl_cons, foldK_kv l _ (keepL_nd h _ _), keepL_full h]
    simp only [lastAt]
    cases lastAt j l with
    | some y => rfl
    | none =>
      by_cases hj : x.pos = j
      · rw [if_pos hj.symm, if_pos hj]; rfl
      · rw [if_neg (fun e => hj e.symm), if_neg hj]; rfl
end Go.Proofs.YtikgplhcadomcaaGreat

namespace Go.Proofs.YtikgplhcadomcaaGreat
open Go.RowKit
set_option linter.unusedVariables false
set_option linter.unusedSimpArgs false

theorem load_calm {D : Dv} (hc : Calm D) (h0 : D.cache = []) (hn : 2 ≤ D.n) : loadR D = loadK D.kept := by
  obtain ⟨a1, a2⟩ := calm_read hc h0 0 (by omega) (by omega)
  obtain ⟨b1, b2⟩ := calm_read hc h0 1 (by omega) (by omega)
  have hout : outAt D 2 = ld (kv D.kept 0).1 (kv D.kept 1).1 := by
    show step (step zeroSup (D.readB 0)) (D.readB 1) = _
    rw [a2, b2]
    rfl
  unfold loadR loadK
  rw [if_neg (fun q => q a1), if_neg (fun q => q b1), hout]
theorem write_calm {D : Dv} (hc : Calm D) {p : Int} {s : List Int} (h0 : 0 ≤ p) (h1 : p < D.n) (hs : isSec s) : (D.write p s).1 = 0 ∧ Grew D (D.write p s).2 [⟨p, ⟨s, hs⟩⟩] ∧ Calm (D.write p s).2 := by
  have hc2 := (calm_write hc p s).1
  rcases write_grew (D := D) h0 h1 hs with ⟨e, g⟩ | ⟨_, _, d⟩
  · exact ⟨e, g, hc2⟩
  · rw [hc2.1] at d
    cases d
theorem calm_fl {D : Dv} (hc : Calm D) : D.flush.2.kept = D.cache.foldl (fun K x => keepL K x 32) D.kept := by
  unfold Dv.flush
  rw [calm_act hc]
  rfl
theorem sup_range (s : Sup) : 0 ≤ s.epoch % 2 ∧ s.epoch % 2 < 2 := by omega
theorem calm_saveR {D : Dv} (hc : Calm D) (hn : 2 ≤ D.n) (s : Sup) : (saveR D s).1 = 0 ∧ Calm (saveR D s).2 ∧ (saveR D s).2.cache = [] ∧ (saveR D s).2.n = D.n ∧ (saveR D s).2.kept = keepL (D.cache.foldl (fun K x => keepL K x 32) D.kept) (wrOf s) 32 := by
  have hs : isSec (put s) := ⟨put_len s, put_byte s⟩
  have hr := sup_range s
  obtain ⟨f1, f2, f3, f4⟩ := calm_flush hc
  have fk := calm_fl hc
  unfold saveR
  rw [if_neg (by rw [f1]; simp)]
  obtain ⟨w1, g, hw⟩ := write_calm f2 (p := s.epoch % 2) hr.1 (by rw [f4]; omega) hs
  rw [if_neg (by rw [w1]; simp)]
  obtain ⟨k1, k2, k3, k4⟩ := calm_flush hw
  refine ⟨k1, k2, k3, by rw [k4, g.n, f4], ?_⟩
  rw [calm_fl hw, g.cache, f3, g.kept, fk]
  rfl

/-! ### Format -/
def sup1 : Sup := ⟨1, 0, 0, 0⟩
theorem sup1_ok : sup1.ok := by unfold Sup.ok sup1; decide
/-- A device that was formatted, and nothing else. -/
structure Formed (D : Dv) : Prop where
  calm : Calm D
  cache : D.cache = []
  nd : Nd D.kept
  k0 : kv D.kept 0 = sec0
  k1 : kv D.kept 1 = supSec sup1
theorem format_ok {D : Dv} (hc : Calm D) (h0 : D.cache = []) (hk : D.kept = []) (hn : 8 ≤ D.n) : (formatR D).1 = 0 ∧ Formed (formatR D).2 ∧ (formatR D).2.n = D.n := by
  have hs : isSec sec0.1 := sec0.2
  unfold formatR
  rw [if_neg (by omega)]
  obtain ⟨w1, g1, c1⟩ := write_calm hc (p := 0) (by omega) (by omega) hs
  rw [if_neg (by rw [w1]; simp)]
  obtain ⟨w2, g2, c2⟩ := write_calm c1 (p := 1) (by omega) (by rw [g1.n]; omega) hs
  rw [if_neg (by rw [w2]; simp)]
  obtain ⟨s1, s2, s3, s4, s5⟩ := calm_saveR c2 (by rw [g2.n, g1.n]; omega) sup1
  have hnd : Nd ((((D.write 0 sec0.1).2.write 1 sec0.1).2).cache.foldl (fun K x => keepL K x 32) (((D.write 0 sec0.1).2.write 1 sec0.1).2).kept) := foldK_nd _ _ (by rw [g2.kept, g1.kept, hk]; exact List.nodup_nil)
  refine ⟨s1, ⟨s2, s3, ?_, ?_, ?_⟩, by rw [show (⟨1, 0, 0, 0⟩ : Sup) = sup1 from rfl, s4, g2.n, g1.n]⟩
  all_goals rw [show (⟨1, 0, 0, 0⟩ : Sup) = sup1 from rfl, s5]
  · exact keepL_nd hnd _ _
  · rw [keepL_full hnd, if_neg (by show ¬ (0 : Int) = 1 % 2; decide), foldK_kv _ _ (by rw [g2.kept, g1.kept, hk]; exact List.nodup_nil), g2.cache, g1.cache, h0, g2.kept, g1.kept, hk]
    rfl
  · rw [keepL_full hnd, if_pos (by show (1 : Int) = 1 % 2; decide)]
    rfl
def xs1 : Nat → Sup := fun _ => sup1
theorem formed_saved {D : Dv} (h : Formed D) : Saved xs1 1 D.kept := ⟨h.nd, h.k1, h.k0⟩
theorem formed_load {D : Dv} (h : Formed D) : loadK D.kept = (sup1, 0) := by
  have hg : Good xs1 1 := fun j hj => by
    have : j = 0 := by omega
    subst this
    exact ⟨sup1_ok, rfl⟩
  rw [load_saved hg (formed_saved h)]
  rfl
theorem formed_open {D : Dv} (h : Formed D) (hn : 8 ≤ D.n) : openR D = (some (⟨sup1, Fr.new 1 (D.n / 4), [], [], false⟩, []), 0) := by
  unfold openR
  rw [load_calm h.calm h.cache (by omega), formed_load h]
  rfl
theorem new_calm (n : Int) : Calm (Dv.new n) ∧ (Dv.new n).cache = [] ∧ (Dv.new n).kept = [] ∧ (Dv.new n).n = (min (max n 0) 65536).toNat := ⟨⟨rfl, rfl, rfl⟩, rfl, rfl, rfl⟩
end Go.Proofs.YtikgplhcadomcaaGreat

namespace Go.Proofs.YtikgplhcadomcaaGreat
open Go.RowKit
set_option linter.unusedVariables false
set_option linter.unusedSimpArgs false

/-- Of a hundred pages those from k on are free. -/
def one (k : Int) : Fr := ⟨1, 100, [⟨k, 100 - k⟩]⟩
def endOf (k : Int) : List (List Int) → Int
  | [] => k
  | x :: l => endOf (k + needP x.length) l
theorem endOf_app (x : List Int) : ∀ (l : List (List Int)) (k : Int), endOf k (l ++ [x]) = endOf k l + needP x.length
  | [], k => rfl
  | y :: l, k => endOf_app x l _
end Go.Proofs.YtikgplhcadomcaaGreat

namespace Go.Proofs.YtikgplhcadomcaaGreat
open Go.RowKit
set_option linter.unusedVariables false
set_option linter.unusedSimpArgs false

/-- The pages from k to e are free. -/
structure Left (D : Fr) (k e : Int) : Prop where
  ok : D.Ok
  lo : D.lo = 1
  n : D.n = 100
  free : ∀ j, k ≤ j → j < e → inL D.l j
end Go.Proofs.YtikgplhcadomcaaGreat

namespace Go.Proofs.YtikgplhcadomcaaGreat
open Go.RowKit
set_option linter.unusedVariables false
set_option linter.unusedSimpArgs false

def Pg.cells (P : Pg) (g f : Nat) (vp vd : Value) : Array Value := #[.pointer (some ⟨g, 0, none⟩), .int .u64 P.s.epoch, .int .u32 P.s.start, .int .u32 P.s.pages, .int .u32 P.s.size, .pointer (some ⟨f, 0, none⟩), vp, vd, .bool P.ended]
/-- Which blocks are whose. -/
structure PgSet (n p : Nat) (F FD FF : Nat → Prop) (vp vd : Value) : Prop where
  fd : ∀ i, FD i → F i ∧ ¬ FF i ∧ i ≠ p
  ff : ∀ i, FF i → F i ∧ ¬ FD i ∧ i ≠ p
  fp : F p
  vp : ∀ k, vp.ownBlock = some k → F k ∧ ¬ FD k ∧ ¬ FF k ∧ k ≠ p ∧ vd.ownBlock ≠ some k
  vd : ∀ k, vd.ownBlock = some k → F k ∧ ¬ FD k ∧ ¬ FF k ∧ k ≠ p
  lt : ∀ i, F i → i < n
abbrev OwnS (w : World) (v : Value) (l : List Span) : Prop := Own Span.enc 2 160 0 w v l
/-- The pager P lies at block p, its device D at block g; all their blocks are in F. -/
def PgAt (w : World) (p g : Nat) (F : Nat → Prop) (D : Dv) (P : Pg) : Prop :=
  ∃ (f : Nat) (vp vd : Value) (FD FF : Nat → Prop), w.heap[p]? = some (.cells (P.cells g f vp vd) 211 (0, 0)) ∧ DevAt w g FD D ∧ FrAt w f FF P.fr ∧ OwnS w vp P.put ∧ OwnS w vd P.drop ∧ PgSet w.heap.size p F FD FF vp vd ∧ P.s.ok
/-- What a call made of the pager at p and its device at g. -/
def PgDid (F : Nat → Prop) (w w' : World) (p g : Nat) (D : Dv) (P : Pg) : Prop := ∃ F', PgAt w' p g F' D P ∧ Chg F w w' ∧ ∀ i, F' i → F i ∨ w.heap.size ≤ i

section
variable {w w' w'' : World} {p g : Nat} {F G : Nat → Prop} {D D' : Dv} {P P' : Pg}
theorem PgAt.lt (h : PgAt w p g F D P) : ∀ i, F i → i < w.heap.size := by obtain ⟨f, vp, vd, FD, FF, _, _, _, _, _, s, _⟩ := h; exact s.lt
theorem PgAt.fp (h : PgAt w p g F D P) : F p := by obtain ⟨f, vp, vd, FD, FF, _, _, _, _, _, s, _⟩ := h; exact s.fp
theorem PgAt.plt (h : PgAt w p g F D P) : p < w.heap.size := h.lt p h.fp
theorem PgAt.sok (h : PgAt w p g F D P) : P.s.ok := by obtain ⟨f, vp, vd, FD, FF, _, _, _, _, _, s, k⟩ := h; exact k
theorem PgAt.frok (h : PgAt w p g F D P) : P.fr.Ok := by obtain ⟨f, vp, vd, FD, FF, _, _, c, _, _, s, k⟩ := h; exact c.okD
theorem PgAt.fg (h : PgAt w p g F D P) : F g := by obtain ⟨f, vp, vd, FD, FF, _, b, c, _, _, s, k⟩ := h; exact (s.fd g b.fg).1
theorem PgAt.glt (h : PgAt w p g F D P) : g < w.heap.size := h.lt g h.fg
theorem PgAt.chg (h : PgAt w p g F D P) (hc : Chg G w w') (hG : ∀ i, F i → ¬ G i) : PgAt w' p g F D P := by
  obtain ⟨f, vp, vd, FD, FF, a, b, c, d, e, s, k⟩ := h
  exact ⟨f, vp, vd, FD, FF, hc.blk a (hG _ s.fp), b.chg hc (fun i hi => hG _ (s.fd i hi).1), c.chg hc (fun i hi => hG _ (s.ff i hi).1), d.chg hc (fun i hi => hG _ (s.vp i hi).1), e.chg hc (fun i hi => hG _ (s.vd i hi).1), ⟨s.fd, s.ff, s.fp, s.vp, s.vd, fun i hi => Nat.lt_of_lt_of_le (s.lt i hi) hc.size⟩, k⟩
theorem PgAt.below (h : PgAt w p g F D P) (hb : Below w.heap.size w w') : PgAt w' p g F D P := h.chg (Below.chg hb fun _ => False) (fun _ _ h => h)
theorem PgAt.alloc (h : PgAt w p g F D P) (o : Obj) : PgAt (w.alloc o) p g F D P := h.below ((Below.refl _ w).alloc (Nat.le_refl _) o)
theorem PgAt.drew (h : PgAt w p g F D P) : PgAt w.drew p g F D P := h.below (Below.refl _ w).drew
theorem PgDid.refl (h : PgAt w p g F D P) : PgDid F w w p g D P := ⟨F, h, Chg.refl _ _, fun i hi => .inl hi⟩
theorem PgDid.of_below (h : PgAt w p g F D P) (hb : Below w.heap.size w w') : PgDid F w w' p g D P := ⟨F, h.below hb, Below.chg hb F, fun i hi => .inl hi⟩
theorem PgDid.after {F1 : Nat → Prop} (k : PgDid F1 w' w'' p g D' P') (c1 : Chg F w w') (s1 : ∀ i, F1 i → F i ∨ w.heap.size ≤ i) : PgDid F w w'' p g D' P' := by
  obtain ⟨F2, h2, c2, s2⟩ := k
  refine ⟨F2, h2, c1.trans c2 (fun i hi hf => ?_), fun i hi => ?_⟩
  · rcases s1 i hf with e | e
    · exact e
    · omega
  · rcases s2 i hi with e | e
    · exact s1 i e
    · exact .inr (Nat.le_trans c1.size e)
theorem PgDid.behind {F1 : Nat → Prop} (k : PgDid F1 w' w'' p g D' P') (hb : Below w.heap.size w w') (s1 : ∀ i, F1 i → F i) : PgDid F w w'' p g D' P' := k.after (Below.chg hb F) (fun i hi => .inl (s1 i hi))
/-- Then only new blocks. -/
theorem PgDid.then_below (k : PgDid F w w' p g D P) (hb : Below w'.heap.size w' w'') : PgDid F w w'' p g D P := by
  obtain ⟨F2, h2, c2, s2⟩ := k
  exact PgDid.after (PgDid.of_below h2 hb) c2 s2
/-- The pager opened, for a walk. -/
theorem PgAt.open (h : PgAt w p g F D P) : ∃ (f : Nat) (A B : Option Addr) (a b : Nat) (FD FF : Nat → Prop),
    w.cell? ⟨p, 0, none⟩ = some (.pointer (some ⟨g, 0, none⟩)) ∧ w.cell? ⟨p, 1, none⟩ = some (.int .u64 P.s.epoch) ∧ w.cell? ⟨p, 2, none⟩ = some (.int .u32 P.s.start) ∧ w.cell? ⟨p, 3, none⟩ = some (.int .u32 P.s.pages) ∧ w.cell? ⟨p, 4, none⟩ = some (.int .u32 P.s.size) ∧
    w.cell? ⟨p, 5, none⟩ = some (.pointer (some ⟨f, 0, none⟩)) ∧ w.cell? ⟨p, 6, none⟩ = some (.slice A P.put.length a) ∧ w.cell? ⟨p, 7, none⟩ = some (.slice B P.drop.length b) ∧ w.cell? ⟨p, 8, none⟩ = some (.bool P.ended) ∧ (∀ i, w.frozen? ⟨p, i, none⟩ = false) ∧
    DevAt w g FD D ∧ FrAt w f FF P.fr ∧ OwnS w (.slice A P.put.length a) P.put ∧ OwnS w (.slice B P.drop.length b) P.drop ∧ PgSet w.heap.size p F FD FF (.slice A P.put.length a) (.slice B P.drop.length b) ∧
    w.heap[p]? = some (.cells (P.cells g f (.slice A P.put.length a) (.slice B P.drop.length b)) 211 (0, 0)) ∧
    (∀ w' D', Did FD w w' g D' → PgDid F w w' p g D' P) ∧ (∀ w' fr', FrDid FF w w' f fr' → PgDid F w w' p g D { P with fr := fr' }) := by
  obtain ⟨f, vp, vd, FD, FF, hb, hd, hf, op, od, s, k⟩ := h
  obtain ⟨A, a, rfl, a1, a2, a3, a4⟩ := op.rd Span.ok
  obtain ⟨B, b, rfl, b1, b2, b3, b4⟩ := od.rd Span.ok
  refine ⟨f, A, B, a, b, FD, FF, ?_, ?_, ?_, ?_, ?_, ?_, ?_, ?_, ?_, fun i => blk_free hb i, hd, hf, op, od, s, hb, fun w' D' hD => ?_, fun w' fr' hD => ?_⟩
  iterate 9 (rw [blk_cell hb]; rfl)
  · obtain ⟨FD', d1, c1, s1⟩ := hD
    have old : ∀ i, F i → ¬ FD i → ¬ FD' i := fun i hi hn hd => (s1 i hd).elim hn (fun q => by have := s.lt i hi; omega)
    refine ⟨fun i => F i ∨ (w.heap.size ≤ i ∧ i < w'.heap.size), ⟨f, _, _, FD', FF, c1.blk hb (fun q => (s.fd _ q).2.2 rfl), d1, hf.chg c1 (fun i hi => (s.ff i hi).2.1), op.chg c1 (fun i hi => (s.vp i hi).2.1), od.chg c1 (fun i hi => (s.vd i hi).2.1), ?_, k⟩, c1.mono (fun i _ hi => (s.fd i hi).1), fun i hi => hi.imp_right And.left⟩
    refine ⟨fun i hi => ⟨?_, ?_, ?_⟩, fun i hi => ⟨.inl (s.ff i hi).1, old i (s.ff i hi).1 (s.ff i hi).2.1, (s.ff i hi).2.2⟩, .inl s.fp, fun i hi => ⟨.inl (s.vp i hi).1, old i (s.vp i hi).1 (s.vp i hi).2.1, (s.vp i hi).2.2⟩, fun i hi => ⟨.inl (s.vd i hi).1, old i (s.vd i hi).1 (s.vd i hi).2.1, (s.vd i hi).2.2⟩, ?_⟩
    · exact (s1 i hi).imp (fun q => (s.fd i q).1) (fun q => ⟨q, d1.lt i hi⟩)
    · exact fun q => old i (s.ff i q).1 (s.ff i q).2.1 hi
    · exact fun q => old i (by rw [q]; exact s.fp) (fun z => (s.fd i z).2.2 q) hi
    · rintro i (hi | hi)
      · exact Nat.lt_of_lt_of_le (s.lt i hi) c1.size
      · exact hi.2
  · obtain ⟨FF', d1, c1, s1⟩ := hD
    have old : ∀ i, F i → ¬ FF i → ¬ FF' i := fun i hi hn hd => (s1 i hd).elim hn (fun q => by have := s.lt i hi; omega)
    refine ⟨fun i => F i ∨ (w.heap.size ≤ i ∧ i < w'.heap.size), ⟨f, _, _, FD, FF', c1.blk hb (fun q => (s.ff _ q).2.2 rfl), hd.chg c1 (fun i hi => (s.fd i hi).2.1), d1, op.chg c1 (fun i hi => (s.vp i hi).2.2.1), od.chg c1 (fun i hi => (s.vd i hi).2.2.1), ?_, k⟩, c1.mono (fun i _ hi => (s.ff i hi).1), fun i hi => hi.imp_right And.left⟩
    refine ⟨fun i hi => ⟨.inl (s.fd i hi).1, old i (s.fd i hi).1 (s.fd i hi).2.1, (s.fd i hi).2.2⟩, fun i hi => ⟨?_, ?_, ?_⟩, .inl s.fp, fun i hi => ⟨.inl (s.vp i hi).1, (s.vp i hi).2.1, old i (s.vp i hi).1 (s.vp i hi).2.2.1, (s.vp i hi).2.2.2⟩, fun i hi => ⟨.inl (s.vd i hi).1, (s.vd i hi).2.1, old i (s.vd i hi).1 (s.vd i hi).2.2.1, (s.vd i hi).2.2.2⟩, ?_⟩
    · exact (s1 i hi).imp (fun q => (s.ff i q).1) (fun q => ⟨q, d1.lt i hi⟩)
    · exact fun q => old i (s.fd i q).1 (s.fd i q).2.1 hi
    · exact fun q => old i (by rw [q]; exact s.fp) (fun z => (s.ff i z).2.2 q) hi
    · rintro i (hi | hi)
      · exact Nat.lt_of_lt_of_le (s.lt i hi) c1.size
      · exact hi.2
/-- Its own cells told anew, the rows as they were, or nil both. -/
theorem PgAt.flat (h : PgAt w p g F D P) (hg : w.grownBy w' (some p)) (hfr : P'.fr = P.fr) (hk : P'.s.ok)
    (hb : ∀ f vp vd, w.heap[p]? = some (.cells (P.cells g f vp vd) 211 (0, 0)) → (P'.put = P.put ∧ P'.drop = P.drop ∧ w'.heap[p]? = some (.cells (P'.cells g f vp vd) 211 (0, 0))) ∨ (P'.put = [] ∧ P'.drop = [] ∧ w'.heap[p]? = some (.cells (P'.cells g f (.slice none 0 0) (.slice none 0 0)) 211 (0, 0)))) : PgDid F w w' p g D P' := by
  obtain ⟨f, vp, vd, FD, FF, h0, hd, hf, op, od, s, k⟩ := h
  have hc : Chg (fun i => i = p) w w' := Chg.grown hg rfl
  have hsz := hg.size
  refine ⟨F, ?_, hc.mono (fun i _ hi => by subst hi; exact s.fp), fun i hi => .inl hi⟩
  rcases hb f vp vd h0 with ⟨e1, e2, e3⟩ | ⟨e1, e2, e3⟩
  · refine ⟨f, vp, vd, FD, FF, e3, hd.chg hc (fun i hi => (s.fd i hi).2.2), ?_, ?_, ?_, ⟨s.fd, s.ff, s.fp, s.vp, s.vd, fun i hi => Nat.lt_of_lt_of_le (s.lt i hi) hsz⟩, hk⟩
    · rw [hfr]; exact hf.chg hc (fun i hi => (s.ff i hi).2.2)
    · rw [e1]; exact op.chg hc (fun i hi => (s.vp i hi).2.2.2.1)
    · rw [e2]; exact od.chg hc (fun i hi => (s.vd i hi).2.2.2)
  · refine ⟨f, _, _, FD, FF, e3, hd.chg hc (fun i hi => (s.fd i hi).2.2), ?_, ?_, ?_, ⟨s.fd, s.ff, s.fp, (fun i hi => by cases hi), (fun i hi => by cases hi), fun i hi => Nat.lt_of_lt_of_le (s.lt i hi) hsz⟩, hk⟩
    · rw [hfr]; exact hf.chg hc (fun i hi => (s.ff i hi).2.2)
    · rw [e1]; exact Own.nil
    · rw [e2]; exact Own.nil
/-- The row of what was put, told anew: a row that grew out of the old one. -/
theorem PgAt.puts (h : PgAt w p g F D P) {f : Nat} {vp vd v : Value} (h0 : w.heap[p]? = some (.cells (P.cells g f vp vd) 211 (0, 0))) {w1 : World} (hg : w.grownBy w1 vp.ownBlock) {l : List Span} (ho : OwnS w1 v l) (hv : ∀ k, v.ownBlock = some k → vp.ownBlock = some k ∨ w.heap.size ≤ k) :
    PgDid F w (w1.setCell ⟨p, 6, none⟩ v) p g D { P with put := l } := by
  obtain ⟨f', vp', vd', FD, FF, h1, hd, hf, op, od, s, k⟩ := h
  rw [h0] at h1
  have he := Obj.cells.inj (Option.some.inj h1)
  have he := he.1
  unfold Pg.cells at he
  simp only [Array.mk.injEq, List.cons.injEq, Value.pointer.injEq, Option.some.injEq, Addr.mk.injEq, true_and, and_true] at he
  obtain ⟨rfl, rfl, rfl⟩ := he
  have hpv : ∀ k, v.ownBlock = some k → k ≠ p := fun k hk => (hv k hk).elim (fun q => (s.vp k q).2.2.2.1) (fun q => by have := s.lt p s.fp; omega)
  have hc1 : Chg (fun i => vp.ownBlock = some i) w w1 := Chg.grownO hg (fun i hi => hi)
  have hc2 : Chg (fun i => vp.ownBlock = some i ∨ i = p) w (w1.setCell ⟨p, 6, none⟩ v) := (hc1.mono (G := fun i => vp.ownBlock = some i ∨ i = p) (fun i _ hi => .inl hi)).trans (Chg.set (F := fun i => i = p) w1 v rfl) (fun i _ hi => .inr hi)
  have hsz := hc2.size
  have hlt := s.lt
  have hlv : ∀ i, v.ownBlock = some i → i < w1.heap.size := fun i hi => (ho.lt i hi).2
  have hs1 : (w1.setCell ⟨p, 6, none⟩ v).heap.size = w1.heap.size := by simp [World.setCell]
  refine ⟨fun i => F i ∨ (w.heap.size ≤ i ∧ i < w1.heap.size), ⟨f, v, vd, FD, FF, ?_, hd.chg hc2 ?_, hf.chg hc2 ?_, ho.far (fun q => hpv _ q rfl) _, od.chg hc2 ?_, ⟨?_, ?_, ?_, ?_, ?_, ?_⟩, k⟩, hc2.mono ?_, fun i hi => hi.imp_right And.left⟩
  · exact blk_set' (hc1.blk h0 (fun q => (s.vp _ q).2.2.2.1 rfl)) 6 v rfl
  · rintro i hi (q | q)
    · exact (s.vp i q).2.1 hi
    · exact (s.fd i hi).2.2 q
  · rintro i hi (q | q)
    · exact (s.vp i q).2.2.1 hi
    · exact (s.ff i hi).2.2 q
  · rintro i hi (q | q)
    · exact (s.vp i q).2.2.2.2 hi
    · exact (s.vd i hi).2.2.2 q
  · exact fun i hi => ⟨.inl (s.fd i hi).1, (s.fd i hi).2⟩
  · exact fun i hi => ⟨.inl (s.ff i hi).1, (s.ff i hi).2⟩
  · exact .inl s.fp
  · intro i hi
    rcases hv i hi with q | q
    · exact ⟨.inl (s.vp i q).1, (s.vp i q).2⟩
    · exact ⟨.inr ⟨q, hlv i hi⟩, fun z => by have := hlt i (s.fd i z).1; omega, fun z => by have := hlt i (s.ff i z).1; omega, hpv i hi, fun z => by have := hlt i (s.vd i z).1; omega⟩
  · exact fun i hi => ⟨.inl (s.vd i hi).1, (s.vd i hi).2⟩
  · rintro i (hi | hi)
    · exact Nat.lt_of_lt_of_le (hlt i hi) hsz
    · rw [hs1]; exact hi.2
  · rintro i _ (q | q)
    · exact (s.vp i q).1
    · rw [q]; exact s.fp
end
end Go.Proofs.YtikgplhcadomcaaGreat
