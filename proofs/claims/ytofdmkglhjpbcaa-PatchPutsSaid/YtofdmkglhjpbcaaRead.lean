/- pack.Reader, ref01.Reader -/
import Derived.Test.YtofdmkglhjpbcaaLebRef
import Derived.Test.YtofdmkglhjpbcaaPack
namespace Go.Proofs.Ytofdmkglhjpbcaa
open Go.RowKit
set_option linter.unusedVariables false
set_option linter.unusedSimpArgs false

/-! ### Plain: what a reader takes -/
def rdNum (lim : Nat) (bs : List Int) (bad : Bool) : Nat × List Int × Bool :=
  if bad then (0, [], true) else match lebP bs with
    | none => (0, [], true)
    | some (n, k) => if lim < n then (0, [], true) else (n, bs.drop k, false)
def rdText (lim : Nat) (bs : List Int) (bad : Bool) : Str × List Int × Bool :=
  if (rdNum lim bs bad).2.1.length < (rdNum lim bs bad).1 ∨ (rdNum lim bs bad).2.2 = true then (⟨#[]⟩, [], true)
  else (strOfNums ((rdNum lim bs bad).2.1.take (rdNum lim bs bad).1), (rdNum lim bs bad).2.1.drop (rdNum lim bs bad).1, false)
def rdFlag (bs : List Int) (bad : Bool) : Bool × List Int × Bool := (decide ((rdNum 1 bs bad).1 = 1), (rdNum 1 bs bad).2)
theorem lebGo_size : ∀ (bs : List Int) (i acc n k : Nat), bytesL bs → acc < 128 ^ i → lebGo i acc bs = some (n, k) → k ≤ i + bs.length ∧ n < 18446744073709551616 ∧ bs ≠ [] := by
  intro bs
  induction bs with
  | nil => intro i acc n k _ _ h; simp [lebGo] at h
  | cons x bs ih =>
    intro i acc n k hb ha h
    obtain ⟨x0, x1⟩ := hb x (by simp)
    refine ⟨?_, ?_, by simp⟩ <;>
    · by_cases hbad : 10 ≤ i ∨ (i = 9 ∧ 1 < x)
      · rw [lebGo_bad hbad] at h; cases h
      · by_cases hx : x < 128
        · by_cases hz : x = 0 ∧ 0 < i
          · rw [lebGo_zero hbad hx hz] at h; cases h
          · rw [lebGo_end hbad hx hz] at h
            have := acc_u64 (x := x) x0 ha hbad
            cases h
            simp
            try omega
        · rw [lebGo_on hbad hx] at h
          have := ih (i + 1) _ n k (fun y hy => hb y (by simp [hy])) (acc_next ha) h
          simp
          omega
theorem lebP_size {bs : List Int} {n k : Nat} (hb : bytesL bs) (h : lebP bs = some (n, k)) : k ≤ bs.length ∧ n < 18446744073709551616 ∧ bs ≠ [] := by
  have := lebGo_size bs 0 0 n k hb (by simp) h
  simpa using this
theorem bytesL_drop {xs : List Int} (h : bytesL xs) (k : Nat) : bytesL (xs.drop k) := fun x hx => h x (List.mem_of_mem_drop hx)
theorem rdNum_bad (lim : Nat) (bs : List Int) : rdNum lim bs true = (0, [], true) := by simp [rdNum]
theorem rdNum_none {lim : Nat} {bs : List Int} (h : lebP bs = none) (bad : Bool) : rdNum lim bs bad = (0, [], true) := by cases bad <;> simp [rdNum, h]
theorem rdNum_big {lim : Nat} {bs : List Int} {n k : Nat} (h : lebP bs = some (n, k)) (hl : lim < n) (bad : Bool) : rdNum lim bs bad = (0, [], true) := by cases bad <;> simp [rdNum, h, hl]
theorem rdNum_some {lim : Nat} {bs : List Int} {n k : Nat} (h : lebP bs = some (n, k)) (hl : n ≤ lim) : rdNum lim bs false = (n, bs.drop k, false) := by simp [rdNum, h, Nat.not_lt.2 hl]
theorem rdText_bad {lim : Nat} {bs bs1 : List Int} {bad bad1 : Bool} {n : Nat} (h : rdNum lim bs bad = (n, bs1, bad1)) (hb : bs1.length < n ∨ bad1 = true) : rdText lim bs bad = (⟨#[]⟩, [], true) := by
  unfold rdText; rw [h, if_pos hb]
theorem rdText_ok {lim : Nat} {bs bs1 : List Int} {bad bad1 : Bool} {n : Nat} (h : rdNum lim bs bad = (n, bs1, bad1)) (hb : n ≤ bs1.length) (h2 : bad1 = false) : rdText lim bs bad = (strOfNums (bs1.take n), bs1.drop n, false) := by
  unfold rdText; rw [h, if_neg (by subst h2; simp; omega)]
theorem rdNum_true {lim : Nat} {bs bs1 : List Int} {bad : Bool} {n : Nat} (h : rdNum lim bs bad = (n, bs1, true)) : n = 0 := by
  unfold rdNum at h
  split at h
  · cases h; rfl
  · split at h
    · cases h; rfl
    · split at h
      · cases h; rfl
      · cases h
theorem rdNum_le (lim : Nat) (bs : List Int) (bad : Bool) : (rdNum lim bs bad).1 ≤ lim ∧ (rdNum lim bs bad).2.1.length ≤ bs.length := by
  unfold rdNum
  cases bad
  · simp only [Bool.false_eq_true, if_false]
    split
    · simp
    · split
      · simp
      · simp; omega
  · simp

theorem lebOf_some {w : World} {A : Option Addr} {c : Nat} {bs : List Int} (hl : bs.length ≤ 1000000) (hb : bytesL bs) (h : Rd u8e 1 w A bs) {n k : Nat} (e : lebP bs = some (n, k)) :
    Calls Try.prog 90 #[.slice A bs.length c] w fun e w' => e = .returned (.tuple #[.int .u64 (n : Int), .int .i64 (k : Int), .int .i64 0]) ∧ w = w' := by
  have := lebOf_calls w A c bs hl hb h
  rw [e] at this
  exact this
theorem lebOf_none {w : World} {A : Option Addr} {c : Nat} {bs : List Int} (hl : bs.length ≤ 1000000) (hb : bytesL bs) (h : Rd u8e 1 w A bs) (e : lebP bs = none) :
    Calls Try.prog 90 #[.slice A bs.length c] w fun e w' => e = .returned (.tuple #[.int .u64 0, .int .i64 0, .int .i64 20]) ∧ w = w' := by
  have := lebOf_calls w A c bs hl hb h
  rw [e] at this
  exact this
theorem rLeb_some {w : World} {A : Option Addr} {c : Nat} {bs : List Int} (hl : bs.length ≤ 1000000) (hc : bs.length ≤ c) (hb : bytesL bs) (h : Rd u8e 1 w A bs) {n k : Nat} (e : lebP bs = some (n, k)) :
    Calls Try.prog 93 #[.slice A bs.length c] w fun e w' => e = .returned (.tuple #[.int .u64 (n : Int), .int .i64 (k : Int), .int .i64 0]) ∧ Below w.heap.size w w' := by
  have := rLeb_calls w A c bs hl hc hb h
  rw [e] at this
  exact this
theorem rLeb_none {w : World} {A : Option Addr} {c : Nat} {bs : List Int} (hl : bs.length ≤ 1000000) (hc : bs.length ≤ c) (hb : bytesL bs) (h : Rd u8e 1 w A bs) (e : lebP bs = none) :
    Calls Try.prog 93 #[.slice A bs.length c] w fun e w' => e = .returned (.tuple #[.int .u64 0, .int .i64 0, .int .i64 20]) ∧ Below w.heap.size w w' := by
  have := rLeb_calls w A c bs hl hc hb h
  rw [e] at this
  exact this

/-! ### A reader in memory: at block g, its bytes and all else that it needs below B -/
def RAt (t : TypeId) (pl : Prop) (B g : Nat) (W : World) (bs : List Int) (bad : Bool) : Prop :=
  g < B ∧ B ≤ W.heap.size ∧ bytesL bs ∧ bs.length ≤ 1000000 ∧ ∃ A c, W.heap[g]? = some (.cells #[.slice A bs.length c, .bool bad] t (0, 0)) ∧ bs.length ≤ c ∧ Rd u8e 1 W A bs ∧
    (bs ≠ [] → ∀ a, A = some a → a.block ≠ g ∧ a.block < B) ∧ (pl → A = none ∨ ∃ b off, A = some ⟨b, off, none⟩) ∧ (bad = true → bs = [] ∧ A = none)
section
variable {t : TypeId} {pl : Prop} {B g : Nat} {W W' : World} {bs : List Int} {bad : Bool}
theorem RAt.grown {g' : Nat} (h : RAt t pl B g W bs bad) (hg : W.grownBy W' (some g')) (hB : B ≤ g') : RAt t pl B g W' bs bad := by
  obtain ⟨h1, h2, h3, h4, A, c, k1, k2, k3, k4, k5, k6⟩ := h
  refine ⟨h1, Nat.le_trans h2 hg.size, h3, h4, A, c, (hg.block g (blk_lt k1) (fun e => by injection e; omega)).trans k1, k2, k3.grown' hg (fun hn a ha e => ?_), k4, k5, k6⟩
  have := (k4 hn a ha).2
  injection e
  omega
theorem RAt.below (h : RAt t pl B g W bs bad) (hb : Below B W W') : RAt t pl B g W' bs bad := by
  obtain ⟨h1, h2, h3, h4, A, c, k1, k2, k3, k4, k5, k6⟩ := h
  refine ⟨h1, Nat.le_trans h2 hb.size, h3, h4, A, c, (hb.block g h1).trans k1, k2, ?_, k4, k5, k6⟩
  rcases k3 with k3 | ⟨b, off, rfl, hlt, hc⟩
  · exact .inl k3
  · by_cases hn : bs = []
    · exact .inl hn
    · refine .inr ⟨b, off, rfl, Nat.lt_of_lt_of_le hlt hb.size, fun i x hx j v hv => ?_⟩
      rw [hb.cell (p := ⟨b, off + i * 1 + j, none⟩) (k4 hn _ rfl).2]
      exact hc i x hx j v hv
theorem RAt.fails {u v : Value} (h1 : g < B) (h2 : B ≤ W.heap.size) (h : W.heap[g]? = some (.cells #[u, v] t (0, 0))) : RAt t True B g ((W.setCell ⟨g, 0, none⟩ (.slice none 0 0)).setCell ⟨g, 1, none⟩ (.bool true)) [] true := by
  refine ⟨h1, by simpa using h2, (fun x hx => by cases hx), by simp, none, 0, blk_set' (blk_set' h 0 (.slice none 0 0) rfl) 1 (.bool true) rfl, by simp, .inl rfl, fun hn => absurd rfl hn, fun _ => .inl rfl, fun _ => ⟨rfl, rfl⟩⟩
theorem fails_grown (W : World) (g : Nat) (u v : Value) : W.grownBy ((W.setCell ⟨g, 0, none⟩ u).setCell ⟨g, 1, none⟩ v) (some g) := grown_trans (grown_set _ _ _ _) (grown_set _ _ _ _)
theorem RAt.cut {b off c k off' n' c' : Nat} (h1 : g < B) (h2 : B ≤ W.heap.size) (h3 : bytesL bs) (h4 : bs.length ≤ 1000000) (h : W.heap[g]? = some (.cells #[.slice (some ⟨b, off, none⟩) bs.length c, .bool false] t (0, 0)))
    (hc : bs.length ≤ c) (hr : Rd u8e 1 W (some ⟨b, off, none⟩) bs) (hn : bs ≠ [] → b ≠ g ∧ b < B) (hk : k ≤ bs.length) (hn' : n' = bs.length - k) (ho : k < bs.length → off' = off + k) (hc' : n' ≤ c') :
    RAt t True B g (W.setCell ⟨g, 0, none⟩ (.slice (some ⟨b, off', none⟩) n' c')) (bs.drop k) false := by
  refine ⟨h1, by simpa using h2, bytesL_drop h3 k, by simp; omega, some ⟨b, off', none⟩, c', ?_, by simp; omega, ?_, ?_, fun _ => .inr ⟨b, off', rfl⟩, fun e => by cases e⟩
  · rw [List.length_drop, ← hn']
    exact blk_set' h 0 _ rfl
  · rcases hr with hr | ⟨b', off', e, hlt, hcc⟩
    · subst hr; exact .inl (by simp)
    · cases e
      refine .inr ⟨b, off', rfl, by simpa using hlt, fun i x hx j v hv => ?_⟩
      have hbs : bs ≠ [] := fun e => by subst e; simp at hx
      rw [World.cell?_of_block (w := W) (a := ⟨b, off' + i * 1 + j, none⟩) (Below.heap_setCell _ _ _ _ (hn hbs).1)]
      rw [List.getElem?_drop] at hx
      have := hcc (k + i) x hx j v hv
      have hki : k + i < bs.length := (List.getElem?_eq_some_iff.1 hx).1
      rw [← this]
      congr 2
      rw [ho (by omega)]
      omega
  · intro hd a ha
    cases ha
    exact hn (fun e => hd (by subst e; simp))
end

set_option maxRecDepth 100000 in
set_option maxHeartbeats 1000000 in
theorem prFail_calls (w : World) (g : Nat) (u v : Value) (h : w.heap[g]? = some (.cells #[u, v] 137 (0, 0))) :
    Calls Try.prog 91 #[.pointer (some ⟨g, 0, none⟩)] w fun e w' => e = .returned (.tuple #[]) ∧ w' = ((w.setCell ⟨g, 0, none⟩ (.slice none 0 0)).setCell ⟨g, 1, none⟩ (.bool true)) := by
  have c0 := blk_cell h 0
  have c1 := blk_cell h 1
  have f0 := blk_free h 0
  have f1 := blk_free h 1
  have hlt := blk_lt h
  clear h
  go_enter Try.func91, Try.ntmps91
  go_wp2
  go_end0
  exact ⟨rfl, rfl⟩

set_option maxRecDepth 100000 in
set_option maxHeartbeats 1000000 in
theorem rrFail_calls (w : World) (g : Nat) (u v : Value) (h : w.heap[g]? = some (.cells #[u, v] 109 (0, 0))) :
    Calls Try.prog 94 #[.pointer (some ⟨g, 0, none⟩)] w fun e w' => e = .returned (.tuple #[]) ∧ w' = ((w.setCell ⟨g, 0, none⟩ (.slice none 0 0)).setCell ⟨g, 1, none⟩ (.bool true)) := by
  have c0 := blk_cell h 0
  have c1 := blk_cell h 1
  have f0 := blk_free h 0
  have f1 := blk_free h 1
  have hlt := blk_lt h
  clear h
  go_enter Try.func94, Try.ntmps94
  go_wp2
  go_end0
  exact ⟨rfl, rfl⟩

set_option maxRecDepth 100000 in
set_option maxHeartbeats 1000000 in
theorem prOk_calls (w : World) (g : Nat) (u : Value) (bad : Bool) (h : w.heap[g]? = some (.cells #[u, .bool bad] 137 (0, 0))) :
    Calls Try.prog 89 #[.pointer (some ⟨g, 0, none⟩)] w fun e w' => e = .returned (.bool (!bad)) ∧ w = w' := by
  have c1 : w.cell? ⟨g, 1, none⟩ = some (.bool bad) := by rw [blk_cell h]; rfl
  have hlt := blk_lt h
  clear h
  go_enter Try.func89, Try.ntmps89
  go_wp2
  go_ret
  exact ⟨rfl, rfl⟩
set_option maxRecDepth 100000 in
set_option maxHeartbeats 1000000 in
theorem prLeft_calls (w : World) (g : Nat) (A : Option Addr) (n c : Nat) (bad : Bool) (h0 : bad = true → n = 0) (h : w.heap[g]? = some (.cells #[.slice A n c, .bool bad] 137 (0, 0))) :
    Calls Try.prog 92 #[.pointer (some ⟨g, 0, none⟩)] w fun e w' => e = .returned (.int .i64 (n : Int)) ∧ w = w' := by
  have c0 : w.cell? ⟨g, 0, none⟩ = some (.slice A n c) := by rw [blk_cell h]; rfl
  have hlt := blk_lt h
  have H := Lib.hid h
  clear h
  go_enter Try.func92, Try.ntmps92
  go_wp2_with fail
  refine (prOk_calls _ g _ bad H.out).mono ?_
  rintro e w1 ⟨rfl, rfl⟩
  cases bad
  · clear h0
    go_wp2
    go_ret
    exact ⟨rfl, rfl⟩
  · have := h0 rfl
    subst this
    clear h0
    go_wp2
    go_ret
    exact ⟨rfl, rfl⟩

set_option maxRecDepth 100000 in
set_option maxHeartbeats 1000000 in
theorem prNum_calls (pl : Prop) (B g : Nat) (w : World) (bs : List Int) (bad : Bool) (lim n1 : Nat) (bs1 : List Int) (bad1 : Bool) (he : rdNum lim bs bad = (n1, bs1, bad1)) (h : RAt 137 pl B g w bs bad) :
    Calls Try.prog 63 #[.pointer (some ⟨g, 0, none⟩), .int .u64 lim] w fun e w' => e = .returned (.int .u64 n1) ∧ RAt 137 True B g w' bs1 bad1 ∧ w.grownBy w' (some g) := by
  have HA := Lib.hid h
  obtain ⟨h1, h2, h3, h4, A, c, k1, k2, k3, k4, k5, k6⟩ := h
  have H1 := Lib.hid h1
  have H2 := Lib.hid h2
  have H3 := Lib.hid h3
  have K1 := Lib.hid k1
  have K3 := Lib.hid k3
  have K4 := Lib.hid k4
  have K6 := Lib.hid k6
  have HE := Lib.hid he
  have hlt := blk_lt k1
  have c0 : w.cell? ⟨g, 0, none⟩ = some (.slice A bs.length c) := by rw [blk_cell k1]; rfl
  have c1 : w.cell? ⟨g, 1, none⟩ = some (.bool bad) := by rw [blk_cell k1]; rfl
  have f0 := blk_free k1 0
  clear h1 h2 h3 k1 k3 k4 k5 k6 he
  cases bad
  · rcases hp : lebP bs with _ | ⟨n, k⟩
    · have HP := Lib.hid hp
      have he := HE.out
      rw [rdNum_none hp] at he
      cases he
      clear hp
      go_enter Try.func63, Try.ntmps63
      go_wp2_with fail
      refine (prOk_calls _ g _ false K1.out).mono ?_
      rintro e w1 ⟨rfl, rfl⟩
      go_wp2_with fail
      refine (lebOf_none h4 H3.out K3.out HP.out).mono ?_
      rintro e w1 ⟨rfl, rfl⟩
      go_wp2_with fail
      refine (prFail_calls _ g _ _ K1.out).mono ?_
      rintro e w1 ⟨rfl, rfl⟩
      go_wp2
      go_ret
      exact ⟨rfl, RAt.fails H1.out H2.out K1.out, fails_grown _ _ _ _⟩
    · have HP := Lib.hid hp
      obtain ⟨hk, hn64, hne⟩ := lebP_size H3.out hp
      obtain ⟨b, off, rfl⟩ : ∃ b off, A = some ⟨b, off, none⟩ := by
        rcases K3.out with h | ⟨b, off, h, _⟩
        · exact absurd h hne
        · exact ⟨b, off, h⟩
      by_cases hln : lim < n
      · have he := HE.out
        rw [rdNum_big hp hln] at he
        cases he
        clear hp hne
        go_enter Try.func63, Try.ntmps63
        go_wp2_with fail
        refine (prOk_calls _ g _ false K1.out).mono ?_
        rintro e w1 ⟨rfl, rfl⟩
        go_wp2_with fail
        refine (lebOf_some h4 H3.out K3.out HP.out).mono ?_
        rintro e w1 ⟨rfl, rfl⟩
        go_wp2_with fail
        refine (prFail_calls _ g _ _ K1.out).mono ?_
        rintro e w1 ⟨rfl, rfl⟩
        go_wp2
        go_ret
        exact ⟨rfl, RAt.fails H1.out H2.out K1.out, fails_grown _ _ _ _⟩
      · have hln' : n ≤ lim := by omega
        have he := HE.out
        rw [rdNum_some hp hln'] at he
        cases he
        clear hp hne hln
        go_enter Try.func63, Try.ntmps63
        go_wp2_with fail
        refine (prOk_calls _ g _ false K1.out).mono ?_
        rintro e w1 ⟨rfl, rfl⟩
        go_wp2_with fail
        refine (lebOf_some h4 H3.out K3.out HP.out).mono ?_
        rintro e w1 ⟨rfl, rfl⟩
        go_wp2
        all_goals
          go_ret
          exact ⟨rfl, RAt.cut H1.out H2.out H3.out h4 K1.out k2 K3.out (fun hn => K4.out hn _ rfl) hk rfl (by omega) (by omega), grown_set _ _ _ _⟩
  · have he := HE.out
    rw [rdNum_bad] at he
    cases he
    obtain ⟨rfl, rfl⟩ := K6.out rfl
    go_enter Try.func63, Try.ntmps63
    go_wp2_with fail
    refine (prOk_calls _ g _ true K1.out).mono ?_
    rintro e w1 ⟨rfl, rfl⟩
    go_wp2
    go_ret
    exact ⟨rfl, ⟨H1.out, H2.out, H3.out, h4, none, c, K1.out, k2, K3.out, K4.out, fun _ => .inl rfl, fun _ => ⟨rfl, rfl⟩⟩, grown_refl _ _⟩

set_option maxRecDepth 100000 in
set_option maxHeartbeats 1000000 in
theorem rrNum_calls (pl : Prop) (B g : Nat) (w : World) (bs : List Int) (bad : Bool) (lim n1 : Nat) (bs1 : List Int) (bad1 : Bool) (he : rdNum lim bs bad = (n1, bs1, bad1)) (h : RAt 109 pl B g w bs bad) :
    Calls Try.prog 67 #[.pointer (some ⟨g, 0, none⟩), .int .u64 lim] w fun e w' => e = .returned (.int .u64 n1) ∧ RAt 109 True B g w' bs1 bad1 ∧ w.grownBy w' (some g) := by
  have HA := Lib.hid h
  obtain ⟨h1, h2, h3, h4, A, c, k1, k2, k3, k4, k5, k6⟩ := h
  have H1 := Lib.hid h1
  have H2 := Lib.hid h2
  have H3 := Lib.hid h3
  have K1 := Lib.hid k1
  have K3 := Lib.hid k3
  have K4 := Lib.hid k4
  have K6 := Lib.hid k6
  have HE := Lib.hid he
  have hlt := blk_lt k1
  have c0 : w.cell? ⟨g, 0, none⟩ = some (.slice A bs.length c) := by rw [blk_cell k1]; rfl
  have c1 : w.cell? ⟨g, 1, none⟩ = some (.bool bad) := by rw [blk_cell k1]; rfl
  have f0 := blk_free k1 0
  clear h1 h2 h3 k1 k3 k4 k5 k6 he
  have G0 := Lib.hid (grown_refl w (some g))
  rcases hp : lebP bs with _ | ⟨n, k⟩
  · have HP := Lib.hid hp
    have he := HE.out
    rw [rdNum_none hp] at he
    cases he
    clear hp
    cases bad
    · go_enter Try.func67, Try.ntmps67
      go_wp2_with fail
      refine (rLeb_none h4 k2 H3.out K3.out HP.out).mono ?_
      rintro e w1 ⟨rfl, hb1⟩
      have KK := Lib.hid (blk_below hb1 K1.out (blk_lt K1.out))
      have GG := Lib.hid (grown_below hb1 (Nat.le_refl _) (some g))
      have HS : Hid (B ≤ w1.heap.size) := Nat.le_trans H2.out hb1.size
      have KR := Lib.hid (K3.out.below hb1 (Nat.le_refl _))
      have c2 := blk_cell KK.out 0
      have c3 := blk_cell KK.out 1
      have f2 := blk_free KK.out 0
      have hlt2 := blk_lt KK.out
      clear c0 c1 f0 hb1 hlt
      go_wp2_with fail
      refine (rrFail_calls _ g _ _ KK.out).mono ?_
      rintro e w2 ⟨rfl, rfl⟩
      go_wp2
      go_ret
      exact ⟨rfl, RAt.fails H1.out HS.out KK.out, grown_trans GG.out (fails_grown _ _ _ _)⟩
    · go_enter Try.func67, Try.ntmps67
      go_wp2_with fail
      refine (rLeb_none h4 k2 H3.out K3.out HP.out).mono ?_
      rintro e w1 ⟨rfl, hb1⟩
      have KK := Lib.hid (blk_below hb1 K1.out (blk_lt K1.out))
      have GG := Lib.hid (grown_below hb1 (Nat.le_refl _) (some g))
      have HS : Hid (B ≤ w1.heap.size) := Nat.le_trans H2.out hb1.size
      have KR := Lib.hid (K3.out.below hb1 (Nat.le_refl _))
      have c2 := blk_cell KK.out 0
      have c3 := blk_cell KK.out 1
      have f2 := blk_free KK.out 0
      have hlt2 := blk_lt KK.out
      clear c0 c1 f0 hb1 hlt
      go_wp2_with fail
      refine (rrFail_calls _ g _ _ KK.out).mono ?_
      rintro e w2 ⟨rfl, rfl⟩
      go_wp2
      go_ret
      exact ⟨rfl, RAt.fails H1.out HS.out KK.out, grown_trans GG.out (fails_grown _ _ _ _)⟩
  · have HP := Lib.hid hp
    obtain ⟨hk, hn64, hne⟩ := lebP_size H3.out hp
    obtain ⟨b, off, rfl⟩ : ∃ b off, A = some ⟨b, off, none⟩ := by
      rcases K3.out with h | ⟨b, off, h, _⟩
      · exact absurd h hne
      · exact ⟨b, off, h⟩
    have hbad : bad = false := by
      cases bad
      · rfl
      · exact absurd (K6.out rfl).1 hne
    subst hbad
    by_cases hln : lim < n
    · have he := HE.out
      rw [rdNum_big hp hln] at he
      cases he
      clear hp hne
      go_enter Try.func67, Try.ntmps67
      go_wp2_with fail
      refine (rLeb_some h4 k2 H3.out K3.out HP.out).mono ?_
      rintro e w1 ⟨rfl, hb1⟩
      have KK := Lib.hid (blk_below hb1 K1.out (blk_lt K1.out))
      have GG := Lib.hid (grown_below hb1 (Nat.le_refl _) (some g))
      have HS : Hid (B ≤ w1.heap.size) := Nat.le_trans H2.out hb1.size
      have KR := Lib.hid (K3.out.below hb1 (Nat.le_refl _))
      have c2 := blk_cell KK.out 0
      have c3 := blk_cell KK.out 1
      have f2 := blk_free KK.out 0
      have hlt2 := blk_lt KK.out
      clear c0 c1 f0 hb1 hlt
      go_wp2_with fail
      refine (rrFail_calls _ g _ _ KK.out).mono ?_
      rintro e w2 ⟨rfl, rfl⟩
      go_wp2
      go_ret
      exact ⟨rfl, RAt.fails H1.out HS.out KK.out, grown_trans GG.out (fails_grown _ _ _ _)⟩
    · have hln' : n ≤ lim := by omega
      have he := HE.out
      rw [rdNum_some hp hln'] at he
      cases he
      clear hp hne hln
      go_enter Try.func67, Try.ntmps67
      go_wp2_with fail
      refine (rLeb_some h4 k2 H3.out K3.out HP.out).mono ?_
      rintro e w1 ⟨rfl, hb1⟩
      have KK := Lib.hid (blk_below hb1 K1.out (blk_lt K1.out))
      have GG := Lib.hid (grown_below hb1 (Nat.le_refl _) (some g))
      have HS : Hid (B ≤ w1.heap.size) := Nat.le_trans H2.out hb1.size
      have KR := Lib.hid (K3.out.below hb1 (Nat.le_refl _))
      have c2 := blk_cell KK.out 0
      have c3 := blk_cell KK.out 1
      have f2 := blk_free KK.out 0
      have hlt2 := blk_lt KK.out
      clear c0 c1 f0 hb1 hlt
      go_wp2
      all_goals
        go_ret
        exact ⟨rfl, RAt.cut H1.out HS.out H3.out h4 KK.out k2 KR.out (fun hn => K4.out hn _ rfl) hk rfl (by omega) (by omega), grown_trans GG.out (grown_set _ _ _ _)⟩

set_option maxRecDepth 100000 in
set_option maxHeartbeats 1000000 in
theorem prText_calls (pl : Prop) (B g : Nat) (w : World) (bs : List Int) (bad : Bool) (lim : Nat) (hl : lim ≤ 1000) (s1 : Str) (bs1 : List Int) (bad1 : Bool) (he : rdText lim bs bad = (s1, bs1, bad1)) (h : RAt 137 pl B g w bs bad) :
    Calls Try.prog 64 #[.pointer (some ⟨g, 0, none⟩), .int .i64 lim] w fun e w' => e = .returned (.string s1) ∧ RAt 137 True B g w' bs1 bad1 ∧ w.grownBy w' (some g) := by
  have HA := Lib.hid h
  have HE := Lib.hid he
  have hw : IntKind.u64.wrap (lim : Int) = (lim : Int) := by rw [IntKind.wrap_u64]; omega
  obtain ⟨n, bs2, bad2, hq⟩ : ∃ n bs2 bad2, rdNum lim bs bad = (n, bs2, bad2) := ⟨_, _, _, rfl⟩
  have HQ := Lib.hid hq
  have hn : n ≤ lim := by have := (rdNum_le lim bs bad).1; rw [hq] at this; exact this
  clear h he hq
  go_enter Try.func64, Try.ntmps64
  go_wp2_with fail
  refine (prNum_calls pl B g _ bs bad lim n bs2 bad2 HQ.out HA.out).mono ?_
  rintro e w1 ⟨rfl, hr1, hg1⟩
  have G1 := Lib.hid hg1
  obtain ⟨h1, h2, h3, h4, A, c, k1, k2, k3, k4, k5, k6⟩ := hr1
  have H1 := Lib.hid h1
  have H2 := Lib.hid h2
  have H3 := Lib.hid h3
  have K1 := Lib.hid k1
  have K3 := Lib.hid k3
  have K4 := Lib.hid k4
  have K5 := Lib.hid (k5 trivial)
  have K6 := Lib.hid k6
  have hlt := blk_lt k1
  have c0 : w1.cell? ⟨g, 0, none⟩ = some (.slice A bs2.length c) := by rw [blk_cell k1]; rfl
  have c1 : w1.cell? ⟨g, 1, none⟩ = some (.bool bad2) := by rw [blk_cell k1]; rfl
  have f0 := blk_free k1 0
  have hwl : IntKind.u64.wrap (bs2.length : Int) = (bs2.length : Int) := by rw [IntKind.wrap_u64]; omega
  clear h1 h2 h3 k1 k3 k4 k5 k6 hg1
  go_wp2_with fail
  refine (prLeft_calls _ g A bs2.length c bad2 (fun e => by rw [(K6.out e).1]; rfl) K1.out).mono ?_
  rintro e w2 ⟨rfl, rfl⟩
  by_cases hbig : bs2.length < n
  · have he := HE.out
    rw [rdText_bad HQ.out (.inl hbig)] at he
    cases he
    have hbig' : (bs2.length : Int) < (n : Int) := by omega
    go_wp2_with fail
    refine (prFail_calls _ g _ _ K1.out).mono ?_
    rintro e w2 ⟨rfl, rfl⟩
    have KF : Hid (((w1.setCell ⟨g, 0, none⟩ (.slice none 0 0)).setCell ⟨g, 1, none⟩ (.bool true)).heap[g]? = some (.cells #[.slice none 0 0, .bool true] 137 (0, 0))) := blk_set' (blk_set' K1.out 0 (.slice none 0 0) rfl) 1 (.bool true) rfl
    go_wp2_with fail
    refine (prOk_calls _ g _ true KF.out).mono ?_
    rintro e w3 ⟨rfl, rfl⟩
    go_wp2
    go_ret
    exact ⟨rfl, RAt.fails H1.out H2.out K1.out, grown_trans G1.out (fails_grown _ _ _ _)⟩
  · have hbig' : (n : Int) ≤ (bs2.length : Int) := by omega
    have hbig2 : n ≤ bs2.length := by omega
    cases bad2
    · have he := HE.out
      rw [rdText_ok HQ.out hbig2 rfl] at he
      cases he
      rcases K5.out with rfl | ⟨b, off, rfl⟩
      · have hb2 : bs2 = [] := by
          rcases K3.out with h | ⟨b, off, h, _⟩
          · exact h
          · cases h
        subst hb2
        obtain rfl : n = 0 := by simpa using hbig2
        have cn : ∀ m c', (convert 57 9 (.slice none m c')).run Try.prog w1 = .ok (.string ⟨#[]⟩) w1 := fun m c' => run_convert_bytes_nil w1 57 5 Try.underlying57 Try.underlying5 m c' 9 Try.underlying9
        clear hbig
        go_wp2_with fail
        refine (prOk_calls _ g _ false K1.out).mono ?_
        rintro e w3 ⟨rfl, rfl⟩
        go_wp2
        go_ret
        exact ⟨rfl, ⟨H1.out, by simpa using H2.out, H3.out, h4, none, _, blk_set' K1.out 0 _ rfl, by simp, .inl rfl, (fun hn => absurd rfl hn), fun _ => .inl rfl, fun e => by cases e⟩, grown_trans G1.out (grown_set _ _ _ _)⟩
      · have hcv : Hid (∀ c', (convert 57 9 (.slice (some ⟨b, off, none⟩) n c')).run Try.prog w1 = .ok (.string (strOfNums (bs2.take n))) w1) := by
          intro c'
          rcases K3.out with h0 | ⟨b', off', e, hbl, hcc⟩
          · subst h0
            obtain rfl : n = 0 := by simpa using hbig2
            refine run_convert_bytes_arg w1 57 5 Try.underlying57 Try.underlying5 b off 0 c' [] rfl (fun i hi => by omega) 9 Try.underlying9
          · cases e
            exact rd_str hbig2 hbl hcc (Below.refl _ _)
        have cv := hcv.out
        clear hbig hcv
        go_wp2_with fail
        refine (prOk_calls _ g _ false K1.out).mono ?_
        rintro e w3 ⟨rfl, rfl⟩
        go_wp2
        all_goals
          go_ret
          exact ⟨rfl, RAt.cut H1.out H2.out H3.out h4 K1.out k2 K3.out (fun hn => K4.out hn _ rfl) hbig2 rfl (by omega) (by omega), grown_trans G1.out (grown_set _ _ _ _)⟩
    · have he := HE.out
      rw [rdText_bad HQ.out (.inr rfl)] at he
      cases he
      obtain ⟨rfl, rfl⟩ := K6.out rfl
      obtain rfl := rdNum_true HQ.out
      clear hbig
      go_wp2_with fail
      refine (prOk_calls _ g _ true K1.out).mono ?_
      rintro e w3 ⟨rfl, rfl⟩
      go_wp2
      go_ret
      exact ⟨rfl, ⟨H1.out, H2.out, H3.out, h4, none, c, K1.out, k2, K3.out, K4.out, fun _ => .inl rfl, fun _ => ⟨rfl, rfl⟩⟩, G1.out⟩
end Go.Proofs.Ytofdmkglhjpbcaa
