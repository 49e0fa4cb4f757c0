/- tree: compare, Get's functions, slices.BinarySearchFunc -/
import Derived.Test.YtikgplhcadomcaaGreatQList
namespace Go.Proofs.YtikgplhcadomcaaGreat
open Go.RowKit
set_option linter.unusedVariables false
set_option linter.unusedSimpArgs false
def cmpT (a b : Str) : Int := if slt a b then -1 else if slt b a then 1 else 0
set_option maxRecDepth 100000 in
theorem compare_calls (w : World) (a b : Str) : Calls Tryz.prog 116 #[.string a, .string b] w fun e w' => e = .returned (.int .i64 (cmpT a b)) ∧ w = w' := by
  by_cases h1 : slt a b = true
  · have hv : Hid (cmpT a b = -1) := if_pos h1
    have h2 : Op.bytesLess a.toList b.toList = true := h1
    clear h1
    go_enter Tryz.func116, Tryz.ntmps116
    go_wp2
    go_ret
    exact ⟨by rw [hv.out]; rfl, rfl⟩
  · have h1' : Op.bytesLess a.toList b.toList = false := by unfold slt at h1; simpa using h1
    by_cases h2 : slt b a = true
    · have hv : Hid (cmpT a b = 1) := by show _ = _; unfold cmpT; rw [if_neg h1, if_pos h2]
      have h2' : Op.bytesLess b.toList a.toList = true := h2
      have h3 : (a.toList == b.toList) = false := by rw [toList_beq]; exact decide_eq_false (fun e => slt_ne h2 e.symm)
      clear h1 h2
      go_enter Tryz.func116, Tryz.ntmps116
      go_wp2
      go_ret
      exact ⟨by rw [hv.out]; rfl, rfl⟩
    · have hv : Hid (cmpT a b = 0) := by show _ = _; unfold cmpT; rw [if_neg h1, if_neg h2]
      have h2' : Op.bytesLess b.toList a.toList = false := by unfold slt at h2; simpa using h2
      have h3 : (a.toList == b.toList) = true := by
        rw [toList_beq]
        rcases slt_total a b with h | h | h
        · exact absurd h h1
        · exact decide_eq_true h
        · exact absurd h h2
      clear h1 h2
      go_enter Tryz.func116, Tryz.ntmps116
      go_wp2
      go_ret
      exact ⟨by rw [hv.out]; rfl, rfl⟩
theorem cmpT_lt (a b : Str) : (cmpT a b < 0) ↔ slt a b = true := by
  unfold cmpT
  by_cases h1 : slt a b = true
  · rw [if_pos h1]; simp [h1]
  · rw [if_neg h1]
    split <;> simp [h1]
theorem cmpT_eq (a b : Str) : (cmpT a b = 0) ↔ a = b := by
  unfold cmpT
  rcases slt_total a b with h | h | h
  · rw [if_pos h]
    constructor
    · intro e; cases e
    · intro e; exact absurd e (slt_ne h)
  · subst h
    rw [if_neg (by rw [slt_irrefl]; simp), if_neg (by rw [slt_irrefl]; simp)]
    simp
  · rw [if_neg (by rw [slt_asymm h]; simp), if_pos h]
    constructor
    · intro e; cases e
    · intro e; exact absurd e.symm (slt_ne h)
set_option maxRecDepth 100000 in
theorem get1_calls (w : World) (k v key : Str) : Calls Tryz.prog 115 #[.agg #[.string k, .string v], .string key] w fun e w' => e = .returned (.int .i64 (cmpT k key)) ∧ Below w.heap.size w w' := by
  have hz := blk_new w (.cells #[.string k, .string v] 113)
  have x0 := blk_cell hz 0
  have xl := blk_lt hz
  have B := Lib.hid (bl_alloc (Below.refl w.heap.size w) (.cells #[.string k, .string v] 113))
  clear hz
  go_enter Tryz.func115, Tryz.ntmps115
  go_wp2_with fail
  refine (compare_calls _ k key).mono ?_
  rintro e w2 ⟨rfl, rfl⟩
  go_wp2
  go_ret
  exact ⟨rfl, B.out⟩
set_option maxRecDepth 100000 in
theorem get2_calls (w : World) (kl : Str) (ki : Int) (g : Nat) (key : Str) (hg : w.cell? ⟨g, 0, none⟩ = some (.string key)) (hgl : g < w.heap.size) : Calls Tryz.prog 118 #[.agg #[.string kl, .int .u64 ki], .pointer (some ⟨g, 0, none⟩)] w fun e w' => e = .returned (.bool (!(slt kl key))) ∧ Below w.heap.size w w' := by
  obtain ⟨W1, hW1⟩ : ∃ W, w.alloc (.cells #[.string kl, .int .u64 ki] 109) = W := ⟨_, rfl⟩
  have hb1 : Below w.heap.size w W1 := by rw [← hW1]; exact bl_alloc (Below.refl _ w) _
  have hz : W1.heap[w.heap.size]? = some (.cells #[.string kl, .int .u64 ki] 109 (0, 0)) := by rw [← hW1]; exact blk_new w _
  have x0 := blk_cell hz 0
  have xl := blk_lt hz
  have g1 : W1.cell? ⟨g, 0, none⟩ = some (.string key) := (hb1.cell (p := ⟨g, 0, none⟩) hgl).trans hg
  have gl : g < W1.heap.size := Nat.lt_of_lt_of_le hgl hb1.size
  have B := Lib.hid hb1
  obtain ⟨d, hd⟩ : ∃ d, slt kl key = d := ⟨_, rfl⟩
  have hd' : Op.bytesLess kl.toList key.toList = d := hd
  rw [hd]
  clear hz hb1 hd hg
  cases d
  · go_enter Tryz.func118, Tryz.ntmps118
    go_wp2
    go_ret
    exact ⟨rfl, B.out⟩
  · go_enter Tryz.func118, Tryz.ntmps118
    go_wp2
    go_ret
    exact ⟨rfl, B.out⟩
def hasAt (l : List Entry) (i : Nat) (key : Str) : Bool := match l[i]? with | some x => decide (x.key = key) | none => false
def BsR (w w' : World) (E : List Entry) (key : Str) (e : Ending) : Prop := ∃ i : Nat, i ≤ E.length ∧ (∀ m x, m < i → E[m]? = some x → slt x.key key = true) ∧ (∀ m x, i ≤ m → E[m]? = some x → slt x.key key = false) ∧ e = .returned (.tuple #[.int .i64 (i : Int), .bool (hasAt E i key)]) ∧ Below w.heap.size w w'
set_option maxRecDepth 100000 in
set_option maxHeartbeats 2000000 in
theorem bsearch_calls (w : World) (A : Option Addr) (c : Nat) (E : List Entry) (key : Str) (hE : Rd Entry.enc 2 w A E) (hlen : E.length ≤ 1000) (hrise : ∀ (i j : Nat) x y, i < j → E[i]? = some x → E[j]? = some y → slt x.key y.key = true) :
    Calls Tryz.prog 114 #[.slice A E.length c, .string key, .func (.func 115) #[] #[]] w fun e w' => BsR w w' E key e := by
  have HE := Lib.hid hE
  have HR := Lib.hid hrise
  clear hE hrise
  go_enter Tryz.func114, Tryz.ntmps114
  go_wp2
  go_loopg [9, 10] E.length (fun m vi vj wr => ∃ i j : Nat, vi = .int .i64 i ∧ vj = .int .i64 j ∧ m = j - i ∧ i ≤ j ∧ j ≤ E.length ∧ Hid (∀ m x, m < i → E[m]? = some x → slt x.key key = true) ∧ Hid (∀ m x, j ≤ m → E[m]? = some x → slt x.key key = false) ∧ Hid (Below w.heap.size w wr))
  case atStart => exact ⟨0, E.length, rfl, rfl, by omega, Nat.zero_le _, Nat.le_refl _, fun m x h => by omega, fun m x h hx => by have := (List.getElem?_eq_some_iff.1 hx).1; omega, Below.refl _ _⟩
  case round =>
    obtain ⟨i, j, rfl, rfl, hm, hij, hj, hlo, hhi, hb⟩ := hrel
    by_cases hlt : i < j
    · have hlti : (i : Int) < (j : Int) := by omega
      obtain ⟨h, hh⟩ : ∃ h : Nat, (i + j) / 2 = h := ⟨_, rfl⟩
      have hhb : i ≤ h ∧ h < j := by omega
      have hhi2 : ((i : Int) + (j : Int)) / 2 = (h : Int) := by omega
      have hki : h < E.length := by omega
      have hxk : E[h]? = some E[h] := List.getElem?_eq_getElem hki
      rcases HE.out.below hb.out (Nat.le_refl _) with h0 | ⟨bb, off, rfl, hbl, hcell⟩
      · rw [h0] at hki; simp at hki
      have z0 := hcell h _ hxk 0 _ rfl
      have z1 := hcell h _ hxk 1 _ rfl
      generalize E[h] = x at *
      obtain ⟨xk, xv⟩ := x
      dsimp only at z0 z1
      simp only [Nat.add_zero] at z0
      have HX := Lib.hid hxk
      clear hcell hxk
      go_wp2_with fail
      refine (get1_calls wr xk xv key).mono ?_
      rintro e w2 ⟨rfl, hb2⟩
      have B2 := Lib.hid (bl_then hb.out hb.out.size hb2)
      clear hb2 z0 z1 hbl
      by_cases hc : slt xk key = true
      · have hc2 : cmpT xk key < 0 := (cmpT_lt _ _).2 hc
        have hlo' : Hid (∀ m x, m < h + 1 → E[m]? = some x → slt x.key key = true) := fun m x hm hx => by
          by_cases hmh : m < h
          · exact slt_trans (HR.out m h x _ hmh hx HX.out) hc
          · have : m = h := by omega
            subst this
            rw [HX.out] at hx
            cases hx
            exact hc
        obtain ⟨cv, hcv⟩ : ∃ cv, cmpT xk key = cv := ⟨_, rfl⟩
        rw [hcv] at hc2 ⊢
        clear hc hcv hlo hh hhi2
        go_wp2
        go_roundg (j - (h + 1))
        case measure => omega
        case rel => exact ⟨h + 1, j, by go_num, rfl, rfl, by omega, hj, hlo'.out, hhi.out, B2.out⟩
      · have hc2 : ¬ cmpT xk key < 0 := fun q => hc ((cmpT_lt _ _).1 q)
        have hcf : slt xk key = false := by simpa using hc
        have hhi' : Hid (∀ m x, h ≤ m → E[m]? = some x → slt x.key key = false) := fun m x hm hx => by
          by_cases hmh : m = h
          · subst hmh
            rw [HX.out] at hx
            cases hx
            exact hcf
          · have h1 := HR.out h m _ x (by omega) HX.out hx
            rw [Bool.eq_false_iff]
            intro q
            have := slt_trans h1 q
            dsimp only at this
            rw [hcf] at this
            cases this
        obtain ⟨cv, hcv⟩ : ∃ cv, cmpT xk key = cv := ⟨_, rfl⟩
        rw [hcv] at hc2 ⊢
        clear hc hcf hcv hhi hh hhi2
        go_wp2
        go_roundg (h - i)
        case measure => omega
        case rel => exact ⟨i, h, rfl, rfl, rfl, by omega, by omega, hlo.out, hhi'.out, B2.out⟩
    · have hij2 : i = j := by omega
      subst hij2
      by_cases hlast : i < E.length
      · have hli : (i : Int) < (E.length : Int) := by omega
        have hxk : E[i]? = some E[i] := List.getElem?_eq_getElem hlast
        rcases HE.out.below hb.out (Nat.le_refl _) with h0 | ⟨bb, off, rfl, hbl, hcell⟩
        · rw [h0] at hlast; simp at hlast
        have z0 := hcell i _ hxk 0 _ rfl
        have z1 := hcell i _ hxk 1 _ rfl
        have hv : Hid ((hasAt E i key) = decide (E[i].key = key)) := by show _ = _; unfold hasAt; rw [hxk]
        generalize E[i] = x at *
        obtain ⟨xk, xv⟩ := x
        dsimp only at z0 z1 hv
        simp only [Nat.add_zero] at z0
        have hiz : (0 : Int) ≤ (i : Int) := by omega
        clear hcell hxk hlt hm
        go_wp2_with fail
        refine (get1_calls wr xk xv key).mono ?_
        rintro e w2 ⟨rfl, hb2⟩
        have B2 := Lib.hid (bl_then hb.out hb.out.size hb2)
        clear hb2 z0 z1 hbl
        by_cases hc : xk = key
        · have hc2 : (cmpT xk key == 0) = true := by rw [beq_iff_eq]; exact (cmpT_eq _ _).2 hc
          have hd : Hid (decide (xk = key) = true) := decide_eq_true hc
          obtain ⟨cv, hcv⟩ : ∃ cv, cmpT xk key = cv := ⟨_, rfl⟩
          rw [hcv] at hc2 ⊢
          clear hc hcv
          go_wp2
          go_ret2
          exact ⟨i, hj, hlo.out, hhi.out, by rw [hv.out, hd.out]; rfl, B2.out⟩
        · have hc2 : (cmpT xk key == 0) = false := by rw [beq_eq_false_iff_ne]; exact fun q => hc ((cmpT_eq _ _).1 q)
          have hd : Hid (decide (xk = key) = false) := decide_eq_false hc
          obtain ⟨cv, hcv⟩ : ∃ cv, cmpT xk key = cv := ⟨_, rfl⟩
          rw [hcv] at hc2 ⊢
          clear hc hcv
          go_wp2
          go_ret2
          exact ⟨i, hj, hlo.out, hhi.out, by rw [hv.out, hd.out]; rfl, B2.out⟩
      · have hli : ¬ (i : Int) < (E.length : Int) := by omega
        have hv : Hid ((hasAt E i key) = false) := by show _ = _; unfold hasAt; rw [List.getElem?_eq_none (by omega)]
        clear hlast hlt hm
        go_wp2
        go_ret2
        exact ⟨i, hj, hlo.out, hhi.out, by rw [hv.out]; rfl, hb.out⟩
end Go.Proofs.YtikgplhcadomcaaGreat
