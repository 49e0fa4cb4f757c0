/- slices.IndexFunc at rows of spans; extent.Free: row, Has. -/
import Derived.Test.YtglpckdmiohciaaExt2
import Derived.Test.YtglpckdmiohciaaPut
namespace Go.Proofs.Ytglpckdmiohciaa
open Go.RowKit
set_option linter.unusedVariables false
set_option linter.unusedSimpArgs false

/-- An element's cells, for a walk. -/
theorem Rd.span {W : World} {b off k : Nat} {l : List Span} {x : Span} (h : Rd Span.enc 2 W (some ⟨b, off, none⟩) l) (hx : l[k]? = some x) : W.cell? ⟨b, off + k * 2, none⟩ = some (.int .i64 x.start) ∧ W.cell? ⟨b, off + k * 2 + 1, none⟩ = some (.int .i64 x.pages) := by
  have hr := h.range hx
  exact ⟨hr 0 _ rfl, hr 1 _ rfl⟩
theorem place_at {p : Span → Bool} {l : List Span} {k : Nat} {x : Span} (hx : l[k]? = some x) (hp : p x = true) (hl : ∀ (j : Nat) y, j < k → l[j]? = some y → p y = false) : place p l = k := by
  unfold place
  have : l.findIdx? p = some k := by
    obtain ⟨h, rfl⟩ := List.getElem?_eq_some_iff.1 hx
    refine List.findIdx?_eq_some_iff_getElem.2 ⟨h, hp, fun j hj => ?_⟩
    have := hl j _ hj (List.getElem?_eq_getElem (by omega))
    simpa using this
  rw [this]
theorem place_none {p : Span → Bool} {l : List Span} (hl : ∀ (j : Nat) y, l[j]? = some y → p y = false) : place p l = -1 := by
  unfold place
  have : l.findIdx? p = none := List.findIdx?_eq_none_iff.2 fun x hx => by
    obtain ⟨j, hj⟩ := List.mem_iff_getElem?.1 hx
    exact hl j x hj
  rw [this]
set_option maxRecDepth 100000 in
set_option maxHeartbeats 4000000 in
theorem indexFunc_calls (fk : FuncId) (V : Value) (p : Span → Bool) (w : World) (A : Option Addr) (c : Nat) (l : List Span) (hf : ∀ (args : Array Value) (W : World), (callFunc fk args).run Try.prog W = .ok (.enter fk args) W)
    (hp : ∀ r ∈ l, ∀ W, Below w.heap.size w W → Calls Try.prog fk #[V, .agg #[.int .i64 r.start, .int .i64 r.pages]] W fun e W' => e = .returned (.bool (p r)) ∧ Below W.heap.size W W') (hr : Rd Span.enc 2 w A l) (hc : l.length ≤ c) (hbig : c ≤ 9223372036854775807) :
    Calls Try.prog 115 #[.slice A l.length c, .func (.func fk) #[V] #[]] w fun e w' => e = .returned (.int .i64 (place p l)) ∧ Below w.heap.size w w' := by
  have HR := Lib.hid hr
  have HP := Lib.hid hp
  clear hr hp
  go_enter Try.func115, Try.ntmps115
  go_wp2
  go_loopg [8] l.length (fun m i wr => ∃ k : Nat, i = .int .i64 k ∧ k + m = l.length ∧ Hid (Below w.heap.size w wr) ∧ Hid (∀ (j : Nat) y, j < k → l[j]? = some y → p y = false))
  case atStart => exact ⟨0, rfl, by omega, Below.refl _ _, fun j y h => by omega⟩
  case round =>
    obtain ⟨k, rfl, hk, hb, hl⟩ := hrel
    rcases Nat.lt_or_ge k l.length with hlt | hge
    · rcases HR.out with h0 | ⟨b, off, rfl, hbl, hcell⟩
      · simp [h0] at hlt
      have hx : l[k]? = some l[k] := List.getElem?_eq_getElem hlt
      have hm : l[k] ∈ l := List.getElem_mem hlt
      obtain ⟨c0, c1⟩ := Rd.span (HR.out.below hb.out (Nat.le_refl _)) hx
      have hcall := Lib.hid (HP.out _ hm wr hb.out)
      have HX := Lib.hid hx
      generalize l[k] = x at *
      have i0 : (0 : Int) ≤ (k : Int) := by omega
      have i1 : (k : Int) < (l.length : Int) := by omega
      clear hcell hx hm
      go_wp2_with fail
      refine hcall.out.mono ?_
      rintro e w1 ⟨rfl, hb1⟩
      have hb2 : Hid (Below w.heap.size w w1) := bl_then hb.out hb.out.size hb1
      clear hb1
      rcases hpx : p x with _ | _
      · go_wp2
        go_roundg (gk - 1)
        case measure => omega
        case rel =>
          refine ⟨k + 1, by go_num, by omega, hb2.out, fun j y hj hy => ?_⟩
          rcases Nat.lt_or_ge j k with h | h
          · exact hl.out j y h hy
          · obtain rfl : j = k := by omega
            rw [HX.out] at hy
            cases hy
            exact hpx
      · go_wp2
        go_ret
        exact ⟨ret_int (place_at HX.out hpx hl.out).symm, hb2.out⟩
    · go_wp2
      go_ret
      refine ⟨ret_int (place_none fun j y hy => ?_).symm, hb.out⟩
      exact hl.out j y (by have := (List.getElem?_eq_some_iff.1 hy).1; omega) hy
section
variable {w : World} {g : Nat} {F : Nat → Prop} {D : Fr}
set_option maxRecDepth 100000 in
set_option maxHeartbeats 4000000 in
theorem row_of (fk : FuncId) (V : Value) (p : Span → Bool) (h : FrAt w g F D) (hf : ∀ (args : Array Value) (W : World), (callFunc fk args).run Try.prog W = .ok (.enter fk args) W)
    (hp : ∀ r ∈ D.l, ∀ W, Below w.heap.size w W → Calls Try.prog fk #[V, .agg #[.int .i64 r.start, .int .i64 r.pages]] W fun e W' => e = .returned (.bool (p r)) ∧ Below W.heap.size W W') :
    Calls Try.prog 95 #[.pointer (some ⟨g, 0, none⟩), .func (.func fk) #[V] #[]] w fun e w' => e = .returned (.int .i64 (place p D.l)) ∧ Below w.heap.size w w' := by
  obtain ⟨A, c, c0, c1, c2, fz, ho, hr, hc, hv, hb⟩ := h.cells
  have hcall := Lib.hid (indexFunc_calls fk V p w A c D.l hf hp hr hc (ho.rd' Span.ok).2.2.1)
  clear h fz ho hr hc hv hb c0 c1 hp hf
  go_enter Try.func95, Try.ntmps95
  go_wp2_with fail
  refine hcall.out.mono ?_
  rintro e w1 ⟨rfl, hb1⟩
  have HB := Lib.hid hb1
  clear hb1
  go_wp2
  go_ret
  exact ⟨rfl, HB.out⟩
theorem Fr.Ok.fits {D : Fr} (h : D.Ok) : ∀ r ∈ D.l, r.fits := fun r hr => by
  have := h.norm.mem r hr
  have := h.lo0
  have := h.n1
  unfold Span.fits
  omega
theorem Fr.there_fits {D : Fr} {s : Span} (h : D.Ok) (ht : D.there s = true) : s.fits := by
  simp only [Fr.there, decide_eq_true_eq] at ht
  have := h.lo0
  have := h.n1
  unfold Span.fits
  omega
theorem row_room (h : FrAt w g F D) (s : Span) : Calls Try.prog 95 #[.pointer (some ⟨g, 0, none⟩), .func (.func 96) #[.agg #[.int .i64 s.start, .int .i64 s.pages]] #[]] w fun e w' => e = .returned (.int .i64 (place (room s) D.l)) ∧ Below w.heap.size w w' :=
  row_of _ _ (room s) h (run_callFunc Try.func96 (by rfl) (by rfl)) fun r hr W _ => room_calls W s r
theorem row_within (h : FrAt w g F D) (s : Span) (hs : s.fits) : Calls Try.prog 95 #[.pointer (some ⟨g, 0, none⟩), .func (.func 99) #[.agg #[.int .i64 s.start, .int .i64 s.pages]] #[]] w fun e w' => e = .returned (.int .i64 (place (within s) D.l)) ∧ Below w.heap.size w w' :=
  row_of _ _ (within s) h (run_callFunc Try.func99 (by rfl) (by rfl)) fun r hr W _ => within_calls W s r hs (h.okD.fits r hr)
theorem row_meets (h : FrAt w g F D) (s : Span) (hs : s.fits) : Calls Try.prog 95 #[.pointer (some ⟨g, 0, none⟩), .func (.func 100) #[.agg #[.int .i64 s.start, .int .i64 s.pages]] #[]] w fun e w' => e = .returned (.int .i64 (place (meets s) D.l)) ∧ Below w.heap.size w w' :=
  row_of _ _ (meets s) h (run_callFunc Try.func100 (by rfl) (by rfl)) fun r hr W _ => meets_calls W s r hs (h.okD.fits r hr)
theorem row_behind (h : FrAt w g F D) (s : Span) (hs : s.fits) : Calls Try.prog 95 #[.pointer (some ⟨g, 0, none⟩), .func (.func 101) #[.agg #[.int .i64 s.start, .int .i64 s.pages]] #[]] w fun e w' => e = .returned (.int .i64 (place (behind s) D.l)) ∧ Below w.heap.size w w' :=
  row_of _ _ (behind s) h (run_callFunc Try.func101 (by rfl) (by rfl)) fun r hr W _ => behind_calls W s r hs
def Fr.has (D : Fr) (s : Span) : Bool := D.there s && decide (0 ≤ place (within s) D.l)
set_option maxRecDepth 100000 in
set_option maxHeartbeats 4000000 in
theorem fhas_calls (h : FrAt w g F D) (s : Span) : Calls Try.prog 56 #[.pointer (some ⟨g, 0, none⟩), .agg #[.int .i64 s.start, .int .i64 s.pages]] w fun e w' => e = .returned (.bool (D.has s)) ∧ Below w.heap.size w w' := by
  have h1 := Lib.hid (h.alloc (.cells #[.int .i64 s.start, .int .i64 s.pages] 90))
  have hb1 : Hid (Below w.heap.size w (w.alloc (.cells #[.int .i64 s.start, .int .i64 s.pages] 90))) := bl_alloc (Below.refl _ w) _
  have hs1 : Hid (∀ W, Below (w.alloc (.cells #[.int .i64 s.start, .int .i64 s.pages] 90)).heap.size (w.alloc (.cells #[.int .i64 s.start, .int .i64 s.pages] 90)) W → W.cell? ⟨w.heap.size, 0, none⟩ = some (.int .i64 s.start) ∧ W.cell? ⟨w.heap.size, 1, none⟩ = some (.int .i64 s.pages)) := fun W hW =>
    span_at (blk_below hW (blk_new w (.cells s.cells 90)) (by simp))
  have hfit := Lib.hid (fun q => Fr.there_fits (s := s) h.okD q)
  clear h
  go_enter Try.func56, Try.ntmps56
  go_wp2_with fail
  refine (there_calls h1.out s).mono ?_
  rintro e w1 ⟨rfl, b1⟩
  have B1 := Lib.hid b1
  obtain ⟨x0, x1⟩ := hs1.out w1 b1
  clear b1
  rcases ht : D.there s with _ | _
  · go_wp2
    go_ret
    exact ⟨ret_bool (by simp [Fr.has, ht]), bl_then hb1.out hb1.out.size B1.out⟩
  · have hF := Lib.hid (hfit.out ht)
    go_wp2_with fail
    refine (row_within (h1.out.below B1.out) s hF.out).mono ?_
    rintro e w2 ⟨rfl, b2⟩
    have B2 := Lib.hid b2
    clear b2
    go_wp2
    go_ret
    exact ⟨ret_bool (by simp [Fr.has, ht]), bl_then (bl_then hb1.out hb1.out.size B1.out) (bl_then hb1.out hb1.out.size B1.out).size B2.out⟩
end
end Go.Proofs.Ytglpckdmiohciaa
