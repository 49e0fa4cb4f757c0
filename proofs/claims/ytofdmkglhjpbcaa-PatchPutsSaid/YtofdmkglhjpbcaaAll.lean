/- merge.all: the keys of some maps, rising -/
import Derived.Test.YtofdmkglhjpbcaaSides
import Derived.Test.YtofdmkglhjpbcaaSortK
namespace Go.Proofs.Ytofdmkglhjpbcaa
open Go.RowKit Go.Maps
set_option linter.unusedVariables false
set_option linter.unusedSimpArgs false

abbrev MSide := Nat × (Str → Option Side)
def mapEnc (p : MSide) : List Value := [.map (some p.1)]
theorem mapEncOk : Enc mapEnc 1 := ⟨fun _ => rfl, fun x u hu => by simp [mapEnc] at hu; subst hu; rfl, by omega⟩
def boolV (b : Bool) : Value := .bool b
theorem boolV_inj (x y : Bool) (h : boolV x = boolV y) : x = y := by unfold boolV at h; injection h
def keySet (p : Str → Bool) : Str → Option Bool := fun x => if p x then some true else none
theorem keySet_isSome (p : Str → Bool) (x : Str) : (keySet p x).isSome = p x := by unfold keySet; cases p x <;> rfl
theorem keySet_put (p : Str → Bool) (k : Str) : gput (keySet p) k true = keySet (fun x => p x || decide (x = k)) := by
  funext x
  unfold gput keySet
  by_cases h : x = k
  · simp [h]
  · simp [h]
theorem keySet_nil : keySet (fun _ => false) = gnil := by funext x; rfl
def anyHas (ms : List MSide) : Str → Bool := fun x => ms.any fun p => (p.2 x).isSome
theorem anyHas_snoc (ms : List MSide) (p : MSide) : anyHas (ms ++ [p]) = fun x => anyHas ms x || (p.2 x).isSome := by funext x; simp [anyHas]
/-- Within the range over one map. -/
def within (p : Str → Bool) (f : Str → Option Side) (left : Str → Bool) : Str → Bool := fun x => p x || ((f x).isSome && !left x)
theorem within_start (p : Str → Bool) (f : Str → Option Side) : within p f (fun x => (f x).isSome) = p := by
  funext x; unfold within; rw [Bool.and_not_self, Bool.or_false]
theorem within_end {p : Str → Bool} {f : Str → Option Side} {left : Str → Bool} (h : ∀ x, left x = false) : within p f left = fun x => p x || (f x).isSome := by
  funext x; unfold within; simp [h]
theorem within_step {p : Str → Bool} {f : Str → Option Side} {left : Str → Bool} {k : Str} {s : Side} (hf : f k = some s) : (fun x => within p f left x || decide (x = k)) = within p f (fun z => left z && !decide (z = k)) := by
  funext x
  unfold within
  by_cases h : x = k
  · subst h; simp [hf]
  · simp [h]

set_option maxRecDepth 100000 in
set_option maxHeartbeats 1000000 in
theorem all_calls (w : World) (A : Option Addr) (c n : Nat) (ms : List MSide) (hl : ms.length ≤ 1000) (hn : n ≤ 1000) (h : Rd mapEnc 1 w A ms) (hm : ∀ p ∈ ms, MapG Try.prog 9 sideV w p.1 n p.2) :
    Calls Try.prog 51 #[.slice A ms.length c] w fun e w' => ∃ (v : Value) (ks : List Str), e = .returned v ∧ Own strEnc 1 9 w.heap.size w' v ks ∧ Srt ks ∧ (∀ k, k ∈ ks ↔ anyHas ms k = true) ∧ Below w.heap.size w w' := by
  have hA1 := Lib.hid h
  have HM := Lib.hid hm
  clear h hm
  have hmm := @run_makeMap Try.prog
  have hm0 : Hid (MapG Try.prog 9 boolV (w.alloc (.map #[] 0)) w.heap.size 0 (keySet (anyHas []))) := by
    have := MapG.made (P := Try.prog) (k := 9) (enc := boolV) w
    rw [← keySet_nil] at this
    exact this
  have hb0 := Lib.hid (bl_alloc (Below.refl w.heap.size w) (.map #[] 0))
  go_enter Try.func51, Try.ntmps51
  go_wp2
  go_loopg [10] ms.length (fun n' i wr => ∃ k : Nat, i = .int .i64 k ∧ k + n' = ms.length ∧ Hid (MapG Try.prog 9 boolV wr w.heap.size (k * n) (keySet (anyHas (ms.take k)))) ∧ Hid (Below w.heap.size w wr))
  case atStart => exact ⟨0, rfl, by omega, by show MapG _ _ _ _ _ _ _; rw [Nat.zero_mul, List.take_zero]; exact hm0.out, hb0.out⟩
  case round =>
    obtain ⟨k, rfl, hk, hmk, hb⟩ := hrel
    by_cases hlt : k < ms.length
    · obtain ⟨n', hn'⟩ : ∃ n', gk = n' + 1 := ⟨gk - 1, by omega⟩
      subst hn'
      have hrk := Lib.hid (hA1.out.below hb.out (Nat.le_refl _))
      rcases hrk.out with h0 | ⟨b, off, rfl, hbl, hcell⟩
      · simp [h0] at hlt
      have hx := List.getElem?_eq_getElem hlt
      have hmx := Lib.hid (HM.out ms[k] (List.getElem_mem hlt))
      have hgl := Lib.hid hmx.out.lt
      have hmw := Lib.hid (hmx.out.below hb.out hgl.out)
      have hd : Hid (anyHas (ms.take (k + 1)) = fun x => anyHas (ms.take k) x || (ms[k].2 x).isSome) := by show _ = _; rw [List.take_add_one, hx]; exact anyHas_snoc _ _
      have c0 : wr.cell? ⟨b, off + k, none⟩ = some (.map (some ms[k].1)) := by have := hcell k ms[k] hx 0 _ rfl; simpa using this
      have hkn : Hid (k * n + n ≤ 1000000) := by
        show _ ≤ _
        have : (k + 1) * n ≤ 1000 * 1000 := Nat.mul_le_mul (by omega) hn
        rw [Nat.add_mul, Nat.one_mul] at this
        omega
      have hkn1 : Hid ((k + 1) * n = k * n + n) := by show _ = _; rw [Nat.add_mul, Nat.one_mul]
      generalize ms[k] = m at *
      obtain ⟨g, f⟩ := m
      simp only at c0 hd hmw hgl
      generalize anyHas (ms.take k) = P0 at *
      obtain ⟨kn, hkne⟩ : ∃ kn, kn = k * n := ⟨_, rfl⟩
      rw [← hkne] at hmk hkn hkn1
      have HKN := Lib.hid hkne
      clear hcell hx hrk hmx hkne
      go_wp2_with (at_range; refine gmrange _ Try.underlying9 rfl _ 86 rfl Try.underlying86 g n f rfl hmw.out ?_; intro w1 cnt hrg hg1 hs1)
      have hcn := Lib.hid hrg.cnt_le
      have hz := Lib.hid hb.out.size
      have hzN := Lib.hid hmk.out.lt
      have hb4 := Lib.hid (hb.out.grown hg1 hb.out.size (fun k e => by cases e))
      have hm4 := Lib.hid (hmk.out.kept hg1 (by simp))
      have hrg0 := Lib.hid hrg
      have hs1' := Lib.hid hs1
      clear hrg hg1 hs1 hmk hb hmw
      generalize wr.heap.size = rr at *
      obtain ⟨G, hG⟩ : ∃ G, G = n' := ⟨_, rfl⟩
      go_frame
      go_loopg [6] cnt (fun j v wx => ∃ left : Str → Bool, Hid (RangeG Try.prog 9 sideV wx g rr n f left j) ∧ Hid (∀ x, left x = true → (f x).isSome = true) ∧
        Hid (MapG Try.prog 9 boolV wx w.heap.size (kn + (cnt - j)) (keySet (within P0 f left))) ∧ Hid (j ≤ cnt) ∧ Hid (Below w.heap.size w wx))
      case atStart => exact ⟨_, hrg0.out, fun x h => h, by show MapG _ _ _ _ _ _ _; rw [within_start, Nat.sub_self]; exact hm4.out, Nat.le_refl _, hb4.out⟩
      case round =>
        obtain ⟨left, hrg, hle, hmx, hj, hb⟩ := hrel
        go_wp2_with (at_next; refine gmnext _ sideV_inj Try.underlying9 rfl _ rfl g rr n f left _ rfl hrg.out hle.out ?_ ?_)
        · intro h0 hl0
          go_wp2
          go_roundg n'
          case measure => omega
          case rel =>
            refine ⟨k + 1, by go_num, by omega, ?_, hb.out⟩
            show MapG _ _ _ _ _ _ _
            rw [hd.out, hkn1.out, ← within_end hl0]
            exact hmx.out.mono (by have := hcn.out; omega)
        · intro x s w2 cnt2 hxs hlx hfx hrg2 hlt2 hg2 hs2 hen
          have hm2 := Lib.hid (hmx.out.kept hg2 (fun e => by have := hgl.out; have := hz.out; have := hzN.out; cases e; omega))
          have hb2 := Lib.hid (hb.out.grown hg2 hb.out.size (fun k e => by cases e; exact hz.out))
          have hrg3 := Lib.hid hrg2
          have hle2 : Hid (∀ z, (left z && !decide (z = x)) = true → (f z).isSome = true) := fun z h => hle.out z (by simp at h; exact h.1)
          have hst := Lib.hid (within_step (p := P0) (left := left) hfx)
          have KM : Hid (kn + (cnt - gk) < maxLen) := by show _ < _; unfold maxLen; have := hkn.out; have := hcn.out; omega
          have KX := Lib.hid hxs
          have KJ : Hid (cnt2 < gk ∧ gk ≤ cnt) := ⟨hlt2, hj.out⟩
          clear hrg2 hg2 hs2 hlx hfx hxs hlt2
          go_wp2_with (at_mapUpdate; refine gmput _ Try.underlying9 rfl _ _ _ 131 rfl Try.underlying131 w.heap.size _ _ rfl hm2.out KM.out x true rfl rfl KX.out ?_; intro w3 hm3 hg3)
          go_roundg cnt2
          case measure => exact KJ.out.1
          case rel =>
            refine ⟨_, ?_, hle2, ?_, ?_, ?_⟩
            · exact hrg3.out.kept hg3 (fun e => by have := hgl.out; cases e; omega) (fun e => by have := hz.out; have := hzN.out; cases e; omega)
            · show MapG _ _ _ _ _ _ _
              rw [← hst.out, ← keySet_put]
              exact hm3.mono (by have := KJ.out; omega)
            · show _ ≤ _; have := KJ.out; omega
            · exact hb2.out.grown hg3 hb2.out.size (fun k e => by cases e; exact Nat.le_refl _)
    · have hk' : k = ms.length := by omega
      subst hk'
      have hm2 : Hid (MapG Try.prog 9 boolV wr w.heap.size (ms.length * n) (keySet (anyHas ms))) := by show MapG _ _ _ _ _ _ _; have := hmk.out; rw [List.take_length] at this; exact this
      have hkn : Hid (ms.length * n ≤ 1000000) := by
        show _ ≤ _
        exact Nat.le_trans (Nat.mul_le_mul hl hn) (by omega)
      clear hmk
      go_wp2_with fail
      refine (keysB_calls _ _).mono ?_
      rintro e w1 ⟨rfl, rfl⟩
      go_wp2_with fail
      refine (sortedB_calls boolV w.heap.size _ _ wr hkn.out hm2.out).mono ?_
      rintro e w2 ⟨v, ks, rfl, ho, hs, hk, hle, hb2⟩
      have HO := Lib.hid ho
      have HK : Hid (∀ k, k ∈ ks ↔ anyHas ms k = true) := fun k => by rw [hk, keySet_isSome]
      have hb3 := Lib.hid (bl_then hb.out hb.out.size hb2)
      have HS := Lib.hid hs
      clear ho hk hb2 hs
      go_wp2
      go_ret
      exact ⟨v, ks, rfl, HO.out.mono hb.out.size, HS.out, HK.out, hb3.out⟩
end Go.Proofs.Ytofdmkglhjpbcaa
