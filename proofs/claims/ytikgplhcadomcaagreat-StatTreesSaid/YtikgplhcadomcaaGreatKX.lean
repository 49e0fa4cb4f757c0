/- (*counter).see. What a tree has, counted: plain. (*counter).see, walked. -/
import Derived.Test.YtikgplhcadomcaaGreatKV
import Derived.Test.YtikgplhcadomcaaGreatKF
import Derived.Test.YtikgplhcadomcaaGreatKU
namespace Go.Proofs.YtikgplhcadomcaaGreat
open Go.RowKit
set_option linter.unusedVariables false
set_option linter.unusedSimpArgs false
theorem infoIn : (Tryz.prog.info? 3).map (fun i => (i.zero, i.size, i.bytes)) = some (some (.int .i64 0), 1, 8) := by kernel_rfl
theorem Own.set1 {e base : Nat} {w : World} {g n cap : Nat} {xs : List Int} (h : Own intEnc 1 e base w (.slice (some ⟨g, 0, none⟩) n cap) xs) (i : Nat) (y : Int) : Own intEnc 1 e base (w.setCell ⟨g, i, none⟩ (.int .i64 y)) (.slice (some ⟨g, 0, none⟩) n cap) (xs.set i y) := by
  have hf : ∀ l : List Int, l.flatMap intEnc = l.map fun x => Value.int .i64 x := fun l => by
    induction l with
    | nil => rfl
    | cons x l ih => simp [intEnc, ih]
  rcases h.2 with ⟨h0, _⟩ | ⟨g', cap', cur, h0, hb, hh, h1, h2, h3, h4⟩
  · cases h0
  · injection h0 with e1 e2 e3
    injection e1 with e1
    injection e1 with e1
    subst e1 e3
    refine ⟨by rw [hf]; simp, .inr ⟨g, cap, _, by rw [List.length_set]; exact congrArg (fun m => Value.slice (some ⟨g, 0, none⟩) m cap) e2, hb, blk_set hh i _, by rw [List.length_set]; exact h1, h2, by simpa using h3, ?_⟩⟩
    rw [hf, List.map_set, ← hf, ← h4, List.length_set]
    simp only [Array.toList_setIfInBounds, Nat.mul_one]
    rw [List.take_set]
/-- What a counter has counted. -/
structure Cn where
  keys : Int
  leaves : Int
  inner : Int
  bytes : Int
  ds : List Int
  wide : Int
def Cn.cells (K : Cn) (s : Nat) (ud : Value) : Array Value := #[.pointer (some ⟨s, 0, none⟩), .int .i64 K.keys, .int .i64 K.leaves, .int .i64 K.inner, .int .i64 0, .int .i64 K.bytes, ud, .int .i64 K.wide]
structure CnT (G : Nat → Prop) (cc s : Nat) (ud : Value) (K : Cn) (w : World) : Prop where
  blk : w.heap[cc]? = some (.cells (K.cells s ud) 135 (0, 0))
  od : Own intEnc 1 3 0 w ud K.ds
  ne : ∀ k, ud.ownBlock = some k → k ≠ cc ∧ G k
  gG : G cc
  lt : ∀ i, G i → i < w.heap.size
def CnX (w0 : World) (G : Nat → Prop) (cc s : Nat) (ud : Value) (K : Cn) (w : World) : Prop := ∃ G', CnT G' cc s ud K w ∧ Chg G w0 w ∧ ∀ i, G' i → G i ∨ w0.heap.size ≤ i
section
variable {w0 w w' : World} {G F : Nat → Prop} {cc s : Nat} {ud : Value} {K K' : Cn}
theorem CnT.chg (h : CnT G cc s ud K w) (hc : Chg F w w') (hF : ∀ i, G i → ¬ F i) : CnT G cc s ud K w' :=
  ⟨hc.blk h.blk (hF _ h.gG), h.od.chg hc (fun k hk => hF _ (h.ne k hk).2), h.ne, h.gG, fun i hi => Nat.lt_of_lt_of_le (h.lt i hi) hc.size⟩
theorem CnX.below (h : CnX w0 G cc s ud K w) (hb : Below w.heap.size w w') : CnX w0 G cc s ud K w' := by
  obtain ⟨G', a, b, c⟩ := h
  exact ⟨G', a.chg (Below.chg hb fun _ => False) (fun _ _ h => h), b.trans (Below.chg hb G) (fun _ _ h => h), c⟩
theorem CnX.chgd (h : CnX w0 G cc s ud K w) : Chg G w0 w := by obtain ⟨G', a, b, c⟩ := h; exact b
theorem CnX.blk (h : CnX w0 G cc s ud K w) : w.heap[cc]? = some (.cells (K.cells s ud) 135 (0, 0)) := by obtain ⟨G', a, b, c⟩ := h; exact a.blk
theorem CnX.od (h : CnX w0 G cc s ud K w) : Own intEnc 1 3 0 w ud K.ds := by obtain ⟨G', a, b, c⟩ := h; exact a.od
theorem CnX.start (h : CnT G cc s ud K w) : CnX w G cc s ud K w := ⟨G, h, Chg.refl _ _, fun i hi => .inl hi⟩
theorem CnX.since {w1 : World} (h : CnX w1 G cc s ud K w) (hb : Below w0.heap.size w0 w1) : CnX w0 G cc s ud K w := by
  obtain ⟨G', a, b, c⟩ := h
  exact ⟨G', a, (Below.chg hb G).trans b (fun _ _ h => h), fun i hi => (c i hi).imp_right (Nat.le_trans hb.size)⟩
theorem CnX.trans {w1 : World} {G1 : Nat → Prop} {ud1 : Value} {K1 : Cn} (h : CnX w1 G1 cc s ud1 K1 w) (c1 : Chg G w0 w1) (s1 : ∀ i, G1 i → G i ∨ w0.heap.size ≤ i) : CnX w0 G cc s ud1 K1 w := by
  obtain ⟨G', a, b, c⟩ := h
  refine ⟨G', a, c1.trans b (fun i hi hf => ?_), fun i hi => ?_⟩
  · rcases s1 i hf with e | e
    · exact e
    · omega
  · rcases c i hi with e | e
    · exact s1 i e
    · exact .inr (Nat.le_trans c1.size e)
/-- A number of the counter's is set. -/
theorem CnX.set (h : CnX w0 G cc s ud K w) (i : Nat) (v : Value) (e : (K.cells s ud).setIfInBounds i v = K'.cells s ud) (hd : K'.ds = K.ds) : CnX w0 G cc s ud K' (w.setCell ⟨cc, i, none⟩ v) := by
  obtain ⟨G', a, b, c⟩ := h
  have hset : Chg (fun i => i = cc) w (w.setCell ⟨cc, i, none⟩ v) := Chg.set w _ rfl
  refine ⟨G', ⟨blk_set' a.blk i v e, by rw [hd]; exact a.od.chg hset (fun k hk e => (a.ne k hk).1 e), a.ne, a.gG, fun i hi => Nat.lt_of_lt_of_le (a.lt i hi) hset.size⟩, b.trans hset (fun i hi e => ?_), c⟩
  rcases c i (e ▸ a.gG) with q | q
  · exact q
  · omega
/-- One depth more. -/
theorem CnX.app (h : CnX w0 G cc s ud K w) {g7 n7 cap7 : Nat} {l : List Int} (ho : Own intEnc 1 3 0 w' (.slice (some ⟨g7, 0, none⟩) n7 cap7) l) (hg : w.grownBy w' ud.ownBlock) (hat : ud.ownBlock = some g7 ∨ w.heap.size ≤ g7) (hlt : g7 < w'.heap.size) :
    Hid (CnX w0 G cc s (.slice (some ⟨g7, 0, none⟩) n7 cap7) { K with ds := l } (w'.setCell ⟨cc, 6, none⟩ (.slice (some ⟨g7, 0, none⟩) n7 cap7))) ∧ w'.heap[cc]? = some (.cells (K.cells s ud) 135 (0, 0)) := by
  obtain ⟨G', a, b, c⟩ := h
  have hc : Chg (fun i => ud.ownBlock = some i) w w' := Chg.grownO hg (fun g e => e)
  have hcc := a.lt cc a.gG
  have h7 : g7 ≠ cc := by
    rcases hat with e | e
    · exact (a.ne g7 e).1
    · omega
  have hb1 := hc.blk a.blk (fun e => (a.ne cc e).1 rfl)
  have hset : Chg (fun i => i = cc) w' (w'.setCell ⟨cc, 6, none⟩ (.slice (some ⟨g7, 0, none⟩) n7 cap7)) := Chg.set w' _ rfl
  refine ⟨⟨fun i => G' i ∨ i = g7, ⟨blk_set' hb1 6 _ rfl, ho.far (fun e => h7 (by injection e)) _, fun k hk => ?_, .inl a.gG, fun i hi => ?_⟩, (b.trans hc (fun i hi e => ?_)).trans hset (fun i hi e => ?_), fun i hi => ?_⟩, hb1⟩
  · have e : k = g7 := by injection hk with hk; exact hk.symm
    subst e
    exact ⟨h7, .inr rfl⟩
  · have hs := hset.size
    rcases hi with hi | hi
    · exact Nat.lt_of_lt_of_le (Nat.lt_of_lt_of_le (a.lt i hi) hc.size) hs
    · subst hi; exact Nat.lt_of_lt_of_le hlt hs
  · rcases c i (a.ne i e).2 with q | q
    · exact q
    · omega
  · rcases c i (e ▸ a.gG) with q | q
    · exact q
    · omega
  · rcases hi with hi | hi
    · exact c i hi
    · subst hi
      rcases hat with e | e
      · exact c i (a.ne i e).2
      · exact .inr (Nat.le_trans b.size e)
/-- One node more at a depth. -/
theorem CnX.inc {g7 n7 cap7 : Nat} (h : CnX w0 G cc s (.slice (some ⟨g7, 0, none⟩) n7 cap7) K w) (i : Nat) (y : Int) : CnX w0 G cc s (.slice (some ⟨g7, 0, none⟩) n7 cap7) { K with ds := K.ds.set i y } (w.setCell ⟨g7, i, none⟩ (.int .i64 y)) := by
  obtain ⟨G', a, b, c⟩ := h
  have h7 := a.ne g7 rfl
  have hset : Chg (fun i => i = g7) w (w.setCell ⟨g7, i, none⟩ (.int .i64 y)) := Chg.set w _ rfl
  refine ⟨G', ⟨hset.blk a.blk (fun e => h7.1 e.symm), a.od.set1 i y, a.ne, a.gG, fun i hi => Nat.lt_of_lt_of_le (a.lt i hi) hset.size⟩, b.trans hset (fun i hi e => ?_), c⟩
  rcases c i (e ▸ h7.2) with q | q
  · exact q
  · omega
end
/-- The counter at cc, the node in its box at q5. -/
def SeS (cc q5 s : Nat) (K : Cn) (ud : Value) (lv : Int) (a : NdA) (nE nK : Nat) (W : World) : Prop := W.heap[cc]? = some (.cells (K.cells s ud) 135 (0, 0)) ∧ W.heap[q5]? = some (.cells #[.int .i64 lv, .slice a.A nE a.ca, .slice a.B nK a.cb] 98 (0, 0))
section
variable {cc q5 s : Nat} {K : Cn} {ud : Value} {lv : Int} {a : NdA} {nE nK : Nat} {W W' : World}
theorem SeS.cells (h : SeS cc q5 s K ud lv a nE nK W) : W.cell? ⟨cc, 0, none⟩ = some (.pointer (some ⟨s, 0, none⟩)) ∧ W.cell? ⟨cc, 1, none⟩ = some (.int .i64 K.keys) ∧ W.cell? ⟨cc, 2, none⟩ = some (.int .i64 K.leaves) ∧ W.cell? ⟨cc, 3, none⟩ = some (.int .i64 K.inner) ∧ W.cell? ⟨cc, 4, none⟩ = some (.int .i64 0) ∧ W.cell? ⟨cc, 5, none⟩ = some (.int .i64 K.bytes) ∧ W.cell? ⟨cc, 6, none⟩ = some ud ∧ W.cell? ⟨cc, 7, none⟩ = some (.int .i64 K.wide) ∧ cc < W.heap.size ∧ W.cell? ⟨q5, 0, none⟩ = some (.int .i64 lv) ∧ W.cell? ⟨q5, 1, none⟩ = some (.slice a.A nE a.ca) ∧ W.cell? ⟨q5, 2, none⟩ = some (.slice a.B nK a.cb) ∧ q5 < W.heap.size := by
  obtain ⟨h1, h2⟩ := h
  refine ⟨?_, ?_, ?_, ?_, ?_, ?_, ?_, ?_, blk_lt h1, ?_, ?_, ?_, blk_lt h2⟩
  iterate 8 (rw [blk_cell h1]; rfl)
  iterate 3 (rw [blk_cell h2]; rfl)
theorem SeS.below (h : SeS cc q5 s K ud lv a nE nK W) (hb : Below W.heap.size W W') : SeS cc q5 s K ud lv a nE nK W' := ⟨blk_below hb h.1 (blk_lt h.1), blk_below hb h.2 (blk_lt h.2)⟩
end
end Go.Proofs.YtikgplhcadomcaaGreat

namespace Go.Proofs.YtikgplhcadomcaaGreat
open Go.RowKit
set_option linter.unusedVariables false
set_option linter.unusedSimpArgs false
/-- Leaves, nodes above them, bytes, the widest, nodes by depth. -/
structure Tot where
  lf : Nat
  inn : Nat
  bt : Nat
  wd : Nat
  cv : Nat → Nat
def Tot.zero : Tot := ⟨0, 0, 0, 0, fun _ => 0⟩
def Tot.add (a b : Tot) : Tot := ⟨a.lf + b.lf, a.inn + b.inn, a.bt + b.bt, max a.wd b.wd, fun d => a.cv d + b.cv d⟩
theorem Tot.ext' {a b : Tot} (h1 : a.lf = b.lf) (h2 : a.inn = b.inn) (h3 : a.bt = b.bt) (h4 : a.wd = b.wd) (h5 : ∀ d, a.cv d = b.cv d) : a = b := by
  obtain ⟨a1, a2, a3, a4, a5⟩ := a
  obtain ⟨b1, b2, b3, b4, b5⟩ := b
  dsimp only at h1 h2 h3 h4 h5
  subst h1 h2 h3 h4
  have : a5 = b5 := funext h5
  subst this
  rfl
theorem Tot.add_zero (a : Tot) : a.add Tot.zero = a := Tot.ext' rfl rfl rfl (Nat.max_zero _) (fun _ => rfl)
theorem Tot.zero_add (a : Tot) : Tot.zero.add a = a := Tot.ext' (Nat.zero_add _) (Nat.zero_add _) (Nat.zero_add _) (Nat.zero_max _) (fun _ => Nat.zero_add _)
theorem Tot.add_assoc (a b c : Tot) : (a.add b).add c = a.add (b.add c) := Tot.ext' (Nat.add_assoc ..) (Nat.add_assoc ..) (Nat.add_assoc ..) (Nat.max_assoc ..) (fun _ => Nat.add_assoc ..)
def sumN (l : List Tot) : Tot := l.foldr Tot.add Tot.zero
theorem sumN_cons (a : Tot) (l : List Tot) : sumN (a :: l) = a.add (sumN l) := rfl
theorem sumN_app (l m : List Tot) : sumN (l ++ m) = (sumN l).add (sumN m) := by
  induction l with
  | nil => exact (Tot.zero_add _).symm
  | cons a l ih => rw [List.cons_append, sumN_cons, ih, sumN_cons, Tot.add_assoc]
theorem sumN_take (l : List Tot) (j : Nat) (N : Tot) (h : l[j]? = some N) : sumN (l.take (j + 1)) = (sumN (l.take j)).add N := by
  rw [List.take_add_one, h, sumN_app]
  exact congrArg _ (Tot.add_zero N)
def leafTot (l : List Entry) : Tot := ⟨1, 0, (NodeP.bytes ⟨0, l, []⟩).length, l.length, fun d => if d = 0 then 1 else 0⟩
def innerTot (m : Nat) (ks : List Kid) (S : Tot) : Tot := ⟨S.lf, S.inn + 1, (NodeP.bytes ⟨(m : Int), [], ks⟩).length + S.bt, max ks.length S.wd, fun d => if d = 0 then 1 else S.cv (d - 1)⟩
def SubN (C : List (List Int)) : Nat → Kid → List Entry → Tot → Prop
  | 0, k, l, N => SubT C 0 k l ∧ N = leafTot l
  | n + 1, k, l, N => ∃ (ks : List Kid) (xs : List (List Entry × Tot)), NodeOk ⟨((n + 1 : Nat) : Int), [], ks⟩ ∧ tellT C k.id = some (NodeP.bytes ⟨((n + 1 : Nat) : Int), [], ks⟩) ∧ ks.length = xs.length ∧ (xs.map Prod.fst).flatten = l ∧ N = innerTot (n + 1) ks (sumN (xs.map Prod.snd)) ∧ ∀ (i : Nat) k' x, ks[i]? = some k' → xs[i]? = some x → SubN C n k' x.1 x.2
/-- What counts are bounded by. -/
structure TotOk (n nl : Nat) (N : Tot) : Prop where
  van : ∀ d, n < d → N.cv d = 0
  cv : ∀ d, N.cv d ≤ N.lf + N.inn
  nl : nl ≤ 100 * (N.lf + N.inn)
  bt : N.bt ≤ 131072 * (N.lf + N.inn)
  wd : N.wd ≤ 100
theorem TotOk.sum {n : Nat} : ∀ (xs : List (List Entry × Tot)), (∀ x ∈ xs, TotOk n x.1.length x.2) → TotOk n (xs.map Prod.fst).flatten.length (sumN (xs.map Prod.snd))
  | [], _ => ⟨fun _ _ => rfl, fun _ => Nat.zero_le _, Nat.zero_le _, Nat.zero_le _, Nat.zero_le _⟩
  | (p, N) :: xs, h => by
    have h0 : TotOk n p.length N := h (p, N) (by simp)
    have h1 := TotOk.sum xs (fun x hx => h x (List.mem_cons_of_mem _ hx))
    rw [List.map_cons, List.map_cons, sumN_cons, List.flatten_cons, List.length_append]
    generalize sumN (xs.map Prod.snd) = S at h1 ⊢
    generalize (xs.map Prod.fst).flatten = ps at h1 ⊢
    refine ⟨fun d hd => ?_, fun d => ?_, ?_, ?_, ?_⟩
    · show N.cv d + S.cv d = 0
      rw [h0.van d hd, h1.van d hd]
    · show N.cv d + S.cv d ≤ N.lf + S.lf + (N.inn + S.inn)
      have := h0.cv d; have := h1.cv d; omega
    · show p.length + ps.length ≤ 100 * (N.lf + S.lf + (N.inn + S.inn))
      have := h0.nl; have := h1.nl; omega
    · show N.bt + S.bt ≤ 131072 * (N.lf + S.lf + (N.inn + S.inn))
      have := h0.bt; have := h1.bt; omega
    · show max N.wd S.wd ≤ 100
      have := h0.wd; have := h1.wd; omega
theorem TotOk.leaf {l : List Entry} (h : NodeOk ⟨0, l, []⟩) : TotOk 0 l.length (leafTot l) := by
  have hb := (nodeI_small h.right h.kids h.le h.lk).1
  have hl := h.le
  dsimp only at hl
  refine ⟨fun d hd => if_neg (by omega), fun d => ?_, by show l.length ≤ 100 * (1 + 0); omega, by show (NodeP.bytes ⟨0, l, []⟩).length ≤ 131072 * (1 + 0); omega, hl⟩
  show (if d = 0 then 1 else 0) ≤ 1 + 0
  split <;> omega
theorem TotOk.inner {n nl : Nat} {ks : List Kid} {S : Tot} (h : NodeOk ⟨((n + 1 : Nat) : Int), [], ks⟩) (hS : TotOk n nl S) : TotOk (n + 1) nl (innerTot (n + 1) ks S) := by
  have hb := (nodeI_small h.right h.kids h.le h.lk).1
  have hl := h.lk
  dsimp only at hl
  refine ⟨fun d hd => ?_, fun d => ?_, ?_, ?_, ?_⟩
  · show (if d = 0 then 1 else S.cv (d - 1)) = 0
    rw [if_neg (by omega)]
    exact hS.van _ (by omega)
  · show (if d = 0 then 1 else S.cv (d - 1)) ≤ S.lf + (S.inn + 1)
    have := hS.cv (d - 1)
    split <;> omega
  · show nl ≤ 100 * (S.lf + (S.inn + 1))
    have := hS.nl; omega
  · show (NodeP.bytes ⟨((n + 1 : Nat) : Int), [], ks⟩).length + S.bt ≤ 131072 * (S.lf + (S.inn + 1))
    have := hS.bt; omega
  · show max ks.length S.wd ≤ 100
    have := hS.wd; omega
theorem SubN.ok {C : List (List Int)} : ∀ {n : Nat} {k : Kid} {l : List Entry} {N : Tot}, SubN C n k l N → TotOk n l.length N
  | 0, k, l, N, ⟨h, e⟩ => by subst e; exact TotOk.leaf h.1
  | n + 1, k, l, N, ⟨ks, xs, h1, h2, h3, h5, h6, h7⟩ => by
    subst h6
    rw [← h5]
    refine TotOk.inner h1 (TotOk.sum xs fun x hx => ?_)
    obtain ⟨i, hi, hx⟩ := List.mem_iff_getElem.1 hx
    exact SubN.ok (h7 i _ x (List.getElem?_eq_getElem (by rw [h3]; exact hi)) (by rw [List.getElem?_eq_getElem hi, hx]))
def upX (m : Nat) (rows : List (List Kid)) (qs : List (List (List Entry × Tot))) : List (List Entry × Tot) := List.zipWith (fun r q => ((q.map Prod.fst).flatten, innerTot m r (sumN (q.map Prod.snd)))) rows qs
theorem lvls_sum (m : Nat) : ∀ (rows : List (List Kid)) (qs : List (List (List Entry × Tot))), qs.length = rows.length → ((upX m rows qs).map Prod.fst).flatten = (qs.flatten.map Prod.fst).flatten ∧ (sumN ((upX m rows qs).map Prod.snd)).lf = (sumN (qs.flatten.map Prod.snd)).lf ∧ (sumN ((upX m rows qs).map Prod.snd)).inn = (sumN (qs.flatten.map Prod.snd)).inn + rows.length ∧ (sumN ((upX m rows qs).map Prod.snd)).cv 0 = rows.length ∧ ∀ d, (sumN ((upX m rows qs).map Prod.snd)).cv (d + 1) = (sumN (qs.flatten.map Prod.snd)).cv d
  | [], [], _ => ⟨rfl, rfl, rfl, rfl, fun _ => rfl⟩
  | r :: rows, q :: qs, h => by
    obtain ⟨h0, h1, h2, h3, h4⟩ := lvls_sum m rows qs (by simpa using h)
    have e : upX m (r :: rows) (q :: qs) = ((q.map Prod.fst).flatten, innerTot m r (sumN (q.map Prod.snd))) :: upX m rows qs := rfl
    rw [e, List.map_cons, List.map_cons, sumN_cons, List.flatten_cons, List.flatten_cons, List.map_append, List.map_append, sumN_app, List.flatten_append, h0]
    generalize sumN ((upX m rows qs).map Prod.snd) = S at *
    generalize sumN (qs.flatten.map Prod.snd) = T at *
    generalize sumN (q.map Prod.snd) = Q at *
    refine ⟨rfl, ?_, ?_, ?_, fun d => ?_⟩
    · show Q.lf + S.lf = Q.lf + T.lf
      rw [h1]
    · show Q.inn + 1 + S.inn = Q.inn + T.inn + (rows.length + 1)
      omega
    · show 1 + S.cv 0 = rows.length + 1
      omega
    · show (if d + 1 = 0 then 1 else Q.cv (d + 1 - 1)) + S.cv (d + 1) = Q.cv d + T.cv d
      rw [if_neg (by omega), h4]
      rfl
theorem leaf_sum : ∀ ps : List (List Entry), (sumN (ps.map leafTot)).lf = ps.length ∧ (sumN (ps.map leafTot)).inn = 0 ∧ (sumN (ps.map leafTot)).cv 0 = ps.length ∧ ∀ d, (sumN (ps.map leafTot)).cv (d + 1) = 0
  | [] => ⟨rfl, rfl, rfl, fun _ => rfl⟩
  | p :: ps => by
    obtain ⟨h1, h2, h3, h4⟩ := leaf_sum ps
    rw [List.map_cons, sumN_cons]
    generalize sumN (ps.map leafTot) = S at *
    refine ⟨?_, ?_, ?_, fun d => ?_⟩
    · show 1 + S.lf = ps.length + 1
      omega
    · show 0 + S.inn = 0
      omega
    · show 1 + S.cv 0 = ps.length + 1
      omega
    · show 0 + S.cv (d + 1) = 0
      rw [h4]
/-- Levels, told by their lengths. -/
structure SumOk (ls : List Nat) (S : Tot) : Prop where
  lf : S.lf = ls.getLastD 0
  all : S.lf + S.inn = ls.sum
  cv : ∀ d, S.cv d = (ls[d]?).getD 0
theorem tower_subsN {C : List (List Int)} {E : List Entry} (hm : MapOk E) (hC : (C.length : Int) ≤ 4095) : ∀ (T : List (List Kid)) (ks : List Kid), Tower C (ks :: T) E → T.length ≤ 20 → ∃ xs : List (List Entry × Tot), xs.length = ks.length ∧ (xs.map Prod.fst).flatten = E ∧ SumOk ((ks :: T).map List.length) (sumN (xs.map Prod.snd)) ∧ ∀ (i : Nat) k x, ks[i]? = some k → xs[i]? = some x → SubN C T.length k x.1 x.2
  | [], ks, h, hT => by
    have hl : (splitE E).length = ks.length := by have := h.1; simpa [leafNs] using this.symm
    obtain ⟨s1, s2, s3, s4⟩ := leaf_sum (splitE E)
    have e1 : ((splitE E).map fun p => (p, leafTot p)).map Prod.fst = splitE E := by rw [List.map_map]; exact (List.map_congr_left fun _ _ => rfl).trans (List.map_id _)
    have e2 : ((splitE E).map fun p => (p, leafTot p)).map Prod.snd = (splitE E).map leafTot := by rw [List.map_map]; rfl
    refine ⟨(splitE E).map fun p => (p, leafTot p), by rw [List.length_map]; exact hl, by rw [e1]; exact splitE_flat E, ?_, fun i k x hk hx => ?_⟩
    · rw [e2]
      refine ⟨by rw [s1]; exact hl, by rw [s1, s2]; simpa using hl, fun d => ?_⟩
      cases d with
      | zero => rw [s3]; exact hl
      | succ d => rw [s4]; rfl
    · rw [List.getElem?_map] at hx
      cases hp : (splitE E)[i]? with
      | none => rw [hp] at hx; cases hx
      | some p =>
        rw [hp] at hx
        simp only [Option.map_some, Option.some.injEq] at hx
        subst hx
        have hn : (leafNs (splitE E))[i]? = some ⟨0, p, []⟩ := by unfold leafNs; rw [List.getElem?_map, hp]; rfl
        obtain ⟨h1, h2, -⟩ := h.2 i _ k hn hk
        exact ⟨⟨leaf_ok hm _ (List.mem_of_getElem? hn), h2, h1⟩, rfl⟩
  | ks' :: T, ks, h, hT => by
    have hT' : T.length ≤ 20 := by simp at hT; omega
    obtain ⟨xs, p1, p2, ⟨a1, a2, a3⟩, p3⟩ := tower_subsN hm hC T ks' h.2 hT'
    obtain ⟨qs, q1, q2, q3⟩ := parts_cut (groupK (T.length + 1) ks') xs (by rw [groupK_flat, p1])
    have hl : (groupK (T.length + 1) ks').length = ks.length := by have := h.1.1; simpa [innerNs] using this.symm
    obtain ⟨s0, s1, s2, s3, s4⟩ := lvls_sum (T.length + 1) (groupK (T.length + 1) ks') qs q2
    rw [q1] at s0 s1 s2
    have s4' : ∀ d, (sumN ((upX (T.length + 1) (groupK (T.length + 1) ks') qs).map Prod.snd)).cv (d + 1) = (sumN (xs.map Prod.snd)).cv d := fun d => by rw [s4, q1]
    refine ⟨upX (T.length + 1) (groupK (T.length + 1) ks') qs, ?_, ?_, ⟨?_, ?_, fun d => ?_⟩, fun i k x hk hx => ?_⟩
    · unfold upX
      rw [List.length_zipWith, q2, Nat.min_self]; exact hl
    · rw [s0, p2]
    · rw [s1, a1]
      rfl
    · rw [s1, s2, List.map_cons, List.sum_cons, ← a2]
      omega
    · cases d with
      | zero => rw [s3, hl]; rfl
      | succ d => rw [s4', a3]; rfl
    · unfold upX at hx
      have hi : i < (groupK (T.length + 1) ks').length := by
        have := (List.getElem?_eq_some_iff.1 hx).1
        rw [List.length_zipWith] at this
        omega
      have hr : (groupK (T.length + 1) ks')[i]? = some (groupK (T.length + 1) ks')[i] := List.getElem?_eq_getElem hi
      have hq : qs[i]? = some qs[i] := List.getElem?_eq_getElem (by rw [q2]; exact hi)
      rw [List.getElem?_zipWith, hr, hq] at hx
      simp only [Option.some.injEq] at hx
      subst hx
      generalize (groupK (T.length + 1) ks')[i] = r at *
      generalize qs[i] = q at *
      have hn : (innerNs (T.length + 1) (groupK (T.length + 1) ks'))[i]? = some ⟨((T.length + 1 : Nat) : Int), [], r⟩ := by unfold innerNs; rw [List.getElem?_map, hr]; rfl
      obtain ⟨h1, h2, -⟩ := h.1.2 i _ k hn hk
      obtain ⟨k1, k2⟩ := q3 i r q hr hq
      refine ⟨r, q, inner_ok ⟨by omega, by simpa using hT⟩ (tower_good hm h.2) (tower_kids h.2 hC) _ (List.mem_of_getElem? hn), h2, k1, rfl, rfl, fun j k' x' hk' hx' => ?_⟩
      obtain ⟨m, m1, m2⟩ := k2 j
      rw [groupK_flat] at m1
      exact p3 m k' x' (by rw [m1]; exact hk') (by rw [m2]; exact hx')
theorem tower_subN {C : List (List Int)} {E : List Entry} {T : List (List Kid)} {k : Kid} (hm : MapOk E) (hC : (C.length : Int) ≤ 4095) (h : Tower C ([k] :: T) E) (hT : T.length ≤ 20) : ∃ N, SubN C T.length k E N ∧ SumOk (([k] :: T).map List.length) N := by
  obtain ⟨xs, p1, p2, p3, p4⟩ := tower_subsN hm hC T [k] h hT
  obtain ⟨⟨p, N⟩, rfl⟩ : ∃ x, xs = [x] := by
    rcases xs with _ | ⟨p, _ | ⟨p2, ps⟩⟩
    · simp at p1
    · exact ⟨p, rfl⟩
    · simp at p1
  have := p4 0 k (p, N) rfl rfl
  simp at p2
  rw [← p2]
  exact ⟨N, this, by have h3 := p3; simp only [List.map_cons, List.map_nil, sumN_cons] at h3; rw [show sumN [] = Tot.zero from rfl, Tot.add_zero] at h3; exact h3⟩
/-- Depths with so many nodes more, from one depth on. -/
def dsP (ds : List Int) (a h : Nat) (cv : Nat → Nat) : List Int := (List.range (max ds.length (a + h))).map fun d => ds.getD d 0 + (if a ≤ d then (cv (d - a) : Int) else 0)
theorem dsP_len (ds : List Int) (a h : Nat) (cv : Nat → Nat) : (dsP ds a h cv).length = max ds.length (a + h) := by unfold dsP; simp
theorem dsP_get (ds : List Int) (a h : Nat) (cv : Nat → Nat) (d : Nat) : (dsP ds a h cv)[d]? = if d < max ds.length (a + h) then some (ds.getD d 0 + (if a ≤ d then (cv (d - a) : Int) else 0)) else none := by
  unfold dsP
  rw [List.getElem?_map]
  split
  · rename_i h1
    rw [List.getElem?_range h1]; rfl
  · rename_i h1
    rw [List.getElem?_eq_none (by simpa using h1)]; rfl
theorem dsP_getD (ds : List Int) (a h : Nat) (cv : Nat → Nat) (hv : ∀ d, h ≤ d → cv d = 0) (d : Nat) : (dsP ds a h cv).getD d 0 = ds.getD d 0 + (if a ≤ d then (cv (d - a) : Int) else 0) := by
  rw [List.getD_eq_getElem?_getD, dsP_get]
  split
  · rfl
  · rename_i h1
    rw [List.getD_eq_getElem?_getD, List.getElem?_eq_none (by omega)]
    split
    · rw [hv _ (by omega)]; rfl
    · rfl
theorem dsP_two (ds : List Int) (a h h' : Nat) (cv cv' cw : Nat → Nat) (hv : ∀ d, h ≤ d → cv d = 0) (h1 : 1 ≤ h') (hw : ∀ d, cw d = cv d + (if d = 0 then 0 else cv' (d - 1))) : dsP (dsP ds a h cv) (a + 1) h' cv' = dsP ds a (max h (h' + 1)) cw := by
  apply List.ext_getElem?
  intro d
  rw [dsP_get, dsP_get, dsP_len]
  have e : max (max ds.length (a + h)) (a + 1 + h') = max ds.length (a + max h (h' + 1)) := by omega
  rw [e, dsP_getD _ _ _ _ hv]
  split
  · congr 1
    by_cases h2 : a ≤ d
    · rw [if_pos h2, if_pos h2, hw]
      by_cases h3 : a + 1 ≤ d
      · rw [if_pos h3, if_neg (by omega), show d - a - 1 = d - (a + 1) by omega]
        omega
      · rw [if_neg h3, if_pos (by omega)]
        omega
    · rw [if_neg h2, if_neg h2, if_neg (by omega)]
      omega
  · rfl
def oneC : Nat → Nat := fun d => if d = 0 then 1 else 0
theorem dsP_old {ds : List Int} {a : Nat} {x : Int} (h : ds[a]? = some x) : ds.set a (x + 1) = dsP ds a 1 oneC := by
  have ha := (List.getElem?_eq_some_iff.1 h).1
  apply List.ext_getElem?
  intro d
  rw [dsP_get, List.getElem?_set]
  by_cases hd : d < ds.length
  · rw [if_pos (show d < max ds.length (a + 1) by omega)]
    by_cases e : a = d
    · subst e
      rw [if_pos rfl, if_pos ha, if_pos (Nat.le_refl _), Nat.sub_self, List.getD_eq_getElem?_getD, h]; rfl
    · rw [if_neg e, List.getD_eq_getElem?_getD, List.getElem?_eq_getElem hd]
      by_cases h2 : a ≤ d
      · rw [if_pos h2, show oneC (d - a) = 0 from if_neg (by omega)]; simp
      · rw [if_neg h2]; simp
  · rw [if_neg (by omega), if_neg (by omega), List.getElem?_eq_none (by omega)]
theorem dsP_new {ds : List Int} : (ds ++ [0]).set ds.length 1 = dsP ds ds.length 1 oneC := by
  apply List.ext_getElem?
  intro d
  rw [dsP_get, List.getElem?_set]
  have : max ds.length (ds.length + 1) = ds.length + 1 := by omega
  rw [this]
  by_cases e : ds.length = d
  · subst e
    rw [if_pos rfl, if_pos (by simp), if_pos (by omega), if_pos (Nat.le_refl _), Nat.sub_self, List.getD_eq_getElem?_getD, List.getElem?_eq_none (Nat.le_refl _)]; rfl
  · rw [if_neg e]
    by_cases hd : d < ds.length
    · rw [if_pos (by omega), List.getElem?_append_left hd, List.getD_eq_getElem?_getD, List.getElem?_eq_getElem hd, if_neg (by omega)]; simp
    · rw [if_neg (by omega), List.getElem?_eq_none (by simp; omega)]
/-- A counter that has seen more. -/
def Cn.plus (K : Cn) (a h nl : Nat) (N : Tot) : Cn := ⟨K.keys + nl, K.leaves + N.lf, K.inner + N.inn, K.bytes + N.bt, dsP K.ds a h N.cv, max K.wide N.wd⟩
theorem Cn.plus_plus (K : Cn) (a h nl m h' nl' : Nat) (ks : List Kid) (S N : Tot) (hv : ∀ d, h ≤ d + 1 → S.cv d = 0) (h0 : 1 ≤ h) (h1 : 1 ≤ h') : (K.plus a h nl (innerTot m ks S)).plus (a + 1) h' nl' N = K.plus a (max h (h' + 1)) (nl + nl') (innerTot m ks (S.add N)) := by
  unfold Cn.plus
  congr 1
  · dsimp only; omega
  · show K.leaves + (S.lf : Int) + (N.lf : Int) = K.leaves + ((S.lf + N.lf : Nat) : Int)
    omega
  · show K.inner + ((S.inn + 1 : Nat) : Int) + (N.inn : Int) = K.inner + ((S.inn + N.inn + 1 : Nat) : Int)
    omega
  · show K.bytes + (((NodeP.bytes ⟨(m : Int), [], ks⟩).length + S.bt : Nat) : Int) + (N.bt : Int) = K.bytes + (((NodeP.bytes ⟨(m : Int), [], ks⟩).length + (S.bt + N.bt) : Nat) : Int)
    omega
  · exact dsP_two K.ds a h h' _ N.cv _ (fun d hd => by
      show (if d = 0 then 1 else S.cv (d - 1)) = 0
      rw [if_neg (by omega)]
      exact hv _ (by omega)) h1 (fun d => by
      show (if d = 0 then 1 else S.cv (d - 1) + N.cv (d - 1)) = (if d = 0 then 1 else S.cv (d - 1)) + (if d = 0 then 0 else N.cv (d - 1))
      split <;> omega)
  · show max (max K.wide ((max ks.length S.wd : Nat) : Int)) (N.wd : Int) = max K.wide ((max ks.length (max S.wd N.wd) : Nat) : Int)
    omega
/-- All numbers lie between nought and b. -/
structure Cn.Le (K : Cn) (b : Nat) : Prop where
  keys : 0 ≤ K.keys ∧ K.keys ≤ b
  leaves : 0 ≤ K.leaves ∧ K.leaves ≤ b
  inner : 0 ≤ K.inner ∧ K.inner ≤ b
  bytes : 0 ≤ K.bytes ∧ K.bytes ≤ b
  ds : ∀ x ∈ K.ds, 0 ≤ x ∧ x ≤ b
  wide : 0 ≤ K.wide ∧ K.wide ≤ 100
theorem Cn.Le.plus {K : Cn} {b n nl : Nat} {N : Tot} (h : K.Le b) (hN : TotOk n nl N) (a hh : Nat) : (K.plus a hh nl N).Le (b + 131072 * (N.lf + N.inn)) := by
  obtain ⟨h1, h2, h3, h4, h5, h6⟩ := h
  have := hN.nl
  have := hN.bt
  have := hN.wd
  refine ⟨?_, ?_, ?_, ?_, fun x hx => ?_, ?_⟩
  · show 0 ≤ K.keys + (nl : Int) ∧ K.keys + (nl : Int) ≤ _; omega
  · show 0 ≤ K.leaves + (N.lf : Int) ∧ K.leaves + (N.lf : Int) ≤ _; omega
  · show 0 ≤ K.inner + (N.inn : Int) ∧ K.inner + (N.inn : Int) ≤ _; omega
  · show 0 ≤ K.bytes + (N.bt : Int) ∧ K.bytes + (N.bt : Int) ≤ _; omega
  · obtain ⟨d, hd, rfl⟩ := List.mem_iff_getElem.1 hx
    have e := dsP_get K.ds a hh N.cv d
    have hx' : (dsP K.ds a hh N.cv)[d]? = some (K.plus a hh nl N).ds[d] := List.getElem?_eq_getElem hd
    rw [hx'] at e
    split at e
    · injection e with e
      rw [e]
      have hc := hN.cv (d - a)
      have h0 : 0 ≤ K.ds.getD d 0 ∧ K.ds.getD d 0 ≤ b := by
        rw [List.getD_eq_getElem?_getD]
        cases hq : K.ds[d]? with
        | none => simp
        | some y => exact h5 y (List.mem_of_getElem? hq)
      split <;> omega
    · cases e
  · show 0 ≤ max K.wide (N.wd : Int) ∧ max K.wide (N.wd : Int) ≤ 100; omega
end Go.Proofs.YtikgplhcadomcaaGreat

namespace Go.Proofs.YtikgplhcadomcaaGreat
open Go.RowKit
set_option linter.unusedVariables false
set_option linter.unusedSimpArgs false
theorem Own.blk1 {t b : Nat} {w : World} {u : Value} {ds : List Int} (h : Own intEnc 1 t b w u ds) (hne : ds ≠ []) : ∃ g cap, u = .slice (some ⟨g, 0, none⟩) ds.length cap ∧ (∀ (i : Nat) x, ds[i]? = some x → w.cell? ⟨g, i, none⟩ = some (.int .i64 x)) ∧ (∀ i : Nat, w.frozen? ⟨g, i, none⟩ = false) ∧ g < w.heap.size := by
  rcases h.2 with ⟨_, h0⟩ | ⟨g, cap, cur, h0, hb, hh, h1, h2, h3, h4⟩
  · exact absurd (List.eq_nil_of_length_eq_zero h0) hne
  · have hf : ∀ l : List Int, l.flatMap intEnc = l.map fun x => Value.int .i64 x := fun l => by
      induction l with
      | nil => rfl
      | cons x l ih => simp [intEnc, ih]
    refine ⟨g, cap, h0, fun i x hx => ?_, fun i => blk_free hh i, blk_lt hh⟩
    rw [blk_cell hh]
    have hi := (List.getElem?_eq_some_iff.1 hx).1
    have e : (ds.flatMap intEnc)[i]? = some (.int .i64 x) := by rw [hf, List.getElem?_map, hx]; rfl
    rw [← h4, Nat.mul_one, List.getElem?_take_of_lt hi, Array.getElem?_toList] at e
    exact e
/-- Behind the loop over depths. -/
def SeW (w : World) (G : Nat → Prop) (cc s q5 : Nat) (K : Cn) (deep : Nat) (lv : Int) (a : NdA) (nE nK : Nat) (m : Nat) (W : World) : Prop :=
  ∃ ud d, CnX w G cc s ud { K with ds := d } W ∧ W.heap[q5]? = some (.cells #[.int .i64 lv, .slice a.A nE a.ca, .slice a.B nK a.cb] 98 (0, 0)) ∧ (d = K.ds ∨ (d = K.ds ++ [0] ∧ deep = K.ds.length)) ∧ deep < d.length + m
set_option maxRecDepth 100000 in
set_option maxHeartbeats 4000000 in
theorem see_calls (w : World) (G : Nat → Prop) (cc s : Nat) (ud : Value) (K : Cn) (hG : CnT G cc s ud K w) (lv : Int) (a : NdA) (nE nK deep lf inn sz b : Nat) (hcase : (lv = 0 ∧ lf = 1 ∧ inn = 0) ∨ (0 < lv ∧ lf = 0 ∧ inn = 1)) (hK : K.Le b) (hb : b ≤ 1000000000000000) (hE : nE ≤ 100) (hk : nK ≤ 100) (hsz : sz ≤ 131072) (hd : deep ≤ K.ds.length) (hdl : K.ds.length ≤ 1000) :
    Calls Tryz.prog 158 #[.pointer (some ⟨cc, 0, none⟩), .agg #[.int .i64 lv, .slice a.A nE a.ca, .slice a.B nK a.cb], .int .i64 deep, .int .i64 sz] w fun e w' => e = .returned (.tuple #[]) ∧ ∃ ud', CnX w G cc s ud' (K.plus deep 1 nE ⟨lf, inn, sz, nE + nK, oneC⟩) w' := by
  obtain ⟨W1, hW1⟩ : ∃ W, w.alloc (.cells #[.int .i64 lv, .slice a.A nE a.ca, .slice a.B nK a.cb] 98) = W := ⟨_, rfl⟩
  have hb1 : Below w.heap.size w W1 := by rw [← hW1]; exact bl_alloc (Below.refl _ w) _
  have hz1 : W1.heap[w.heap.size]? = some (.cells #[.int .i64 lv, .slice a.A nE a.ca, .slice a.B nK a.cb] 98 (0, 0)) := by rw [← hW1]; exact blk_new w _
  obtain ⟨q5, hq5⟩ : ∃ q, w.heap.size = q := ⟨_, rfl⟩
  rw [hq5] at hz1
  have hqc : q5 ≠ cc := by have := hG.lt cc hG.gG; omega
  have HQN : Hid (∀ k, G k → k ≠ q5) := fun k hk => by have := hG.lt k hk; omega
  have X1 : CnX W1 G cc s ud K W1 := CnX.start (hG.chg (Below.chg hb1 fun _ => False) (fun _ _ h => h))
  have HB1 := Lib.hid hb1
  have HQW : Hid (q5 < W1.heap.size) := blk_lt hz1
  obtain ⟨K2, hK2⟩ : ∃ K2 : Cn, K2 = { K with bytes := K.bytes + sz } := ⟨_, rfl⟩
  obtain ⟨W2, hW2⟩ : ∃ W, W1.setCell ⟨cc, 5, none⟩ (.int .i64 (K.bytes + sz)) = W := ⟨_, rfl⟩
  have X2 : CnX W1 G cc s ud K2 W2 := by rw [← hW2, hK2]; exact X1.set 5 _ rfl rfl
  have S1 : SeS cc q5 s K ud lv a nE nK W1 := ⟨X1.blk, hz1⟩
  have S2 : SeS cc q5 s K2 ud lv a nE nK W2 := ⟨X2.blk, by rw [← hW2]; exact blk_far hz1 hqc _⟩
  have XX2 := Lib.hid X2
  have HQC := Lib.hid hqc
  obtain ⟨hk1, hk2, hk3, hk4, hk5, hk6⟩ := hK
  have HDS := Lib.hid hk5
  have f1 := blk_free S1.1 5
  have f2 := blk_free S2.1 2
  have f3 := blk_free S2.1 3
  obtain ⟨c0, c1, c2, c3, c4, c5, c6, c7, cl, e0, e1, e2, el⟩ := S1.cells
  obtain ⟨d0, d1, d2, d3, d4, d5, d6, d7, dl, g0, g1, g2, gl⟩ := S2.cells
  rw [show K2.keys = K.keys by rw [hK2]] at d1
  rw [show K2.leaves = K.leaves by rw [hK2]] at d2
  rw [show K2.inner = K.inner by rw [hK2]] at d3
  have HK2 := Lib.hid hK2
  have HD := Lib.hid hd
  clear hb1 hz1 X1 S1 hG hqc hK2 hk5 X2 hd
  have hsz0 : (0 : Int) ≤ (sz : Int) := by omega
  have hb9 : (b : Int) ≤ 1000000000000000 := by omega
  have hszi : (sz : Int) ≤ 131072 := by omega
  rcases hcase with ⟨hlv, hlf, hin⟩ | ⟨hlv, hlf, hin⟩
  case' inl =>
    have hl0 : (lv == 0) = true := by rw [beq_iff_eq]; exact hlv
    clear hlv
    obtain ⟨K3, hK3⟩ : ∃ K3 : Cn, K3 = { K2 with leaves := K2.leaves + 1 } := ⟨_, rfl⟩
    obtain ⟨W3, hW3⟩ : ∃ W, W2.setCell ⟨cc, 2, none⟩ (.int .i64 (K.leaves + 1)) = W := ⟨_, rfl⟩
    have X3 : CnX W1 G cc s ud K3 W3 := by rw [← hW3, hK3]; exact XX2.out.set 2 _ (by show _ = _; rw [HK2.out]; rfl) rfl
    have S3 : SeS cc q5 s K3 ud lv a nE nK W3 := ⟨X3.blk, by rw [← hW3]; exact blk_far S2.2 HQC.out _⟩
    have HK3 : Hid (K3 = ⟨K.keys, K.leaves + (lf : Int), K.inner + (inn : Int), K.bytes + sz, K.ds, K.wide⟩) := by show _ = _; rw [hK3, HK2.out, hlf, hin]; simp
    clear hK3 hlf hin
  case' inr =>
    have hl0 : (lv == 0) = false := by rw [beq_eq_false_iff_ne]; omega
    clear hlv
    obtain ⟨K3, hK3⟩ : ∃ K3 : Cn, K3 = { K2 with inner := K2.inner + 1 } := ⟨_, rfl⟩
    obtain ⟨W3, hW3⟩ : ∃ W, W2.setCell ⟨cc, 3, none⟩ (.int .i64 (K.inner + 1)) = W := ⟨_, rfl⟩
    have X3 : CnX W1 G cc s ud K3 W3 := by rw [← hW3, hK3]; exact XX2.out.set 3 _ (by show _ = _; rw [HK2.out]; rfl) rfl
    have S3 : SeS cc q5 s K3 ud lv a nE nK W3 := ⟨X3.blk, by rw [← hW3]; exact blk_far S2.2 HQC.out _⟩
    have HK3 : Hid (K3 = ⟨K.keys, K.leaves + (lf : Int), K.inner + (inn : Int), K.bytes + sz, K.ds, K.wide⟩) := by show _ = _; rw [hK3, HK2.out, hlf, hin]; simp
    clear hK3 hlf hin
  all_goals
    have XX3 : Hid (CnX W1 G cc s ud K3 W3.drew) := X3.below (Below.refl W3.heap.size W3).drew
    have x : SeS cc q5 s K3 ud lv a nE nK W3.drew := S3.below (Below.refl W3.heap.size W3).drew
    have f5 := blk_free x.1 1
    have hkk : 0 ≤ K3.keys ∧ K3.keys ≤ b := by rw [HK3.out]; exact hk1
    have hwr : IntKind.i64.wrap (K3.keys + (nE : Int)) = K3.keys + nE := wrapI (by omega)
    have hnE : (0 : Int) ≤ (nE : Int) ∧ (nE : Int) ≤ 100 := by omega
    obtain ⟨-, i1, -, -, -, -, -, -, il, -, -, -, -⟩ := x.cells
    clear S2 X3 S3
    go_enter Tryz.func158, Tryz.ntmps158
    go_upto_region 5 with fail
    clear c0 c1 c2 c3 c4 c5 c6 c7 cl e0 e1 e2 el d0 d1 d2 d3 d4 d5 d6 d7 dl g0 g1 g2 gl hW1 hW2 hW3 f1 f2 f3
    refine wp_region_noPanic ?_
    refine wp_regionZ 12 (SeS cc q5 s K3 ud lv a nE nK) (by kernel_rfl) ?_
    refine AnyZ.takeU [12] (i := 0) (oi := ⟨some 39, _, _, _, _, _⟩) (v := ?_) rfl (by kernel_rfl) (by kernel_rfl) (by kernel_rfl) (by kernel_rfl) (by kernel_rfl) (by kernel_rfl) (fun _ _ _ h => h) (Or.inl ⟨by rfl, ?_⟩) (by assumption) ?_
    rotate_left
    · (intro w hSw; (try dsimp only at hSw); obtain ⟨kc0, kc1, kc2, kc3, kc4, kc5, kc6, kc7, klc, ke0, ke1, ke2, kle⟩ := hSw.cells; (go_simp <;> with_reducible rfl))
    try simp only [Act.put, List.setIfInBounds_toArray, List.set_cons_zero, List.set_cons_succ]
    refine AnyZ.takeU [12] (i := 1) (oi := ⟨some 40, _, _, _, _, _⟩) (v := ?_) rfl (by kernel_rfl) (by kernel_rfl) (by kernel_rfl) (by kernel_rfl) (by kernel_rfl) (by kernel_rfl) (fun _ _ _ h => h) (Or.inl ⟨by rfl, ?_⟩) (by assumption) ?_
    rotate_left
    · (intro w hSw; (try dsimp only at hSw); obtain ⟨kc0, kc1, kc2, kc3, kc4, kc5, kc6, kc7, klc, ke0, ke1, ke2, kle⟩ := hSw.cells; (go_simp <;> with_reducible rfl))
    try simp only [Act.put, List.setIfInBounds_toArray, List.set_cons_zero, List.set_cons_succ]
    refine AnyZ.takeU [12] (i := 2) (oi := ⟨some 41, _, _, _, _, _⟩) (v := ?_) rfl (by kernel_rfl) (by kernel_rfl) (by kernel_rfl) (by kernel_rfl) (by kernel_rfl) (by kernel_rfl) (fun _ _ _ h => h) (Or.inl ⟨by rfl, ?_⟩) (by assumption) ?_
    rotate_left
    · (intro w hSw; (try dsimp only at hSw); obtain ⟨kc0, kc1, kc2, kc3, kc4, kc5, kc6, kc7, klc, ke0, ke1, ke2, kle⟩ := hSw.cells; (go_simp <;> with_reducible rfl))
    try simp only [Act.put, List.setIfInBounds_toArray, List.set_cons_zero, List.set_cons_succ]
    refine AnyZ.takeU [12] (i := 3) (oi := ⟨some 42, _, _, _, _, _⟩) (v := ?_) rfl (by kernel_rfl) (by kernel_rfl) (by kernel_rfl) (by kernel_rfl) (by kernel_rfl) (by kernel_rfl) (fun _ _ _ h => h) (Or.inl ⟨by rfl, ?_⟩) (by assumption) ?_
    rotate_left
    · (intro w hSw; (try dsimp only at hSw); obtain ⟨kc0, kc1, kc2, kc3, kc4, kc5, kc6, kc7, klc, ke0, ke1, ke2, kle⟩ := hSw.cells; (go_simp <;> with_reducible rfl))
    try simp only [Act.put, List.setIfInBounds_toArray, List.set_cons_zero, List.set_cons_succ]
    refine AnyZ.takeU [12] (i := 4) (oi := ⟨some 43, _, _, _, _, _⟩) (v := ?_) rfl (by kernel_rfl) (by kernel_rfl) (by kernel_rfl) (by kernel_rfl) (by kernel_rfl) (by kernel_rfl) (fun _ _ _ h => h) (Or.inl ⟨by rfl, ?_⟩) (by assumption) ?_
    rotate_left
    · (intro w hSw; (try dsimp only at hSw); obtain ⟨kc0, kc1, kc2, kc3, kc4, kc5, kc6, kc7, klc, ke0, ke1, ke2, kle⟩ := hSw.cells; (go_simp <;> with_reducible rfl))
    try simp only [Act.put, List.setIfInBounds_toArray, List.set_cons_zero, List.set_cons_succ]
    refine AnyZ.takeU [12] (i := 5) (oi := ⟨some 44, _, _, _, _, _⟩) (v := ?_) rfl (by kernel_rfl) (by kernel_rfl) (by kernel_rfl) (by kernel_rfl) (by kernel_rfl) (by kernel_rfl) (fun _ _ _ h => h) (Or.inl ⟨by rfl, ?_⟩) (by assumption) ?_
    rotate_left
    · (intro w hSw; (try dsimp only at hSw); obtain ⟨kc0, kc1, kc2, kc3, kc4, kc5, kc6, kc7, klc, ke0, ke1, ke2, kle⟩ := hSw.cells; (go_simp <;> with_reducible rfl))
    try simp only [Act.put, List.setIfInBounds_toArray, List.set_cons_zero, List.set_cons_succ]
    refine AnyZ.takeU [12] (i := 6) (oi := ⟨some 45, _, _, _, _, _⟩) (v := ?_) rfl (by kernel_rfl) (by kernel_rfl) (by kernel_rfl) (by kernel_rfl) (by kernel_rfl) (by kernel_rfl) (fun _ _ _ h => h) (Or.inl ⟨by rfl, ?_⟩) (by assumption) ?_
    rotate_left
    · (intro w hSw; (try dsimp only at hSw); obtain ⟨kc0, kc1, kc2, kc3, kc4, kc5, kc6, kc7, klc, ke0, ke1, ke2, kle⟩ := hSw.cells; (go_simp <;> with_reducible rfl))
    try simp only [Act.put, List.setIfInBounds_toArray, List.set_cons_zero, List.set_cons_succ]
    refine AnyZ.takeU [12] (i := 7) (oi := ⟨some 46, _, _, _, _, _⟩) (v := ?_) rfl (by kernel_rfl) (by kernel_rfl) (by kernel_rfl) (by kernel_rfl) (by kernel_rfl) (by kernel_rfl) (fun _ _ _ h => h) (Or.inl ⟨by rfl, ?_⟩) (by assumption) ?_
    rotate_left
    · (intro w hSw; (try dsimp only at hSw); obtain ⟨kc0, kc1, kc2, kc3, kc4, kc5, kc6, kc7, klc, ke0, ke1, ke2, kle⟩ := hSw.cells; (go_simp <;> with_reducible rfl))
    try simp only [Act.put, List.setIfInBounds_toArray, List.set_cons_zero, List.set_cons_succ]
    refine AnyZ.takeU [12] (i := 8) (oi := ⟨some 47, _, _, _, _, _⟩) (v := ?_) rfl (by kernel_rfl) (by kernel_rfl) (by kernel_rfl) (by kernel_rfl) (by kernel_rfl) (by kernel_rfl) (fun _ _ _ h => h) (Or.inl ⟨by rfl, ?_⟩) (by assumption) ?_
    rotate_left
    · (intro w hSw; (try dsimp only at hSw); obtain ⟨kc0, kc1, kc2, kc3, kc4, kc5, kc6, kc7, klc, ke0, ke1, ke2, kle⟩ := hSw.cells; (go_simp <;> with_reducible rfl))
    try simp only [Act.put, List.setIfInBounds_toArray, List.set_cons_zero, List.set_cons_succ]
    refine AnyZ.takeU [12, 11, 10] (i := 9) (oi := ⟨some 48, _, _, _, _, _⟩) (v := ?_) rfl (by kernel_rfl) (by kernel_rfl) (by kernel_rfl) (by kernel_rfl) (by kernel_rfl) (by kernel_rfl) (fun _ _ _ h => h) (Or.inl ⟨by rfl, ?_⟩) (by assumption) ?_
    rotate_left
    · (intro w hSw; (try dsimp only at hSw); obtain ⟨kc0, kc1, kc2, kc3, kc4, kc5, kc6, kc7, klc, ke0, ke1, ke2, kle⟩ := hSw.cells; (go_simp <;> with_reducible rfl))
    try simp only [Act.put, List.setIfInBounds_toArray, List.set_cons_zero, List.set_cons_succ]
    refine AnyZ.takeU [12, 11] (i := 10) (oi := ⟨some 49, _, _, _, _, _⟩) (v := ?_) rfl (by kernel_rfl) (by kernel_rfl) (by kernel_rfl) (by kernel_rfl) (by kernel_rfl) (by kernel_rfl) (fun _ _ _ h => h) (Or.inl ⟨by rfl, ?_⟩) (by assumption) ?_
    rotate_left
    · (intro w hSw; (try dsimp only at hSw); obtain ⟨kc0, kc1, kc2, kc3, kc4, kc5, kc6, kc7, klc, ke0, ke1, ke2, kle⟩ := hSw.cells; (go_simp <;> with_reducible rfl))
    try simp only [Act.put, List.setIfInBounds_toArray, List.set_cons_zero, List.set_cons_succ]
    refine AnyZ.takeU [12] (i := 11) (oi := ⟨some 50, _, _, _, _, _⟩) (v := ?_) rfl (by kernel_rfl) (by kernel_rfl) (by kernel_rfl) (by kernel_rfl) (by kernel_rfl) (by kernel_rfl) (fun _ _ _ h => h) (Or.inl ⟨by rfl, ?_⟩) (by assumption) ?_
    rotate_left
    · (intro w hSw; (try dsimp only at hSw); obtain ⟨kc0, kc1, kc2, kc3, kc4, kc5, kc6, kc7, klc, ke0, ke1, ke2, kle⟩ := hSw.cells; (go_simp <;> with_reducible rfl))
    try simp only [Act.put, List.setIfInBounds_toArray, List.set_cons_zero, List.set_cons_succ]
    refine AnyZ.one (i := 12) (by kernel_rfl) rfl (fun K hK => ?_)
    go_simp
    refine hK.out _ _ (.inl rfl) ?_
    clear hK K
    try simp only [Act.put, List.setIfInBounds_toArray, List.set_cons_zero, List.set_cons_succ]
    refine AnyZ.done (by kernel_rfl) ?_ _
    refine NoPanic.normal ?_
    obtain ⟨K4, hK4⟩ : ∃ K4 : Cn, K4 = { K3 with keys := K3.keys + nE } := ⟨_, rfl⟩
    obtain ⟨W4, hW4⟩ : ∃ W, (W3.setCell ⟨cc, 1, none⟩ (.int .i64 (K3.keys + nE))).drew = W := ⟨_, rfl⟩
    have X4 : CnX W1 G cc s ud K4 W4 := by rw [← hW4, hK4]; exact XX3.out.set 1 _ rfl rfl
    have Z4 : W4.heap[q5]? = some (  .cells #[.int .i64 lv, .slice a.A nE a.ca, .slice a.B nK a.cb] 98 (0, 0)) := by rw [← hW4]; exact blk_far x.2 HQC.out _
    have HK4 : Hid (K4 = ⟨K.keys + nE, K3.leaves, K3.inner, K.bytes + sz, K.ds, K.wide⟩) := by show _ = _; rw [hK4, HK3.out]
    have e4 : K4.ds = K.ds := by rw [HK4.out]
    have HS4 : Hid (SeW W1 G cc s q5 K4 deep lv a nE nK 1 W4) := ⟨ud, K4.ds, X4, Z4, .inl rfl, by have := HD.out; rw [e4]; omega⟩
    have E4 := Lib.hid e4
    clear x f5 i1 il X4 Z4 e4 XX3 hK4 XX2
    go_wp2
    try rw [hW4]
    clear hkk hwr
    go_loopg [] 1 (fun m wr => SeW W1 G cc s q5 K4 deep lv a nE nK m wr)
    case atStart => exact HS4.out
    case round =>
      clear HS4 hW4
      obtain ⟨ud9, d9, X9, Z9, hd9, hm9⟩ := hrel
      have XX9 := Lib.hid X9
      have ZZ9 := Lib.hid Z9
      have HD9 := Lib.hid hd9
      have hl9 : d9.length ≤ 1001 := by
        rcases hd9 with e | ⟨e, -⟩
        · rw [e, E4.out]; omega
        · rw [e, E4.out, List.length_append]; simp; omega
      obtain ⟨A9, c9, hu9, h9c, h9b, -, -⟩ := X9.od.rd intOk
      dsimp only at hu9 h9c
      subst hu9
      have S9 : SeS cc q5 s { K4 with ds := d9 } (.slice A9 d9.length c9) lv a nE nK wr := ⟨X9.blk, Z9⟩
      obtain ⟨c0, c1, c2, c3, c4, c5, c6, c7, cl, e0, e1, e2, el⟩ := S9.cells
      dsimp only at c0 c1 c2 c3 c4 c5 c6 c7
      have hdd : deep ≤ 1001 := by have := HD.out; omega
      by_cases hlt : deep < d9.length
      · have hltf : decide ((d9.length : Int) ≤ (deep : Int)) = false := decide_eq_false (by omega)
        have hlti : (deep : Int) < (d9.length : Int) := by omega
        obtain ⟨g9, cap9, hu9, hcell, hfz, hg9⟩ := X9.od.blk1 (fun e => by dsimp only at e; rw [e] at hlt; simp at hlt)
        dsimp only at hu9 hcell
        injection hu9 with hA9 _ hc9
        subst hA9 hc9
        have hx9 : d9[deep]? = some d9[deep] := List.getElem?_eq_getElem hlt
        have hy9 := hcell deep _ hx9
        have fz := hfz deep
        have hB : 0 ≤ d9[deep] ∧ d9[deep] ≤ b := by
          have hm : d9[deep] ∈ d9 := List.getElem_mem hlt
          have h4 := E4.out
          generalize d9[deep] = y at *
          rcases hd9 with e | ⟨e, -⟩
          · rw [e, h4] at hm; exact HDS.out y hm
          · rw [e, h4] at hm
            rcases List.mem_append.1 hm with hm | hm
            · exact HDS.out y hm
            · simp at hm; subst hm; omega
        obtain ⟨y, hy⟩ : ∃ y, d9[deep] = y := ⟨_, rfl⟩
        rw [hy] at hx9 hy9 hB
        clear hy
        obtain ⟨K9, hK9⟩ : ∃ K9 : Cn, K9 = { K4 with ds := d9.set deep (y + 1) } := ⟨_, rfl⟩
        obtain ⟨W9, hW9⟩ : ∃ W, wr.setCell ⟨g9, deep, none⟩ (.int .i64 (y + 1)) = W := ⟨_, rfl⟩
        have X10 : CnX W1 G cc s (.slice (some ⟨g9, 0, none⟩) d9.length c9) K9 W9 := by rw [← hW9, hK9]; exact CnX.inc X9 deep (y + 1)
        have h9q : g9 ≠ q5 ∧ cc ≠ q5 := by
          obtain ⟨G9, a9, b9, c9'⟩ := X9
          have h1 := (a9.ne g9 rfl).2
          refine ⟨fun e => ?_, fun e => HQC.out e.symm⟩
          rcases c9' g9 h1 with h2 | h2
          · exact HQN.out g9 h2 e
          · have := HQW.out; omega
        have S9' : SeS cc q5 s K9 (.slice (some ⟨g9, 0, none⟩) d9.length c9) lv a nE nK W9.drew := SeS.below ⟨X10.blk, by rw [← hW9]; exact blk_far Z9 h9q.1.symm _⟩ (Below.refl W9.heap.size W9).drew
        have HX10 : Hid (CnX W1 G cc s (.slice (some ⟨g9, 0, none⟩) d9.length c9) K9 W9.drew) := X10.below (Below.refl W9.heap.size W9).drew
        have HK9 := Lib.hid hK9
        have hwy : IntKind.i64.wrap (y + 1) = y + 1 := wrapI (by omega)
        have hwk : IntKind.i64.wrap ((nE : Int) + (nK : Int)) = nE + nK := wrapI (by omega)
        have hdl0 : (0 : Int) ≤ (deep : Int) := by omega
        have HX9 := Lib.hid hx9
        clear S9 X10 X9 Z9 hd9 hm9 hlt hcell hfz hK9
        go_upto_region 9 with fail
        have x := S9'
        have f9 := blk_free x.1 7
        obtain ⟨-, -, -, -, -, -, -, i7, il, -, -, -, -⟩ := x.cells
        refine wp_region_noPanic ?_
        refine wp_regionZ 15 (SeS cc q5 s K9 (.slice (some ⟨g9, 0, none⟩) d9.length c9) lv a nE nK) (by kernel_rfl) ?_
        refine AnyZ.takeU [15] (i := 0) (oi := ⟨some 76, _, _, _, _, _⟩) (v := ?_) rfl (by kernel_rfl) (by kernel_rfl) (by kernel_rfl) (by kernel_rfl) (by kernel_rfl) (by kernel_rfl) (fun _ _ _ h => h) (Or.inl ⟨by rfl, ?_⟩) (by assumption) ?_
        rotate_left
        · (intro w hSw; (try dsimp only at hSw); obtain ⟨kc0, kc1, kc2, kc3, kc4, kc5, kc6, kc7, klc, ke0, ke1, ke2, kle⟩ := hSw.cells; (go_simp <;> with_reducible rfl))
        try simp only [Act.put, List.setIfInBounds_toArray, List.set_cons_zero, List.set_cons_succ]
        refine AnyZ.takeU [15] (i := 1) (oi := ⟨some 77, _, _, _, _, _⟩) (v := ?_) rfl (by kernel_rfl) (by kernel_rfl) (by kernel_rfl) (by kernel_rfl) (by kernel_rfl) (by kernel_rfl) (fun _ _ _ h => h) (Or.inl ⟨by rfl, ?_⟩) (by assumption) ?_
        rotate_left
        · (intro w hSw; (try dsimp only at hSw); obtain ⟨kc0, kc1, kc2, kc3, kc4, kc5, kc6, kc7, klc, ke0, ke1, ke2, kle⟩ := hSw.cells; (go_simp <;> with_reducible rfl))
        try simp only [Act.put, List.setIfInBounds_toArray, List.set_cons_zero, List.set_cons_succ]
        refine AnyZ.takeU [15] (i := 2) (oi := ⟨some 78, _, _, _, _, _⟩) (v := ?_) rfl (by kernel_rfl) (by kernel_rfl) (by kernel_rfl) (by kernel_rfl) (by kernel_rfl) (by kernel_rfl) (fun _ _ _ h => h) (Or.inl ⟨by rfl, ?_⟩) (by assumption) ?_
        rotate_left
        · (intro w hSw; (try dsimp only at hSw); obtain ⟨kc0, kc1, kc2, kc3, kc4, kc5, kc6, kc7, klc, ke0, ke1, ke2, kle⟩ := hSw.cells; (go_simp <;> with_reducible rfl))
        try simp only [Act.put, List.setIfInBounds_toArray, List.set_cons_zero, List.set_cons_succ]
        refine AnyZ.takeU [15] (i := 3) (oi := ⟨some 79, _, _, _, _, _⟩) (v := ?_) rfl (by kernel_rfl) (by kernel_rfl) (by kernel_rfl) (by kernel_rfl) (by kernel_rfl) (by kernel_rfl) (fun _ _ _ h => h) (Or.inl ⟨by rfl, ?_⟩) (by assumption) ?_
        rotate_left
        · (intro w hSw; (try dsimp only at hSw); obtain ⟨kc0, kc1, kc2, kc3, kc4, kc5, kc6, kc7, klc, ke0, ke1, ke2, kle⟩ := hSw.cells; (go_simp <;> with_reducible rfl))
        try simp only [Act.put, List.setIfInBounds_toArray, List.set_cons_zero, List.set_cons_succ]
        refine AnyZ.takeU [15] (i := 4) (oi := ⟨some 80, _, _, _, _, _⟩) (v := ?_) rfl (by kernel_rfl) (by kernel_rfl) (by kernel_rfl) (by kernel_rfl) (by kernel_rfl) (by kernel_rfl) (fun _ _ _ h => h) (Or.inl ⟨by rfl, ?_⟩) (by assumption) ?_
        rotate_left
        · (intro w hSw; (try dsimp only at hSw); obtain ⟨kc0, kc1, kc2, kc3, kc4, kc5, kc6, kc7, klc, ke0, ke1, ke2, kle⟩ := hSw.cells; (go_simp <;> with_reducible rfl))
        try simp only [Act.put, List.setIfInBounds_toArray, List.set_cons_zero, List.set_cons_succ]
        refine AnyZ.takeU [15] (i := 5) (oi := ⟨some 81, _, _, _, _, _⟩) (v := ?_) rfl (by kernel_rfl) (by kernel_rfl) (by kernel_rfl) (by kernel_rfl) (by kernel_rfl) (by kernel_rfl) (fun _ _ _ h => h) (Or.inl ⟨by rfl, ?_⟩) (by assumption) ?_
        rotate_left
        · (intro w hSw; (try dsimp only at hSw); obtain ⟨kc0, kc1, kc2, kc3, kc4, kc5, kc6, kc7, klc, ke0, ke1, ke2, kle⟩ := hSw.cells; (go_simp <;> with_reducible rfl))
        try simp only [Act.put, List.setIfInBounds_toArray, List.set_cons_zero, List.set_cons_succ]
        refine AnyZ.takeU [15] (i := 6) (oi := ⟨some 82, _, _, _, _, _⟩) (v := ?_) rfl (by kernel_rfl) (by kernel_rfl) (by kernel_rfl) (by kernel_rfl) (by kernel_rfl) (by kernel_rfl) (fun _ _ _ h => h) (Or.inl ⟨by rfl, ?_⟩) (by assumption) ?_
        rotate_left
        · (intro w hSw; (try dsimp only at hSw); obtain ⟨kc0, kc1, kc2, kc3, kc4, kc5, kc6, kc7, klc, ke0, ke1, ke2, kle⟩ := hSw.cells; (go_simp <;> with_reducible rfl))
        try simp only [Act.put, List.setIfInBounds_toArray, List.set_cons_zero, List.set_cons_succ]
        refine AnyZ.takeU [15] (i := 7) (oi := ⟨some 83, _, _, _, _, _⟩) (v := ?_) rfl (by kernel_rfl) (by kernel_rfl) (by kernel_rfl) (by kernel_rfl) (by kernel_rfl) (by kernel_rfl) (fun _ _ _ h => h) (Or.inl ⟨by rfl, ?_⟩) (by assumption) ?_
        rotate_left
        · (intro w hSw; (try dsimp only at hSw); obtain ⟨kc0, kc1, kc2, kc3, kc4, kc5, kc6, kc7, klc, ke0, ke1, ke2, kle⟩ := hSw.cells; (go_simp <;> with_reducible rfl))
        try simp only [Act.put, List.setIfInBounds_toArray, List.set_cons_zero, List.set_cons_succ]
        refine AnyZ.takeU [15] (i := 8) (oi := ⟨some 84, _, _, _, _, _⟩) (v := ?_) rfl (by kernel_rfl) (by kernel_rfl) (by kernel_rfl) (by kernel_rfl) (by kernel_rfl) (by kernel_rfl) (fun _ _ _ h => h) (Or.inl ⟨by rfl, ?_⟩) (by assumption) ?_
        rotate_left
        · (intro w hSw; (try dsimp only at hSw); obtain ⟨kc0, kc1, kc2, kc3, kc4, kc5, kc6, kc7, klc, ke0, ke1, ke2, kle⟩ := hSw.cells; (go_simp <;> with_reducible rfl))
        try simp only [Act.put, List.setIfInBounds_toArray, List.set_cons_zero, List.set_cons_succ]
        refine AnyZ.takeU [15] (i := 9) (oi := ⟨some 85, _, _, _, _, _⟩) (v := ?_) rfl (by kernel_rfl) (by kernel_rfl) (by kernel_rfl) (by kernel_rfl) (by kernel_rfl) (by kernel_rfl) (fun _ _ _ h => h) (Or.inl ⟨by rfl, ?_⟩) (by assumption) ?_
        rotate_left
        · (intro w hSw; (try dsimp only at hSw); obtain ⟨kc0, kc1, kc2, kc3, kc4, kc5, kc6, kc7, klc, ke0, ke1, ke2, kle⟩ := hSw.cells; (go_simp <;> with_reducible rfl))
        try simp only [Act.put, List.setIfInBounds_toArray, List.set_cons_zero, List.set_cons_succ]
        refine AnyZ.takeU [15] (i := 10) (oi := ⟨some 86, _, _, _, _, _⟩) (v := ?_) rfl (by kernel_rfl) (by kernel_rfl) (by kernel_rfl) (by kernel_rfl) (by kernel_rfl) (by kernel_rfl) (fun _ _ _ h => h) (Or.inl ⟨by rfl, ?_⟩) (by assumption) ?_
        rotate_left
        · (intro w hSw; (try dsimp only at hSw); obtain ⟨kc0, kc1, kc2, kc3, kc4, kc5, kc6, kc7, klc, ke0, ke1, ke2, kle⟩ := hSw.cells; (go_simp <;> with_reducible rfl))
        try simp only [Act.put, List.setIfInBounds_toArray, List.set_cons_zero, List.set_cons_succ]
        refine AnyZ.takeU [15] (i := 11) (oi := ⟨some 87, _, _, _, _, _⟩) (v := ?_) rfl (by kernel_rfl) (by kernel_rfl) (by kernel_rfl) (by kernel_rfl) (by kernel_rfl) (by kernel_rfl) (fun _ _ _ h => h) (Or.inl ⟨by rfl, ?_⟩) (by assumption) ?_
        rotate_left
        · (intro w hSw; (try dsimp only at hSw); obtain ⟨kc0, kc1, kc2, kc3, kc4, kc5, kc6, kc7, klc, ke0, ke1, ke2, kle⟩ := hSw.cells; (go_simp <;> with_reducible rfl))
        try simp only [Act.put, List.setIfInBounds_toArray, List.set_cons_zero, List.set_cons_succ]
        refine AnyZ.takeU [15] (i := 12) (oi := ⟨some 88, _, _, _, _, _⟩) (v := ?_) rfl (by kernel_rfl) (by kernel_rfl) (by kernel_rfl) (by kernel_rfl) (by kernel_rfl) (by kernel_rfl) (fun _ _ _ h => h) (Or.inl ⟨by rfl, ?_⟩) (by assumption) ?_
        rotate_left
        · (intro w hSw; (try dsimp only at hSw); obtain ⟨kc0, kc1, kc2, kc3, kc4, kc5, kc6, kc7, klc, ke0, ke1, ke2, kle⟩ := hSw.cells; (go_simp <;> with_reducible rfl))
        try simp only [Act.put, List.setIfInBounds_toArray, List.set_cons_zero, List.set_cons_succ]
        refine AnyZ.takeU [15, 14] (i := 13) (oi := ⟨some 89, _, _, _, _, _⟩) (v := ?_) rfl (by kernel_rfl) (by kernel_rfl) (by kernel_rfl) (by kernel_rfl) (by kernel_rfl) (by kernel_rfl) (fun _ _ _ h => h) (Or.inl ⟨by rfl, ?_⟩) (by assumption) ?_
        rotate_left
        · (intro w hSw; (try dsimp only at hSw); obtain ⟨kc0, kc1, kc2, kc3, kc4, kc5, kc6, kc7, klc, ke0, ke1, ke2, kle⟩ := hSw.cells; (go_simp <;> with_reducible rfl))
        try simp only [Act.put, List.setIfInBounds_toArray, List.set_cons_zero, List.set_cons_succ]
        refine AnyZ.takeU [15] (i := 14) (oi := ⟨some 90, _, _, _, _, _⟩) (v := ?_) rfl (by kernel_rfl) (by kernel_rfl) (by kernel_rfl) (by kernel_rfl) (by kernel_rfl) (by kernel_rfl) (fun _ _ _ h => h) (Or.inl ⟨by rfl, ?_⟩) (by assumption) ?_
        rotate_left
        · (intro w hSw; (try dsimp only at hSw); obtain ⟨kc0, kc1, kc2, kc3, kc4, kc5, kc6, kc7, klc, ke0, ke1, ke2, kle⟩ := hSw.cells; (go_simp <;> with_reducible rfl))
        try simp only [Act.put, List.setIfInBounds_toArray, List.set_cons_zero, List.set_cons_succ]
        refine AnyZ.one (i := 15) (by kernel_rfl) rfl (fun K hK => ?_)
        go_simp
        refine hK.out _ _ (.inl rfl) ?_
        clear hK K
        try simp only [Act.put, List.setIfInBounds_toArray, List.set_cons_zero, List.set_cons_succ]
        refine AnyZ.done (by kernel_rfl) ?_ _
        refine NoPanic.normal ?_
        have X11 := Lib.hid ((HX10.out.set (K' := { K9 with wide := max K9.wide ((nE : Int) + nK) }) 7 (.int .i64 (max K9.wide ((nE : Int) + nK))) rfl rfl).since HB1.out)
        clear x S9' i7 il f9
        go_wp2
        go_end0
        refine ⟨rfl, .slice (some ⟨g9, 0, none⟩) d9.length c9, ?_⟩
        have e9 : ({ K9 with wide := max K9.wide ((nE : Int) + nK) } : Cn) = K.plus deep 1 nE ⟨lf, inn, sz, nE + nK, oneC⟩ := by
          have eds : d9.set deep (y + 1) = dsP K.ds deep 1 oneC := by
            rcases HD9.out with e | ⟨e, e'⟩
            · rw [e, E4.out] at HX9 ⊢
              exact dsP_old HX9.out
            · rw [e, E4.out] at HX9 ⊢
              rw [E4.out] at e'
              have h0 := HX9.out
              rw [e', List.getElem?_append_right (Nat.le_refl _), Nat.sub_self] at h0
              injection h0 with h0
              subst h0
              rw [e']
              exact dsP_new
          rw [HK9.out]
          unfold Cn.plus
          dsimp only
          rw [eds, HK4.out, HK3.out]
          simp
        rw [← e9]
        exact X11.out
      · have hltf : decide ((d9.length : Int) ≤ (deep : Int)) = true := decide_eq_true (by omega)
        have hltn : d9.length ≤ deep := by omega
        have hltm : decide (d9.length ≤ deep) = true := decide_eq_true hltn
        have hdl0 : (0 : Int) ≤ (deep : Int) := by omega
        have OD := Lib.hid X9.od
        have hdd9 : d9 = K4.ds ∧ deep = K4.ds.length := by
          rcases hd9 with e | ⟨e, e'⟩
          · refine ⟨e, ?_⟩
            rw [E4.out]
            have := HD.out
            rw [e, E4.out] at hlt
            omega
          · rw [e, e'] at hlt; simp at hlt
        have HD10 := Lib.hid hdd9
        have l1 : Hid ((d9.length + 1) * 8 ≤ 140737488355328) := by show _ ≤ _; omega
        have l2 : Hid (d9.length + 1 ≤ 140737488355328) := by show _ ≤ _; omega
        have HMM : Hid (0 < gk) := by show _ < _; omega
        have HQ9 : Hid (∀ k, (Value.slice A9 d9.length c9).ownBlock = some k → k ≠ q5) := fun k hk => by
          obtain ⟨G9, a9, b9, c9'⟩ := XX9.out
          have h1 := (a9.ne k hk).2
          rcases c9' k h1 with h2 | h2
          · exact HQN.out k h2
          · have := HQW.out; omega
        clear S9 X9 Z9 hd9 hm9 hlt hdd9
        go_wp2_with (at_builtin; refine ap_own intOk rfl _ _ _ _ _ _ rfl Tryz.underlying44 infoIn rfl 0 (.slice A9 d9.length c9) d9 0 #[.int .i64 0] rfl rfl wr.heap.size rfl rfl OD.out (Nat.zero_le _) l1.out l2.out ?_; intro g7 cap7 w7 ho7 hg7 hat7 hlt7; obtain ⟨X12, hb12⟩ := XX9.out.app ho7 hg7 hat7 hlt7; have f12 := blk_free hb12 6; have c12 : w7.cell? ⟨cc, 6, none⟩ = some (.slice A9 d9.length c9) := (by rw [blk_cell hb12]; rfl); have cl12 := blk_lt hb12; have Z12 := Lib.hid ((hg7.block q5 (blk_lt ZZ9.out) (fun e => HQ9.out q5 e.symm rfl)).trans ZZ9.out); clear ho7 hg7 hat7 hlt7 hb12)
        go_roundg 0
        case measure => exact HMM.out
        case rel =>
          exact ⟨_, d9 ++ [0], X12.out, blk_far Z12.out HQC.out _, .inr ⟨by rw [HD10.out.1], HD10.out.2⟩, by rw [HD10.out.2, ← HD10.out.1]; simp⟩
end Go.Proofs.YtikgplhcadomcaaGreat
