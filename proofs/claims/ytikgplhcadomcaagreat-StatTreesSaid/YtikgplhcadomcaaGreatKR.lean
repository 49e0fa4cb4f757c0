/- A store as a list of texts, in memory; law10.Store, tree.Load, tree.put. tree.put. -/
import Derived.Test.YtikgplhcadomcaaGreatQLawChunkOnce
import Derived.Test.YtikgplhcadomcaaGreatQTreeP
import Derived.Test.YtikgplhcadomcaaGreatKQ
namespace Go.Proofs.YtikgplhcadomcaaGreat
open Go.RowKit
set_option linter.unusedVariables false
set_option linter.unusedSimpArgs false
/-- The store at s, its blocks in F, holds the texts C. -/
def TSt (w : World) (s p g : Nat) (F : Nat → Prop) (C : List (List Int)) : Prop := ∃ D S, StAt w s p g F D S ∧ TreeS C D S
def TDid (F : Nat → Prop) (w w' : World) (s p g : Nat) (C : List (List Int)) : Prop := ∃ F', TSt w' s p g F' C ∧ Chg F w w' ∧ ∀ i, F' i → F i ∨ w.heap.size ≤ i
section
variable {w w' w'' : World} {s p g : Nat} {F G : Nat → Prop} {C C' : List (List Int)}
theorem TSt.lt (h : TSt w s p g F C) : ∀ i, F i → i < w.heap.size := by obtain ⟨D, S, a, b⟩ := h; exact a.lt
theorem TSt.len (h : TSt w s p g F C) : (C.length : Int) ≤ 4095 := by obtain ⟨D, S, a, b⟩ := h; exact b.len
theorem TSt.below (h : TSt w s p g F C) (hb : Below w.heap.size w w') : TSt w' s p g F C := by obtain ⟨D, S, a, b⟩ := h; exact ⟨D, S, a.below hb, b⟩
theorem TSt.chg (h : TSt w s p g F C) (hc : Chg G w w') (hG : ∀ i, F i → ¬ G i) : TSt w' s p g F C := by obtain ⟨D, S, a, b⟩ := h; exact ⟨D, S, a.chg hc hG, b⟩
theorem TDid.refl (h : TSt w s p g F C) : TDid F w w s p g C := ⟨F, h, Chg.refl _ _, fun i hi => .inl hi⟩
theorem TDid.of_below (h : TSt w s p g F C) (hb : Below w.heap.size w w') : TDid F w w' s p g C := ⟨F, h.below hb, Below.chg hb F, fun i hi => .inl hi⟩
theorem TDid.after {F1 : Nat → Prop} (k : TDid F1 w' w'' s p g C') (c1 : Chg F w w') (s1 : ∀ i, F1 i → F i ∨ w.heap.size ≤ i) : TDid F w w'' s p g C' := by
  obtain ⟨F2, h2, c2, s2⟩ := k
  refine ⟨F2, h2, c1.trans c2 (fun i hi hf => ?_), fun i hi => ?_⟩
  · rcases s1 i hf with e | e
    · exact e
    · omega
  · rcases s2 i hi with e | e
    · exact s1 i e
    · exact .inr (Nat.le_trans c1.size e)
theorem TDid.then_below (k : TDid F w w' s p g C) (hb : Below w'.heap.size w' w'') : TDid F w w'' s p g C := by
  obtain ⟨F2, h2, c2, s2⟩ := k
  exact TDid.after (TDid.of_below h2 hb) c2 s2
theorem TDid.of_st {D : Dv} {S : Stor} (h : StDid F w w' s p g D S) (ht : TreeS C D S) : TDid F w w' s p g C := by
  obtain ⟨F', a, b, c⟩ := h
  exact ⟨F', ⟨D, S, a, ht⟩, b, c⟩
end
def NewS (w w' : World) (e : Ending) : Prop := ∃ s p g F, e = .returned (.pointer (some ⟨s, 0, none⟩)) ∧ TSt w' s p g F [] ∧ (∀ i, F i → w.heap.size ≤ i) ∧ Below w.heap.size w w'
set_option maxRecDepth 100000 in
set_option maxHeartbeats 4000000 in
theorem store_calls (w : World) : Calls Tryz.prog 13 #[] w fun e w' => NewS w w' e := by
  obtain ⟨c1, c2, c3, c4⟩ := new_calm 16384
  obtain ⟨f1, f2, f3⟩ := format_ok c1 c2 c3 (by rw [c4]; decide)
  have hopen := formed_open f2 (by rw [f3, c4]; decide)
  have hn4 : (formatR (Dv.new 16384)).2.n = 16384 := by rw [f3, c4]; rfl
  have hone : Fr.new 1 (((16384 : Nat) : Int) / 4) = oneT 1 := by kernel_rfl
  rw [hn4, hone] at hopen
  have HT := Lib.hid (treeS_new f2 hn4)
  have HO := Lib.hid hopen
  have HF := Lib.hid f1
  clear c1 c2 c3 c4 f1 f2 f3 hopen hn4 hone
  go_enter Tryz.func13, Tryz.ntmps13
  go_wp2_with fail
  refine (devB_new (Below.refl w.heap.size w) 16384).mono ?_
  rintro e w2 ⟨g, rfl, hd2⟩
  have D2 := Lib.hid hd2
  clear hd2
  go_wp2_with fail
  refine (devB_chOpenF D2.out (by show ([] : List Wr).length ≤ _; decide) (blank_open (by omega)) HF.out HO.out).mono ?_
  rintro e w3 ⟨s, p, rfl, hs3⟩
  have S3 : Hid (∃ F, TSt w3 s p g F [] ∧ (∀ i, F i → w.heap.size ≤ i) ∧ Below w.heap.size w w3) := by
    obtain ⟨F, a, b, c⟩ := hs3
    exact ⟨F, ⟨_, _, a, HT.out⟩, b, c⟩
  clear hs3 D2 HT HO HF
  go_wp2
  go_ret
  obtain ⟨F, a, b, c⟩ := S3.out
  exact ⟨s, p, g, F, rfl, a, b, c⟩
/-- A node that a store may hold. -/
structure NodeOk (n : NodeP) : Prop where
  right : n.right = 0
  kids : KidsOk n.kids
  le : n.ents.length ≤ 100
  lk : n.kids.length ≤ 100
def LoadR (w w' : World) (n : NodeP) (e : Ending) : Prop := ∃ a : NdA, e = .returned (.tuple #[.agg #[.int .i64 n.level, .slice a.A n.ents.length a.ca, .slice a.B n.kids.length a.cb], .int .i64 0]) ∧ NdAt w' a n ∧ a.From w.heap.size ∧ Below w.heap.size w w'
theorem nodeOf_calls (w : World) (A : Option Addr) (c : Nat) (n : NodeP) (hn : NodeOk n) (hcap : n.bytes.length ≤ c) (h : Rd u8e 1 w A n.bytes) :
    Calls Tryz.prog 104 #[.slice A n.bytes.length c] w fun e w' => LoadR w w' n e := by
  obtain ⟨lv, E, K⟩ := n
  obtain ⟨z1, z2, z3, z4, z5, z6, z7⟩ := right_zero hn.right
  obtain ⟨t1, t2⟩ := right_texts0 hn.right
  have hsm := (nodeI_small hn.right hn.kids hn.le hn.lk).1
  have hk := hn.kids
  have hle := hn.le
  have hlk := hn.lk
  have hr := hn.right
  dsimp only at z2 z3 z4 z5 t1 t2 hk hle hlk
  obtain ⟨ln, rfl⟩ : ∃ ln : Nat, lv = (ln : Int) := ⟨lv.toNat, by omega⟩
  have hln := nodeI_len ln E K
  by_cases h0 : ln = 0
  · subst h0
    have hK : K = [] := List.eq_nil_of_length_eq_zero (by simpa using z5)
    subst hK
    have hb : (NodeP.bytes ⟨((0 : Nat) : Int), E, []⟩) = lebI 0 ++ (lebI E.length ++ E.flatMap entI) := by unfold NodeP.bytes nodeI; simp
    have := nodeOfE_calls w A c 0 _ E rfl (textErr_small E t1) (by omega) hb hr hle (by unfold NodeP.bytes; simpa using hln) hcap hsm (nodeI_bytes _ _ _) h
    exact this.mono fun e w' hh => hh
  · have hpos : (0 : Int) < (ln : Int) := by omega
    rw [if_pos hpos] at z5
    have hE : E = [] := List.eq_nil_of_length_eq_zero z5
    subst hE
    have hb : (NodeP.bytes ⟨(ln : Int), [], K⟩) = lebI ln ++ (lebI K.length ++ K.flatMap kidI) := by unfold NodeP.bytes nodeI; simp
    have := nodeOfK_calls w A c ln _ K (by omega) (kidsE_small K t2) hk (by omega) hb hr hlk (by unfold NodeP.bytes; simpa using hln) hcap hsm (nodeI_bytes _ _ _) h
    exact this.mono fun e w' hh => hh
section
variable {w : World} {s p g : Nat} {F : Nat → Prop} {C : List (List Int)}
set_option maxRecDepth 100000 in
set_option maxHeartbeats 4000000 in
theorem treeLoad_calls (h : TSt w s p g F C) (id : Int) (n : NodeP) (hn : NodeOk n) (ht : tellT C id = some n.bytes) : Calls Tryz.prog 52 #[.pointer (some ⟨s, 0, none⟩), .int .u64 id] w fun e w' => LoadR w w' n e := by
  obtain ⟨W1, hW1⟩ : ∃ W, w.alloc (.cells #[.int .i64 0, .slice none 0 0, .slice none 0 0] 98) = W := ⟨_, rfl⟩
  have hb1 : Below w.heap.size w W1 := by rw [← hW1]; exact bl_alloc (Below.refl _ w) _
  obtain ⟨q, hq⟩ : ∃ q, w.heap.size = q := ⟨_, rfl⟩
  have HZ : Hid (W1.heap[q]? = some (.cells #[.int .i64 0, .slice none 0 0, .slice none 0 0] 98 (0, 0))) := by show _ = _; rw [← hW1, ← hq]; exact blk_new w _
  have hqw : Hid (w.heap.size ≤ q) := by show _ ≤ _; rw [hq]; exact Nat.le_refl _
  have B1 := Lib.hid hb1
  have HG : Hid (Calls Tryz.prog 46 #[.pointer (some ⟨s, 0, none⟩), .int .u64 id] W1 fun e w' => ReadR W1 w' n.bytes 0 e) := by
    obtain ⟨D, S, a, b⟩ := h
    have := chGet_calls (a.below hb1) id
    rw [b.tells id, ht] at this
    exact this
  have HN := Lib.hid hn
  clear h ht hn hb1
  go_enter Tryz.func52, Tryz.ntmps52
  go_wp2_with fail
  refine HG.out.mono ?_
  rintro e w2 ⟨A, c, rfl, hc, hr, hA, hb2⟩
  have Z2 := Lib.hid (blk_below hb2 HZ.out (blk_lt HZ.out))
  have B2 := Lib.hid (bl_then B1.out B1.out.size hb2)
  have R2 : Hid (Rd u8e 1 w2 A n.bytes) := hr
  clear hr hA hb2 HG hW1 hq
  go_wp2_with fail
  refine (nodeOf_calls w2 A c n HN.out hc R2.out).mono ?_
  rintro e w3 ⟨a, rfl, hn3, ⟨hfA, hfB⟩, hb3⟩
  have hqz := blk_lt Z2.out
  have FA : Hid (∀ x, a.A = some x → q < x.block) := fun x hx => Nat.lt_of_lt_of_le hqz (hfA x hx)
  have FB : Hid (∀ x, a.B = some x → q < x.block) := fun x hx => Nat.lt_of_lt_of_le hqz (hfB x hx)
  have Z3 := Lib.hid (blk_below hb3 Z2.out (blk_lt Z2.out))
  have B3 := Lib.hid (bl_then B2.out B2.out.size hb3)
  have N3 := Lib.hid hn3
  have xx0 := blk_cell Z3.out 0
  have xx1 := blk_cell Z3.out 1
  have xx2 := blk_cell Z3.out 2
  have xxl := blk_lt Z3.out
  have xf0 := blk_free Z3.out 0
  have xf1 := blk_free Z3.out 1
  have xf2 := blk_free Z3.out 2
  clear hn3 hb3 Z2 hfA hfB hqz
  go_wp2
  refine ret_row_slot2 #[.int .i64 n.level, .slice a.A n.ents.length a.ca, .slice a.B n.kids.length a.cb] (g := q) (by rfl) (by rfl) Tryz.underlying98 (by rfl) rfl (by kernel_rfl) (rowOf_blk (blk_set' (blk_set' (blk_set' Z3.out 0 _ rfl) 1 _ rfl) 2 _ rfl)) ?_
  refine ⟨a, rfl, ?_, ⟨fun x hx => Nat.le_of_lt (Nat.lt_of_le_of_lt hqw.out (FA.out x hx)), fun x hx => Nat.le_of_lt (Nat.lt_of_le_of_lt hqw.out (FB.out x hx))⟩, bl_set (bl_set (bl_set B3.out hqw.out _) hqw.out _) hqw.out _⟩
  exact N3.out.chg (F := fun i => i = q) (Chg.trans (F := fun i => i = q) (G := fun i => i = q) (Chg.trans (F := fun i => i = q) (G := fun i => i = q) (Chg.set (F := fun i => i = q) w3 _ rfl) (Chg.set (F := fun i => i = q) _ _ rfl) (fun _ _ h => h)) (Chg.set (F := fun i => i = q) _ _ rfl) (fun _ _ h => h)) (fun x hx e => by have := FA.out x hx; omega) (fun x hx e => by have := FB.out x hx; omega)
end
end Go.Proofs.YtikgplhcadomcaaGreat

namespace Go.Proofs.YtikgplhcadomcaaGreat
open Go.RowKit
set_option linter.unusedVariables false
set_option linter.unusedSimpArgs false
theorem put_right {n : NodeP} (h : NodeOk n) : n.put = (n.bytes, 0) := by
  have := (nodeI_small h.right h.kids h.le h.lk).1
  unfold NodeP.put
  rw [if_neg (by rw [h.right]; simp), if_neg (by unfold NodeP.bytes at this; omega)]
  rfl
section
variable {w : World} {s p g : Nat} {F : Nat → Prop} {C : List (List Int)}
def TPutR (F : Nat → Prop) (w w' : World) (s p g : Nat) (C : List (List Int)) (n : NodeP) (e : Ending) : Prop := e = .returned (.tuple #[.agg #[.string n.last, .int .u64 (numT C n.bytes)], .int .i64 0]) ∧ TDid F w w' s p g (addT C n.bytes)
set_option maxRecDepth 100000 in
set_option maxHeartbeats 4000000 in
theorem treePut_calls (h : TSt w s p g F C) (a : NdA) (n : NodeP) (hN : NdAt w a n) (hA : ∀ x, a.A = some x → ¬ F x.block) (hB : ∀ x, a.B = some x → ¬ F x.block) (hn : NodeOk n) (hroom : endOf 1 C + needP n.bytes.length < 4096) :
    Calls Tryz.prog 107 #[.pointer (some ⟨s, 0, none⟩), .agg #[.int .i64 n.level, .slice a.A n.ents.length a.ca, .slice a.B n.kids.length a.cb]] w fun e w' => TPutR F w w' s p g C n e := by
  have hFlt := h.lt
  have hbx := blk_new w (.cells #[.int .i64 n.level, .slice a.A n.ents.length a.ca, .slice a.B n.kids.length a.cb] 98)
  obtain ⟨W1, hW1⟩ : ∃ W, (w.alloc (.cells #[.int .i64 n.level, .slice a.A n.ents.length a.ca, .slice a.B n.kids.length a.cb] 98)).alloc (.cells #[.string ⟨#[]⟩, .int .u64 0] 109) = W := ⟨_, rfl⟩
  have hb1 : Below w.heap.size w W1 := by rw [← hW1]; exact bl_alloc (bl_alloc (Below.refl _ w) _) _
  obtain ⟨q, hq⟩ : ∃ q, w.heap.size = q := ⟨_, rfl⟩
  have XZ : Hid (W1.heap[q]? = some (.cells #[.int .i64 n.level, .slice a.A n.ents.length a.ca, .slice a.B n.kids.length a.cb] 98 (0, 0))) := by show _ = _; rw [← hW1, ← hq]; exact blk_alloc hbx _
  have HZ : Hid (W1.heap[q + 1]? = some (.cells #[.string ⟨#[]⟩, .int .u64 0] 109 (0, 0))) := by
    show _ = _
    rw [← hW1, ← hq]
    have := blk_new (w.alloc (.cells #[.int .i64 n.level, .slice a.A n.ents.length a.ca, .slice a.B n.kids.length a.cb] 98)) (.cells #[.string ⟨#[]⟩, .int .u64 0] 109)
    simpa using this
  have hqw : Hid (w.heap.size ≤ q) := by show _ ≤ _; rw [hq]; exact Nat.le_refl _
  have hqF : Hid (∀ i, F i → i < q) := fun i hi => by have := hFlt i hi; omega
  have x0 := blk_cell XZ.out 0
  have x1 := blk_cell XZ.out 1
  have x2 := blk_cell XZ.out 2
  have xl := blk_lt XZ.out
  have B1 := Lib.hid hb1
  have N1 := Lib.hid (hN.below hb1)
  have T1 := Lib.hid (h.below hb1)
  have HP := Lib.hid (nodePut_calls W1 a.A a.ca a.B a.cb n.level n.ents n.kids N1.out hn.kids (by have := hn.le; omega) (by have := hn.lk; omega))
  have HPE : Hid (NodeP.put ⟨n.level, n.ents, n.kids⟩ = (n.bytes, 0)) := put_right hn
  have HN := Lib.hid hn
  have HR := Lib.hid hroom
  have HA := Lib.hid hA
  have HBB := Lib.hid hB
  clear h hN hA hB hn hroom hbx hFlt hb1
  go_enter Tryz.func107, Tryz.ntmps107
  go_wp2_with fail
  refine HP.out.mono ?_
  rintro e w2 ⟨v, rfl, ho2, hb2⟩
  rw [HPE.out] at ho2 ⊢
  dsimp only at ho2 ⊢
  have hT2 := T1.out.below hb2
  obtain ⟨A, c, rfl, i1, i2, hr2, hAb⟩ := ho2.rd u8ok
  have hq1 : Hid (q + 1 < W1.heap.size) := blk_lt HZ.out
  have hbs := (nodeI_small HN.out.right HN.out.kids HN.out.le HN.out.lk).1
  have HC : Hid (Calls Tryz.prog 38 #[.pointer (some ⟨s, 0, none⟩), .slice A n.bytes.length c] w2 fun e w' => e = .returned (.tuple #[.int .u64 (numT C n.bytes), .int .i64 0]) ∧ TDid F w2 w' s p g (addT C n.bytes)) := by
    obtain ⟨D, S, h1, h2⟩ := hT2
    have hlen := h2.len
    have hput := h2.put
    have hidl := idsH_len (hashB n.bytes) C 1
    rw [← h2.ids] at hidl
    have hnx := h2.next
    have hca := h2.cache
    have hro := h2.room
    obtain ⟨k1, k2⟩ := h2.puts (b := n.bytes) (nodeI_bytes _ _ _) hbs HR.out
    refine (chPut_calls h1 A c n.bytes i1 (by omega) (nodeI_bytes _ _ _) hr2 (fun _ x hx hf => by have := hAb x hx; have := hqF.out _ hf; have := hq1.out; omega) (by omega) (by omega) (by omega) (by omega)).mono ?_
    intro e w' hh
    obtain ⟨e1, e2⟩ := hh
    rw [k1] at e1
    exact ⟨e1, TDid.of_st e2 k2⟩
  have hq2 : Hid (q + 1 < w2.heap.size) := Nat.lt_of_lt_of_le hq1.out hb2.size
  have X2 := Lib.hid (blk_below hb2 XZ.out (blk_lt XZ.out))
  have Z2 := Lib.hid (blk_below hb2 HZ.out (blk_lt HZ.out))
  have B2 := Lib.hid (bl_then B1.out B1.out.size hb2)
  have N2 := Lib.hid (N1.out.below hb2)
  clear x0 x1 x2 xl ho2 hb2 hT2 i1 i2 hr2 hAb hbs HP HPE hW1 hq
  go_wp2_with fail
  refine HC.out.mono ?_
  rintro e w3 ⟨rfl, F3, h3, c3, s3⟩
  have X3 := Lib.hid (c3.blk X2.out (fun hf => by have := hqF.out _ hf; omega))
  have Z3 := Lib.hid (c3.blk Z2.out (fun hf => by have := hqF.out _ hf; omega))
  have N3 := Lib.hid (N2.out.chg c3 HA.out HBB.out)
  have D3 : Hid (TDid F w2 w3 s p g (addT C n.bytes)) := ⟨F3, h3, c3, s3⟩
  have x0 := blk_cell X3.out 0
  have x1 := blk_cell X3.out 1
  have x2 := blk_cell X3.out 2
  have xl := blk_lt X3.out
  have hz3 := Lib.hid (blk_lt Z3.out)
  clear c3 s3 h3 X2 Z2 N2 HC
  go_wp2_with fail
  refine (nodeLast_calls w3 a n N3.out).mono ?_
  rintro e w4 ⟨rfl, hb4⟩
  have Z4 := Lib.hid (blk_below hb4 Z3.out hz3.out)
  have D4 := Lib.hid (D3.out.then_below hb4)
  have y0 := blk_cell Z4.out 0
  have y1 := blk_cell Z4.out 1
  have yl := blk_lt Z4.out
  have f0 := blk_free Z4.out 0
  have f1 := blk_free Z4.out 1
  clear x0 x1 x2 xl hb4 Z3 N3 D3
  go_wp2
  refine ret_row_slot2 #[.string n.last, .int .u64 (numT C n.bytes)] (g := q + 1) (by rfl) (by rfl) Tryz.underlying109 (by rfl) rfl (by kernel_rfl) (rowOf_blk (blk_set' (blk_set' Z4.out 0 _ rfl) 1 _ rfl)) ?_
  refine ⟨rfl, ?_⟩
  obtain ⟨F4, h4, c4, s4⟩ := D4.out
  have c5 : Chg (fun i => i = q + 1) w4 ((w4.setCell ⟨q + 1, 0, none⟩ (.string n.last)).setCell ⟨q + 1, 1, none⟩ (.int .u64 (numT C n.bytes))) := Chg.trans (F := fun i => i = q + 1) (G := fun i => i = q + 1) (Chg.set (F := fun i => i = q + 1) w4 _ rfl) (Chg.set (F := fun i => i = q + 1) _ _ rfl) (fun _ _ h => h)
  refine ⟨F4, h4.chg c5 (fun i hi e => ?_), ((Below.chg B2.out F).trans c4 (fun _ _ h => h)).trans c5 (fun i hi e => by have := hqw.out; omega), fun i hi => (s4 i hi).imp_right (Nat.le_trans B2.out.size)⟩
  rcases s4 i hi with hf | hf
  · have := hqF.out i hf; omega
  · have := hq2.out; omega
end
end Go.Proofs.YtikgplhcadomcaaGreat
