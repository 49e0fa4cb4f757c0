/- Maps whose keys are uint64 (printed by mk_mapu.py). No program is named here. The store of chunks in plain words; how it lies in memory. chunk: ok, Get. chunk: Find. chunk: table.add. chunk: table.copied of a table without sums. chunk: opened, Open of a device that is blank. chunk: Put. What two puts into a new store come to: plain laws, no program. -/
import Derived.Test.YtikgplhcadomcaaGreatKA
import Derived.Test.YtikgplhcadomcaaGreatKL
import Derived.Test.YtikgplhcadomcaaGreatKG
import Derived.Laws.IdiomRangeMap
import Derived.Test.YtikgplhcadomcaaGreatKI
namespace Go.Proofs.YtikgplhcadomcaaGreat
open Go.RowKit
set_option linter.unusedVariables false
set_option linter.unusedSimpArgs false

section
variable {α : Type}
def MapU (w : World) (b : Nat) (enc : α → Value) (L : List (Int × α)) : Prop :=
  ∃ es clock, w.heap[b]? = some (.map es clock) ∧ es.toList.map (fun e => (e.key, e.val)) = L.map (fun p => (Value.int .u64 p.1, enc p.2)) ∧ (L.map (·.1)).Nodup
theorem findNow_u (enc : α → Value) (q : IntKind) (k : Int) : ∀ (L : List (Int × α)) (es : List MapEntry) (i : Nat), es.map (fun e => (e.key, e.val)) = L.map (fun p => (Value.int .u64 p.1, enc p.2)) →
    Instr.findNow (.int q) (.int .u64 k) es i = some ((at? k L i).map (fun p => (p.1, enc p.2)))
  | [], es, i, h => by
    cases es with
    | nil => rfl
    | cons e es => simp at h
  | p :: L, es, i, h => by
    cases es with
    | nil => simp at h
    | cons e es =>
      simp only [List.map_cons, List.cons.injEq, Prod.mk.injEq] at h
      obtain ⟨⟨h1, h2⟩, h3⟩ := h
      unfold Instr.findNow at?
      rw [h1]
      simp only [Instr.sameNow, if_true]
      by_cases hk : k = p.1
      · simp [hk, h2]
      · have : (k == p.1) = false := by simpa using hk
        simp only [this, if_neg hk]
        exact findNow_u enc q k L es (i + 1) h3

variable {P : Program} {w : World} {b : Nat} {enc : α → Value} {L : List (Int × α)} {t kt et : TypeId}
theorem MapU.lt (h : MapU w b enc L) : b < w.heap.size := by obtain ⟨es, c, hb, _⟩ := h; exact (Array.getElem?_eq_some_iff.1 hb).1
theorem MapU.below {w' : World} {B : Nat} (h : MapU w b enc L) (hb : Below B w w') (hB : b < B) : MapU w' b enc L := by
  obtain ⟨es, c, h1, r⟩ := h
  exact ⟨es, c, by rw [hb.block b hB]; exact h1, r⟩
theorem MapU.grown {w' : World} {row : Option Nat} (h : MapU w b enc L) (hg : w.grownBy w' row) (hne : some b ≠ row) : MapU w' b enc L := by
  have hlt := h.lt
  obtain ⟨es, c, h1, r⟩ := h
  exact ⟨es, c, by rw [hg.block b hlt hne]; exact h1, r⟩
theorem MapU.nodup (h : MapU w b enc L) : (L.map (·.1)).Nodup := h.choose_spec.choose_spec.2.2
theorem runU_look (ht : P.underlying t = some (.map kt et)) (hk : P.underlying kt = some (.int .u64)) (z : Value) (hz : (zeroValue et).run P w = .ok z w) (h : MapU w b enc L) (k : Int) :
    (Instr.lookup t (.map (some b)) (.int .u64 k) false).run P w = .ok (((look L k).map enc).getD z) w := by
  obtain ⟨es, c, hb, he, hn⟩ := h
  have hf := MapKept.run_findKey (P := P) (w := w) hk (findNow_u enc .u64 k L es.toList 0 he)
  unfold look
  simp only [Instr.lookup, Sem.run_bind, run_underlying ht, Result.andThen_ok, MapKept.run_getObj_map hb, Sem.run_pure, MapKept.run_checkKey hk (show MapKept.IsKey (.int .u64) (.int .u64 k) from by simp [MapKept.IsKey]) es.isEmpty 9999, hf]
  cases at? k L 0 with
  | none => simp [hz]
  | some p => simp

theorem mapU_set {w : World} {b : Nat} {es es' : Array MapEntry} {clock clock' : Nat} {L' : List (Int × α)} (hb : w.heap[b]? = some (.map es clock))
    (he : es'.toList.map (fun e => (e.key, e.val)) = L'.map (fun p => (Value.int .u64 p.1, enc p.2))) (hn : (L'.map (·.1)).Nodup) :
    MapU { w with heap := w.heap.setIfInBounds b (.map es' clock') } b enc L' ∧ w.grownBy { w with heap := w.heap.setIfInBounds b (.map es' clock') } (some b) := by
  have hlt := (Array.getElem?_eq_some_iff.1 hb).1
  refine ⟨⟨es', clock', by simp [Array.getElem?_setIfInBounds, hlt], he, hn⟩, rfl, rfl, rfl, by simp, fun k hk hne => ?_⟩
  show (w.heap.setIfInBounds b _)[k]? = _
  rw [Array.getElem?_setIfInBounds_ne (fun e => hne (by rw [e]))]
theorem runU_upd (ht : P.underlying t = some (.map kt et)) (hk : P.underlying kt = some (.int .u64)) (h : MapU w b enc L) (k : Int) (x : α) :
    ∃ w', (Instr.mapUpdate t (.map (some b)) (.int .u64 k) (enc x)).run P w = .ok () w' ∧ MapU w' b enc (upd L k x) ∧ w.grownBy w' (some b) := by
  obtain ⟨es, c, hb, he, hn⟩ := h
  have hf := MapKept.run_findKey (P := P) (w := w) hk (findNow_u enc .u64 k L es.toList 0 he)
  have hck := fun e => MapKept.run_checkKey (P := P) (w := w) hk (show MapKept.IsKey (.int .u64) (.int .u64 k) from by simp [MapKept.IsKey]) e 9999
  have hnu := upd_nodup hn k x
  unfold upd at hnu ⊢
  rcases at_parts k L with ⟨h1, h2⟩ | ⟨A, y, B, rfl, h1⟩
  · rw [h1] at hf hnu ⊢
    obtain ⟨m1, m2⟩ := mapU_set (enc := enc) (clock' := c + 1) (es' := es.push { key := .int .u64 k, val := enc x, born := c }) hb (by simp [he]) hnu
    refine ⟨_, ?_, m1, m2⟩
    simp [Instr.mapUpdate, Sem.run_bind, run_underlying ht, MapKept.run_getObj_map hb, hck, hf, MapKept.run_setObj_map _ hb]
  · rw [h1] at hf hnu ⊢
    have hlen : es.toList.length = (A ++ (k, y) :: B).length := by have := congrArg List.length he; simpa using this
    have hi : A.length < es.toList.length := by rw [hlen]; simp
    have hkey : (es.toList[A.length]'hi).key = .int .u64 k := by
      have := congrArg (fun l => l[A.length]?) he
      simp [List.getElem?_map, List.getElem?_eq_getElem hi] at this
      exact this.1
    have hi2 : A.length < es.size := by simpa using hi
    have hkey2 : es[A.length].key = .int .u64 k := by simpa using hkey
    obtain ⟨m1, m2⟩ := mapU_set (enc := enc) (clock' := c) (es' := es.modify A.length fun e => { e with key := .int .u64 k, val := enc x }) (L' := (A ++ (k, y) :: B).set A.length (k, x)) hb (by
      rw [Array.toList_modify]
      have e1 : ((A ++ (k, y) :: B).set A.length (k, x)).map (fun p => (Value.int .u64 p.1, enc p.2)) = ((A ++ (k, y) :: B).map (fun p => (Value.int .u64 p.1, enc p.2))).set A.length (.int .u64 k, enc x) := by simp
      rw [e1, ← he]
      apply List.ext_getElem?
      intro j
      simp only [List.getElem?_map, List.getElem?_modify, List.getElem?_set, List.length_map]
      by_cases hj : A.length = j
      · subst hj; simp [List.getElem?_eq_getElem hi, hi2]
      · simp [hj]) hnu
    refine ⟨_, ?_, m1, m2⟩
    simp [Instr.mapUpdate, Sem.run_bind, run_underlying ht, MapKept.run_getObj_map hb, hck, hf, MapKept.run_setObj_map _ hb, Instr.keyThatStays, hi2, hkey2, Instr.sameBits]
end
theorem MapU.chg {α : Type} {enc : α → Value} {L : List (Int × α)} {F : Nat → Prop} {w w' : World} {b : Nat} (h : MapU w b enc L) (hc : Chg F w w') (hb : ¬ F b) : MapU w' b enc L := by
  have hlt := h.lt
  obtain ⟨es, c, h1, r⟩ := h
  exact ⟨es, c, hc.blk h1 hb, r⟩
end Go.Proofs.YtikgplhcadomcaaGreat

namespace Go.Proofs.YtikgplhcadomcaaGreat
open Go.RowKit
set_option linter.unusedVariables false
set_option linter.unusedSimpArgs false

/-! ### Plain -/
structure Pl where
  s : Span
  size : Int
def Pl.cells (x : Pl) : Array Value := #[.int .i64 x.s.start, .int .i64 x.s.pages, .int .i64 x.size]
def Pl.v (x : Pl) : Value := .agg x.cells
def Pl.ok (x : Pl) : Prop := (0 ≤ x.s.start ∧ x.s.start ≤ 16384) ∧ (0 ≤ x.s.pages ∧ x.s.pages ≤ 16384) ∧ 0 ≤ x.size ∧ x.size ≤ 131072
structure Tbl where
  places : List (Int × Pl)
  sums : List (Int × List Int)
  next : Int
structure Stor where
  P : Pg
  now : Tbl
  kept : Tbl
  state : List Int
def hashB (b : List Int) : Int := ((fnvSum (strOfNums b) : Nat) : Int)
def getC (D : Dv) (S : Stor) (id : Int) : List Int × Int := match look S.now.places id with
  | none => ([], 3)
  | some x => getR D S.P x.s x.size
def idsOf (T : Tbl) (h : Int) : List Int := (look T.sums h).getD []
def findC (D : Dv) (S : Stor) (b : List Int) : Int × Bool := match (idsOf S.now (hashB b)).find? (fun id => decide (getC D S id = (b, 0))) with
  | some id => (id, true)
  | none => (0, false)
def Tbl.add (T : Tbl) (id : Int) (x : Pl) (h : Int) : Tbl := { T with places := upd T.places id x, sums := upd T.sums h (idsOf T h ++ [id]) }
def putC (D : Dv) (S : Stor) (b : List Int) : (Int × Int) × Dv × Stor :=
  if 131072 < b.length then ((0, 2), D, S)
  else if (findC D S b).2 then (((findC D S b).1, 0), D, S)
  else if (putR D S.P b).1.2 ≠ 0 then ((0, (putR D S.P b).1.2), (putR D S.P b).2.1, { S with P := (putR D S.P b).2.2 })
  else ((S.now.next, 0), (putR D S.P b).2.1, { S with P := (putR D S.P b).2.2, now := ({ S.now with next := S.now.next + 1 } : Tbl).add S.now.next ⟨(putR D S.P b).1.1, b.length⟩ (hashB b) })

/-! ### Maps of rows -/
theorem at_map {α β : Type} (f : α → β) (k : Int) : ∀ (L : List (Int × α)) (i : Nat), at? k (L.map (fun p => (p.1, f p.2))) i = (at? k L i).map (fun q => (q.1, f q.2))
  | [], _ => rfl
  | p :: L, i => by
    unfold at?
    simp only [List.map_cons]
    split
    · rfl
    · exact at_map f k L (i + 1)
theorem look_map {α β : Type} (f : α → β) (k : Int) (L : List (Int × α)) : look (L.map (fun p => (p.1, f p.2))) k = (look L k).map f := by
  unfold look
  rw [at_map]
  cases at? k L 0 <;> rfl
theorem upd_map {α β : Type} (f : α → β) (k : Int) (x : α) (L : List (Int × α)) : (upd L k x).map (fun p => (p.1, f p.2)) = upd (L.map (fun p => (p.1, f p.2))) k (f x) := by
  unfold upd
  rw [at_map]
  cases h : at? k L 0 with
  | none => simp
  | some q => obtain ⟨j, y⟩ := q; simp [List.map_set]
theorem mem_upd {α : Type} {L : List (Int × α)} (hn : (L.map (·.1)).Nodup) {k : Int} {x : α} {p : Int × α} (h : p ∈ upd L k x) : p = (k, x) ∨ (p ∈ L ∧ p.1 ≠ k) := by
  have h1 := (look_iff (upd_nodup hn k x) p.1 p.2).2 h
  rw [look_upd hn] at h1
  by_cases hk : p.1 = k
  · rw [if_pos hk] at h1
    left
    obtain ⟨p1, p2⟩ := p
    simp only [Option.some.injEq] at h1 hk
    rw [hk, h1]
  · rw [if_neg hk] at h1
    exact .inr ⟨(look_iff hn p.1 p.2).1 h1, hk⟩
def encU (n : Int) : List Value := [.int .u64 n]
theorem encUok : Enc encU 1 := ⟨fun _ => rfl, fun x u hu => by simp [encU] at hu; subst hu; rfl, by omega⟩
/-- Rows of numbers, each with the value that holds it. -/
abbrev RowsU := List (Int × (Value × List Int))
def RowsU.plain (R : RowsU) : List (Int × List Int) := R.map (fun p => (p.1, p.2.2))
abbrev OwnU (w : World) (v : Value) (l : List Int) : Prop := Own encU 1 28 0 w v l
/-- Each row in a block of its own. -/
def Apartd (R : RowsU) : Prop := ∀ a ∈ R, ∀ b ∈ R, a.1 ≠ b.1 → ∀ k, a.2.1.ownBlock = some k → b.2.1.ownBlock ≠ some k
/-- The table T lies in the maps pm and sm; all its blocks are in F. -/
def TblAt (w : World) (pm sm : Nat) (F : Nat → Prop) (T : Tbl) : Prop :=
  ∃ R : RowsU, MapU w pm Pl.v T.places ∧ MapU w sm (fun x : Value × List Int => x.1) R ∧ RowsU.plain R = T.sums ∧ (∀ r ∈ R, OwnU w r.2.1 r.2.2 ∧ ∀ k, r.2.1.ownBlock = some k → F k ∧ k ≠ pm ∧ k ≠ sm) ∧ Apartd R ∧ pm ≠ sm ∧ F pm ∧ F sm ∧ (∀ i, F i → i < w.heap.size) ∧ (∀ r ∈ T.places, r.2.ok)
section
variable {w w' : World} {pm sm : Nat} {F G : Nat → Prop} {T : Tbl}
theorem TblAt.lt (h : TblAt w pm sm F T) : ∀ i, F i → i < w.heap.size := by obtain ⟨R, _, _, _, _, _, _, _, _, l, _⟩ := h; exact l
theorem TblAt.chg (h : TblAt w pm sm F T) (hc : Chg G w w') (hG : ∀ i, F i → ¬ G i) : TblAt w' pm sm F T := by
  obtain ⟨R, a, b, c, d, e, f, g, i, l, m⟩ := h
  exact ⟨R, a.chg hc (hG _ g), b.chg hc (hG _ i), c, fun r hr => ⟨(d r hr).1.chg hc (fun k hk => hG _ ((d r hr).2 k hk).1), (d r hr).2⟩, e, f, g, i, fun j hj => Nat.lt_of_lt_of_le (l j hj) hc.size, m⟩
theorem TblAt.below (h : TblAt w pm sm F T) (hb : Below w.heap.size w w') : TblAt w' pm sm F T := h.chg (Below.chg hb fun _ => False) (fun _ _ h => h)
end
/-! ### The store -/
def Stor.cells (S : Stor) (p pm sm km kn : Nat) (sv : Value) : Array Value := #[.pointer (some ⟨p, 0, none⟩), .map (some pm), .map (some sm), .int .u64 S.now.next, .map (some km), .map (some kn), .int .u64 S.kept.next, sv]
structure StSet (n s : Nat) (F FP FN FK : Nat → Prop) (sv : Value) : Prop where
  fp : ∀ i, FP i → F i ∧ ¬ FN i ∧ ¬ FK i ∧ i ≠ s ∧ sv.ownBlock ≠ some i
  fn : ∀ i, FN i → F i ∧ ¬ FP i ∧ ¬ FK i ∧ i ≠ s ∧ sv.ownBlock ≠ some i
  fk : ∀ i, FK i → F i ∧ ¬ FP i ∧ ¬ FN i ∧ i ≠ s ∧ sv.ownBlock ≠ some i
  fs : F s
  sv : ∀ k, sv.ownBlock = some k → F k ∧ k ≠ s
  lt : ∀ i, F i → i < n
/-- The store S lies at block s, its pager at p, its device at g; all their blocks are in F. -/
def StAt (w : World) (s p g : Nat) (F : Nat → Prop) (D : Dv) (S : Stor) : Prop :=
  ∃ (pm sm km kn : Nat) (sv : Value) (FP FN FK : Nat → Prop), w.heap[s]? = some (.cells (S.cells p pm sm km kn sv) 149 (0, 0)) ∧ PgAt w p g FP D S.P ∧ TblAt w pm sm FN S.now ∧ TblAt w km kn FK S.kept ∧ Own by1 1 5 0 w sv S.state ∧ StSet w.heap.size s F FP FN FK sv ∧ 1 ≤ S.now.next ∧ S.now.next < 1000000000000000000
def StDid (F : Nat → Prop) (w w' : World) (s p g : Nat) (D : Dv) (S : Stor) : Prop := ∃ F', StAt w' s p g F' D S ∧ Chg F w w' ∧ ∀ i, F' i → F i ∨ w.heap.size ≤ i
section
variable {w w' w'' : World} {s p g : Nat} {F G : Nat → Prop} {D D' : Dv} {S S' : Stor}
theorem StAt.lt (h : StAt w s p g F D S) : ∀ i, F i → i < w.heap.size := by obtain ⟨pm, sm, km, kn, sv, FP, FN, FK, a, b, c, d, e, t, _⟩ := h; exact t.lt
theorem StAt.fs (h : StAt w s p g F D S) : F s := by obtain ⟨pm, sm, km, kn, sv, FP, FN, FK, a, b, c, d, e, t, _⟩ := h; exact t.fs
theorem StAt.slt (h : StAt w s p g F D S) : s < w.heap.size := h.lt s h.fs
theorem StAt.chg (h : StAt w s p g F D S) (hc : Chg G w w') (hG : ∀ i, F i → ¬ G i) : StAt w' s p g F D S := by
  obtain ⟨pm, sm, km, kn, sv, FP, FN, FK, a, b, c, d, e, t, n⟩ := h
  exact ⟨pm, sm, km, kn, sv, FP, FN, FK, hc.blk a (hG _ t.fs), b.chg hc (fun i hi => hG _ (t.fp i hi).1), c.chg hc (fun i hi => hG _ (t.fn i hi).1), d.chg hc (fun i hi => hG _ (t.fk i hi).1), e.chg hc (fun i hi => hG _ (t.sv i hi).1), ⟨t.fp, t.fn, t.fk, t.fs, t.sv, fun i hi => Nat.lt_of_lt_of_le (t.lt i hi) hc.size⟩, n⟩
theorem StAt.below (h : StAt w s p g F D S) (hb : Below w.heap.size w w') : StAt w' s p g F D S := h.chg (Below.chg hb fun _ => False) (fun _ _ h => h)
theorem StDid.refl (h : StAt w s p g F D S) : StDid F w w s p g D S := ⟨F, h, Chg.refl _ _, fun i hi => .inl hi⟩
theorem StDid.of_below (h : StAt w s p g F D S) (hb : Below w.heap.size w w') : StDid F w w' s p g D S := ⟨F, h.below hb, Below.chg hb F, fun i hi => .inl hi⟩
theorem StDid.after {F1 : Nat → Prop} (k : StDid F1 w' w'' s p g D' S') (c1 : Chg F w w') (s1 : ∀ i, F1 i → F i ∨ w.heap.size ≤ i) : StDid F w w'' s p g D' S' := by
  obtain ⟨F2, h2, c2, s2⟩ := k
  refine ⟨F2, h2, c1.trans c2 (fun i hi hf => ?_), fun i hi => ?_⟩
  · rcases s1 i hf with e | e
    · exact e
    · omega
  · rcases s2 i hi with e | e
    · exact s1 i e
    · exact .inr (Nat.le_trans c1.size e)
theorem StDid.behind {F1 : Nat → Prop} (k : StDid F1 w' w'' s p g D' S') (hb : Below w.heap.size w w') (s1 : ∀ i, F1 i → F i) : StDid F w w'' s p g D' S' := k.after (Below.chg hb F) (fun i hi => .inl (s1 i hi))
theorem StDid.then_below (k : StDid F w w' s p g D S) (hb : Below w'.heap.size w' w'') : StDid F w w'' s p g D S := by
  obtain ⟨F2, h2, c2, s2⟩ := k
  exact StDid.after (StDid.of_below h2 hb) c2 s2
/-- The store opened, for a walk. -/
theorem StAt.open (h : StAt w s p g F D S) : ∃ (pm sm km kn : Nat) (sv : Value) (FP FN FK : Nat → Prop),
    w.cell? ⟨s, 0, none⟩ = some (.pointer (some ⟨p, 0, none⟩)) ∧ w.cell? ⟨s, 1, none⟩ = some (.map (some pm)) ∧ w.cell? ⟨s, 2, none⟩ = some (.map (some sm)) ∧ w.cell? ⟨s, 3, none⟩ = some (.int .u64 S.now.next) ∧ (∀ i, w.frozen? ⟨s, i, none⟩ = false) ∧
    w.heap[s]? = some (.cells (S.cells p pm sm km kn sv) 149 (0, 0)) ∧ PgAt w p g FP D S.P ∧ TblAt w pm sm FN S.now ∧ TblAt w km kn FK S.kept ∧ StSet w.heap.size s F FP FN FK sv ∧ (1 ≤ S.now.next ∧ S.now.next < 1000000000000000000) ∧
    (∀ w' D' P', PgDid FP w w' p g D' P' → StDid F w w' s p g D' { S with P := P' }) := by
  obtain ⟨pm, sm, km, kn, sv, FP, FN, FK, a, b, c, d, e, t, n⟩ := h
  refine ⟨pm, sm, km, kn, sv, FP, FN, FK, ?_, ?_, ?_, ?_, fun i => blk_free a i, a, b, c, d, t, n, fun w' D' P' hP => ?_⟩
  iterate 4 (rw [blk_cell a]; rfl)
  obtain ⟨FP', p1, c1, s1⟩ := hP
  have old : ∀ i, F i → ¬ FP i → ¬ FP' i := fun i hi hn hd => (s1 i hd).elim hn (fun q => by have := t.lt i hi; omega)
  refine ⟨fun i => F i ∨ (w.heap.size ≤ i ∧ i < w'.heap.size), ⟨pm, sm, km, kn, sv, FP', FN, FK, c1.blk a (fun q => (t.fp _ q).2.2.2.1 rfl), p1, c.chg c1 (fun i hi => (t.fn i hi).2.1), d.chg c1 (fun i hi => (t.fk i hi).2.1), e.chg c1 (fun i hi q => (t.fp i q).2.2.2.2 hi), ?_, n⟩, c1.mono (fun i _ hi => (t.fp i hi).1), fun i hi => hi.imp_right And.left⟩
  have fresh : ∀ i, w.heap.size ≤ i → ¬ F i := fun i hi hf => by have := t.lt i hf; omega
  refine ⟨fun i hi => ?_, fun i hi => ⟨.inl (t.fn i hi).1, old i (t.fn i hi).1 (t.fn i hi).2.1, (t.fn i hi).2.2⟩, fun i hi => ⟨.inl (t.fk i hi).1, old i (t.fk i hi).1 (t.fk i hi).2.1, (t.fk i hi).2.2⟩, .inl t.fs, fun k hk => ⟨.inl (t.sv k hk).1, (t.sv k hk).2⟩, ?_⟩
  · rcases s1 i hi with q | q
    · exact ⟨.inl (t.fp i q).1, (t.fp i q).2⟩
    · exact ⟨.inr ⟨q, p1.lt i hi⟩, fun z => fresh i q (t.fn i z).1, fun z => fresh i q (t.fk i z).1, fun z => fresh i q (z ▸ t.fs), fun z => fresh i q (t.sv i z).1⟩
  · rintro i (hi | hi)
    · exact Nat.lt_of_lt_of_le (t.lt i hi) c1.size
    · exact hi.2
end
end Go.Proofs.YtikgplhcadomcaaGreat

namespace Go.Proofs.YtikgplhcadomcaaGreat
open Go.RowKit
set_option linter.unusedVariables false
set_option linter.unusedSimpArgs false
theorem runU_look2 {α : Type} {enc : α → Value} {P : Program} {w : World} {b : Nat} {L : List (Int × α)} {t kt et : TypeId} (ht : P.underlying t = some (.map kt et)) (hk : P.underlying kt = some (.int .u64)) (z : Value) (hz : (zeroValue et).run P w = .ok z w) (h : MapU w b enc L) (k : Int) :
    (Instr.lookup t (.map (some b)) (.int .u64 k) true).run P w = .ok (.tuple #[((look L k).map enc).getD z, .bool (look L k).isSome]) w := by
  obtain ⟨es, c, hb, he, hn⟩ := h
  have hf := MapKept.run_findKey (P := P) (w := w) hk (findNow_u enc .u64 k L es.toList 0 he)
  unfold look
  simp only [Instr.lookup, Sem.run_bind, run_underlying ht, Result.andThen_ok, MapKept.run_getObj_map hb, Sem.run_pure, MapKept.run_checkKey hk (show MapKept.IsKey (.int .u64) (.int .u64 k) from by simp [MapKept.IsKey]) es.isEmpty 9999, hf]
  cases at? k L 0 with
  | none => simp [hz]
  | some p => simp
def lkPl (m k : Value) : Sem Value := Instr.lookup 144 m k true
theorem fold_lkPl (m k : Value) : Instr.lookup 144 m k true = lkPl m k := rfl
theorem run_lkPl {w : World} {b : Nat} {L : List (Int × Pl)} (h : MapU w b Pl.v L) (k : Int) : (lkPl (.map (some b)) (.int .u64 k)).run Tryz.prog w = .ok (.tuple #[((look L k).map Pl.v).getD (.agg #[.int .i64 0, .int .i64 0, .int .i64 0]), .bool (look L k).isSome]) w := by
  unfold lkPl
  refine runU_look2 Tryz.underlying144 Tryz.underlying28 _ ?_ h k
  obtain ⟨i0, hi, hz0, hz1, hz2⟩ := info_parts (show (Tryz.prog.info? 165).map (fun i => (i.zero, i.size, i.bytes)) = some (some (.agg #[.int .i64 0, .int .i64 0, .int .i64 0]), 3, 24) from by kernel_rfl)
  simp [zeroValue, typeInfo, hi, hz0]
attribute [local go_sem ↓ high] fold_lkPl
theorem look_mem {α : Type} {L : List (Int × α)} {k : Int} {x : α} (h : look L k = some x) : (k, x) ∈ L := by
  rcases at_spec k L with ⟨h1, _⟩ | ⟨j, y, h1, h2⟩
  · simp [look, h1] at h
  · simp [look, h1] at h
    subst h
    exact List.mem_of_getElem? h2
def ChG (s p q : Nat) (x : Pl) (W : World) : Prop := W.cell? ⟨s, 0, none⟩ = some (.pointer (some ⟨p, 0, none⟩)) ∧ s < W.heap.size ∧ W.heap[q]? = some (.cells #[.int .i64 x.s.start, .int .i64 x.s.pages, .int .i64 x.size] 165 (0, 0))
section
variable {w : World} {s p g : Nat} {F : Nat → Prop} {D : Dv} {S : Stor}
set_option maxRecDepth 100000 in
theorem chok_calls (h : StAt w s p g F D S) : Calls Tryz.prog 81 #[.pointer (some ⟨s, 0, none⟩)] w fun e w' => e = .returned (.bool true) ∧ w = w' := by
  obtain ⟨pm, sm, km, kn, sv, FP, FN, FK, c0, c1, c2, c3, fz, -, -, -, -, -, -, -⟩ := h.open
  clear c1 c2 c3
  go_enter Tryz.func81, Tryz.ntmps81
  go_wp2
  go_ret
  exact ⟨rfl, rfl⟩
set_option maxRecDepth 100000 in
set_option maxHeartbeats 1000000 in
theorem chGet_calls (h : StAt w s p g F D S) (id : Int) : Calls Tryz.prog 46 #[.pointer (some ⟨s, 0, none⟩), .int .u64 id] w fun e w' => ReadR w w' (getC D S id).1 (getC D S id).2 e := by
  have hok := Lib.hid (chok_calls h)
  have hsl := h.slt
  obtain ⟨pm, sm, km, kn, sv, FP, FN, FK, c0, c1, c2, c3, fz, hb, hP, hN, -, -, -, -⟩ := h.open
  have HP := Lib.hid hP
  obtain ⟨R, hpl, -, -, -, -, -, -, -, -, hgd⟩ := hN
  have lk := run_lkPl hpl id
  have hv0 : Hid (getC D S id = match look S.now.places id with | none => ([], 3) | some x => getR D S.P x.s x.size) := rfl
  clear c2 c3 hb hP h
  rcases hL : look S.now.places id with _ | x
  · have hv : Hid (getC D S id = ([], 3)) := by show _ = _; rw [hv0.out, hL]
    rw [hL] at lk
    simp only [Option.map_none, Option.getD_none, Option.isSome_none] at lk
    go_enter Tryz.func46, Tryz.ntmps46
    go_wp2_with fail
    refine hok.out.mono ?_
    rintro e w1 ⟨rfl, rfl⟩
    go_wp2
    go_ret2
    rw [hv.out]
    exact ⟨none, 0, rfl, Nat.le_refl _, .inl rfl, (fun a ha => by cases ha), bl_alloc (Below.refl _ w) _⟩
  · have hv : Hid (getC D S id = getR D S.P x.s x.size) := by show _ = _; rw [hv0.out, hL]
    obtain ⟨⟨b0, b1⟩, ⟨b2, b3⟩, b4, b5⟩ := hgd _ (look_mem hL)
    dsimp only at b0 b1 b2 b3 b4 b5
    rw [hL] at lk
    simp only [Option.map_some, Option.getD_some, Option.isSome_some] at lk
    unfold Pl.v Pl.cells at lk
    obtain ⟨W1, hW1⟩ : ∃ W, w.alloc (.cells #[.int .i64 x.s.start, .int .i64 x.s.pages, .int .i64 x.size] 165) = W := ⟨_, rfl⟩
    have hb1 : Below w.heap.size w W1 := by rw [← hW1]; exact bl_alloc (Below.refl _ w) _
    obtain ⟨q, hq⟩ : ∃ q, w.heap.size = q := ⟨_, rfl⟩
    have hS0 : ChG s p q x W1.drew := ⟨(hb1.drew.cell hsl).trans c0, Nat.lt_of_lt_of_le hsl hb1.size, by rw [← hW1, ← hq]; exact blk_new w _⟩
    have HG := Lib.hid (pgGet_calls (HP.out.below hb1.drew) x.s x.size (by omega) (by omega) (by omega) (by omega))
    have HB := Lib.hid hb1.drew
    clear hb1 hgd hpl hv0 hL
    go_enter Tryz.func46, Tryz.ntmps46
    go_wp2_with fail
    refine hok.out.mono ?_
    rintro e w1 ⟨rfl, rfl⟩
    go_wp2
    refine wp_region_noPanic ?_
    refine wp_region_held_drew (S := ChG s p q x) (by kernel_rfl) (hS0) (fun hHeld => ?_)
    refine wpAnyH_take (i := 0) (oi := ⟨some 23, _, _, _, _, _⟩) (v := ?_) rfl (by kernel_rfl) (by kernel_rfl) (by kernel_rfl) (fun _ _ _ h => h) (Or.inl ⟨by rfl, ?_⟩) (by assumption) ?_
    rotate_left
    · (intro w hSw; (try dsimp only at hSw); obtain ⟨k0, kl0, kr⟩ := hSw; have kc0 := blk_cell kr 0; have kc1 := blk_cell kr 1; have kc2 := blk_cell kr 2; have klr := blk_lt kr; (go_simp <;> with_reducible rfl))
    try simp only [Act.put, List.setIfInBounds_toArray, List.set_cons_zero, List.set_cons_succ]
    refine wpAnyH_take (i := 1) (oi := ⟨some 24, _, _, _, _, _⟩) (v := ?_) rfl (by kernel_rfl) (by kernel_rfl) (by kernel_rfl) (fun _ _ _ h => h) (Or.inl ⟨by rfl, ?_⟩) (by assumption) ?_
    rotate_left
    · (intro w hSw; (try dsimp only at hSw); obtain ⟨k0, kl0, kr⟩ := hSw; have kc0 := blk_cell kr 0; have kc1 := blk_cell kr 1; have kc2 := blk_cell kr 2; have klr := blk_lt kr; (go_simp <;> with_reducible rfl))
    try simp only [Act.put, List.setIfInBounds_toArray, List.set_cons_zero, List.set_cons_succ]
    refine wpAnyH_take (i := 2) (oi := ⟨some 25, _, _, _, _, _⟩) (v := ?_) rfl (by kernel_rfl) (by kernel_rfl) (by kernel_rfl) (fun _ _ _ h => h) (Or.inl ⟨by rfl, ?_⟩) (by assumption) ?_
    rotate_left
    · (intro w hSw; (try dsimp only at hSw); obtain ⟨k0, kl0, kr⟩ := hSw; have kc0 := blk_cell kr 0; have kc1 := blk_cell kr 1; have kc2 := blk_cell kr 2; have klr := blk_lt kr; (go_simp <;> with_reducible rfl))
    try simp only [Act.put, List.setIfInBounds_toArray, List.set_cons_zero, List.set_cons_succ]
    refine wpAnyH_take (i := 3) (oi := ⟨some 26, _, _, _, _, _⟩) (v := ?_) rfl (by kernel_rfl) (by kernel_rfl) (by kernel_rfl) (fun _ _ _ h => h) (Or.inl ⟨by rfl, ?_⟩) (by assumption) ?_
    rotate_left
    · (intro w hSw; (try dsimp only at hSw); obtain ⟨k0, kl0, kr⟩ := hSw; have kc0 := blk_cell kr 0; have kc1 := blk_cell kr 1; have kc2 := blk_cell kr 2; have klr := blk_lt kr; (go_simp <;> with_reducible rfl))
    try simp only [Act.put, List.setIfInBounds_toArray, List.set_cons_zero, List.set_cons_succ]
    refine wpAnyH_take (i := 4) (oi := ⟨some 27, _, _, _, _, _⟩) (v := ?_) rfl (by kernel_rfl) (by kernel_rfl) (by kernel_rfl) (fun _ _ _ h => h) (Or.inl ⟨by rfl, ?_⟩) (by assumption) ?_
    rotate_left
    · (intro w hSw; (try dsimp only at hSw); obtain ⟨k0, kl0, kr⟩ := hSw; have kc0 := blk_cell kr 0; have kc1 := blk_cell kr 1; have kc2 := blk_cell kr 2; have klr := blk_lt kr; (go_simp <;> with_reducible rfl))
    try simp only [Act.put, List.setIfInBounds_toArray, List.set_cons_zero, List.set_cons_succ]
    refine wpAnyH_take (i := 5) (oi := ⟨some 28, _, _, _, _, _⟩) (v := ?_) rfl (by kernel_rfl) (by kernel_rfl) (by kernel_rfl) (fun _ _ _ h => h) (Or.inl ⟨by rfl, ?_⟩) (by assumption) ?_
    rotate_left
    · (intro w hSw; (try dsimp only at hSw); obtain ⟨k0, kl0, kr⟩ := hSw; have kc0 := blk_cell kr 0; have kc1 := blk_cell kr 1; have kc2 := blk_cell kr 2; have klr := blk_lt kr; (go_simp <;> with_reducible rfl))
    try simp only [Act.put, List.setIfInBounds_toArray, List.set_cons_zero, List.set_cons_succ]
    refine wpAnyH_take (i := 6) (oi := ⟨some 29, _, _, _, _, _⟩) (v := ?_) rfl (by kernel_rfl) (by kernel_rfl) (by kernel_rfl) (fun _ _ _ h => h) (Or.inl ⟨by rfl, ?_⟩) (by assumption) ?_
    rotate_left
    · (intro w hSw; (try dsimp only at hSw); obtain ⟨k0, kl0, kr⟩ := hSw; have kc0 := blk_cell kr 0; have kc1 := blk_cell kr 1; have kc2 := blk_cell kr 2; have klr := blk_lt kr; (go_simp <;> with_reducible rfl))
    try simp only [Act.put, List.setIfInBounds_toArray, List.set_cons_zero, List.set_cons_succ]
    refine wpAnyH_take (i := 7) (oi := ⟨some 30, _, _, _, _, _⟩) (v := ?_) rfl (by kernel_rfl) (by kernel_rfl) (by kernel_rfl) (fun _ _ _ h => h) (Or.inl ⟨by rfl, ?_⟩) (by assumption) ?_
    rotate_left
    · (intro w hSw; (try dsimp only at hSw); obtain ⟨k0, kl0, kr⟩ := hSw; have kc0 := blk_cell kr 0; have kc1 := blk_cell kr 1; have kc2 := blk_cell kr 2; have klr := blk_lt kr; (go_simp <;> with_reducible rfl))
    try simp only [Act.put, List.setIfInBounds_toArray, List.set_cons_zero, List.set_cons_succ]
    refine wpAnyH_ready (rs := [8]) (by kernel_rfl) (by simp) ?_
    refine AllReadyH.cons rfl (fun K hK => ?_) AllReadyH.nil
    go_simp
    go_at_call 99
    refine HG.out.mono ?_
    rintro e w9 ⟨A9, c9, rfl, hc9, hrd9, hA9, hb9⟩
    have S9 : ChG s p q x w9 := ⟨(hb9.cell hS0.2.1).trans hS0.1, Nat.lt_of_lt_of_le hS0.2.1 hb9.size, blk_below hb9 hS0.2.2 (blk_lt hS0.2.2)⟩
    refine hK.out _ _ (by assumption) (fun _ => ?_)
    clear hK K
    try simp only [Act.put, List.setIfInBounds_toArray, List.set_cons_zero, List.set_cons_succ]
    refine wpAnyH_take (i := 9) (oi := ⟨some 32, _, _, _, _, _⟩) (v := ?_) rfl (by kernel_rfl) (by kernel_rfl) (by kernel_rfl) (fun _ _ _ h => h) (Or.inl ⟨by rfl, ?_⟩) (by assumption) ?_
    rotate_left
    · (intro w hSw; (try dsimp only at hSw); obtain ⟨k0, kl0, kr⟩ := hSw; have kc0 := blk_cell kr 0; have kc1 := blk_cell kr 1; have kc2 := blk_cell kr 2; have klr := blk_lt kr; (go_simp <;> with_reducible rfl))
    try simp only [Act.put, List.setIfInBounds_toArray, List.set_cons_zero, List.set_cons_succ]
    refine wpAnyH_take (i := 10) (oi := ⟨some 33, _, _, _, _, _⟩) (v := ?_) rfl (by kernel_rfl) (by kernel_rfl) (by kernel_rfl) (fun _ _ _ h => h) (Or.inl ⟨by rfl, ?_⟩) (by assumption) ?_
    rotate_left
    · (intro w hSw; (try dsimp only at hSw); obtain ⟨k0, kl0, kr⟩ := hSw; have kc0 := blk_cell kr 0; have kc1 := blk_cell kr 1; have kc2 := blk_cell kr 2; have klr := blk_lt kr; (go_simp <;> with_reducible rfl))
    try simp only [Act.put, List.setIfInBounds_toArray, List.set_cons_zero, List.set_cons_succ]
    refine wpAnyH_take (i := 11) (oi := ⟨some 4, _, _, _, _, _⟩) (v := ?_) rfl (by kernel_rfl) (by kernel_rfl) (by kernel_rfl) (fun _ _ _ h => h) (Or.inl ⟨by rfl, ?_⟩) (by assumption) ?_
    rotate_left
    · (intro w hSw; (try dsimp only at hSw); obtain ⟨k0, kl0, kr⟩ := hSw; have kc0 := blk_cell kr 0; have kc1 := blk_cell kr 1; have kc2 := blk_cell kr 2; have klr := blk_lt kr; (go_simp <;> with_reducible rfl))
    try simp only [Act.put, List.setIfInBounds_toArray, List.set_cons_zero, List.set_cons_succ]
    refine wpAnyH_take (i := 12) (oi := ⟨some 5, _, _, _, _, _⟩) (v := ?_) rfl (by kernel_rfl) (by kernel_rfl) (by kernel_rfl) (fun _ _ _ h => h) (Or.inl ⟨by rfl, ?_⟩) (by assumption) ?_
    rotate_left
    · (intro w hSw; (try dsimp only at hSw); obtain ⟨k0, kl0, kr⟩ := hSw; have kc0 := blk_cell kr 0; have kc1 := blk_cell kr 1; have kc2 := blk_cell kr 2; have klr := blk_lt kr; (go_simp <;> with_reducible rfl))
    try simp only [Act.put, List.setIfInBounds_toArray, List.set_cons_zero, List.set_cons_succ]
    refine wpAnyH_done (by kernel_rfl) ?_ _
    refine NoPanic.normal ?_
    go_wp2
    go_ret2
    rw [hv.out]
    have hBw : w.heap.size ≤ W1.drew.heap.size := HB.out.size
    exact ⟨A9, c9, rfl, hc9, hrd9, (fun a ha => by have := hA9 a ha; omega), bl_then HB.out HB.out.size hb9⟩
end
end Go.Proofs.YtikgplhcadomcaaGreat

namespace Go.Proofs.YtikgplhcadomcaaGreat
open Go.RowKit
set_option linter.unusedVariables false
set_option linter.unusedSimpArgs false
def lkSm (m k : Value) : Sem Value := Instr.lookup 145 m k false
theorem fold_lkSm (m k : Value) : Instr.lookup 145 m k false = lkSm m k := rfl
theorem run_lkSm {w : World} {b : Nat} {R : RowsU} (h : MapU w b (fun x : Value × List Int => x.1) R) (k : Int) : (lkSm (.map (some b)) (.int .u64 k)).run Tryz.prog w = .ok (((look R k).map (fun x : Value × List Int => x.1)).getD (.slice none 0 0)) w := by
  unfold lkSm
  refine runU_look Tryz.underlying145 Tryz.underlying28 _ ?_ h k
  obtain ⟨i0, hi, hz0, hz1, hz2⟩ := info_parts (show (Tryz.prog.info? 60).map (fun i => (i.zero, i.size, i.bytes)) = some (some (.slice none 0 0), 1, 24) from by kernel_rfl)
  simp [zeroValue, typeInfo, hi, hz0]
attribute [local go_sem ↓ high] fold_lkPl fold_lkSm
theorem readPg_byte (D : Dv) (pg : Int) : byteL (readPg D pg).1 := by
  unfold readPg
  split
  · intro x hx; cases hx
  · split
    · exact fun x hx => rdRun_byte D 4 (pg * 4) x (List.mem_of_mem_drop hx)
    · intro x hx; cases hx
theorem rdPages_byte (D : Dv) : ∀ (m : Nat) (p : Int), byteL (rdPages D p m).1
  | 0, p => fun x hx => by cases hx
  | m + 1, p => by
    have ih := rdPages_byte D m (p + 1)
    unfold rdPages consR
    split
    · intro x hx; cases hx
    · split
      · intro x hx; cases hx
      · intro x hx
        rcases List.mem_append.1 hx with hx | hx
        · exact readPg_byte D p x hx
        · exact ih x hx
theorem readT_byte (D : Dv) (st sz : Int) : byteL (readT D st sz).1 := by
  unfold readT
  split
  · intro x hx; cases hx
  · split
    · intro x hx; cases hx
    · exact fun x hx => rdPages_byte D _ _ x (List.mem_of_mem_take hx)
theorem getC_byte (D : Dv) (S : Stor) (id : Int) : byteL (getC D S id).1 := by
  unfold getC
  split
  · intro x hx; cases hx
  · unfold getR
    split
    · intro x hx; cases hx
    · split
      · intro x hx; cases hx
      · exact readT_byte D _ _
def IsW (W1 W : World) : Prop := W = W1
theorem idsOf_rows {R : RowsU} {T : Tbl} (h : RowsU.plain R = T.sums) (k : Int) : idsOf T k = ((look R k).map (fun x : Value × List Int => x.2)).getD [] := by
  unfold idsOf
  rw [← h]
  unfold RowsU.plain
  rw [look_map (fun x : Value × List Int => x.2)]
section
variable {w : World} {s p g : Nat} {F : Nat → Prop} {D : Dv} {S : Stor}
set_option maxRecDepth 100000 in
set_option maxHeartbeats 2000000 in
theorem chFind_calls (h : StAt w s p g F D S) (A : Option Addr) (c : Nat) (b : List Int) (hcap : b.length ≤ c) (hbl : b.length ≤ 131072) (hbb : byteL b) (hr : Rd by1 1 w A b) :
    Calls Tryz.prog 47 #[.pointer (some ⟨s, 0, none⟩), .slice A b.length c] w fun e w' => e = .returned (.tuple #[.int .u64 (findC D S b).1, .bool (findC D S b).2]) ∧ Below w.heap.size w w' := by
  have hok := Lib.hid (chok_calls h)
  have HS := Lib.hid h
  have hsl := h.slt
  obtain ⟨W1, hW1⟩ : ∃ W, w.drew = W := ⟨_, rfl⟩
  have hb1 : Below w.heap.size w W1 := by rw [← hW1]; exact (Below.refl _ w).drew
  obtain ⟨pm, sm, km, kn, sv, FP, FN, FK, c0, c1, c2, c3, fz, hb, hP, hN, -, -, -, -⟩ := (h.below hb1).open
  obtain ⟨R, -, hsm, hpl, hown, -, -, -, -, -, -⟩ := hN
  have lk := run_lkSm hsm (hashB b)
  have hid := idsOf_rows hpl (hashB b)
  have cv := run_strB b.length c rfl (hr.below hb1 (Nat.le_refl _))
  have hsz : (strB b).size ≤ 9223372036854775807 := by unfold strB; rw [strOfNums_size]; omega
  have hash : ((fnvSum (strB b) : Nat) : Int) = hashB b := rfl
  obtain ⟨v, ids, hlv, hids, A2, c4, hv2, hc2, hc3, hr2⟩ : ∃ v ids, ((look R (hashB b)).map (fun x : Value × List Int => x.1)).getD (.slice none 0 0) = v ∧ idsOf S.now (hashB b) = ids ∧ ∃ A2 c4, v = .slice A2 ids.length c4 ∧ ids.length ≤ c4 ∧ c4 ≤ 9223372036854775807 ∧ Rd encU 1 W1 A2 ids := by
    rw [hid]
    cases hL : look R (hashB b) with
    | none => exact ⟨_, _, rfl, rfl, none, 0, rfl, Nat.le_refl _, by omega, .inl rfl⟩
    | some x =>
      obtain ⟨A2, c4, e1, e2, e3, e4, -⟩ := (hown _ (look_mem hL)).1.rd encUok
      exact ⟨_, _, rfl, rfl, A2, c4, e1, e2, e3, e4⟩
  subst hv2
  rw [hlv] at lk
  have HR2 := Lib.hid hr2
  have HRb := Lib.hid hr
  have HBB := Lib.hid hbb
  have hF0 : Hid (findC D S b = match ids.find? (fun id => decide (getC D S id = (b, 0))) with | some id => (id, true) | none => (0, false)) := by
    show _ = _
    unfold findC
    rw [hids] <;> rfl
  have HB1 := Lib.hid hb1
  have hS0 : IsW W1 w.drew := hW1
  have hS1 : IsW W1 W1 := rfl
  clear hlv hid hids hown hpl hsm hP hb hb1 hr2 hr hbb c0 c1 c3 h
  go_enter Tryz.func47, Tryz.ntmps47
  go_wp2_with fail
  refine hok.out.mono ?_
  rintro e w1 ⟨rfl, rfl⟩
  go_wp2
  refine wp_region_noPanic ?_
  refine wp_region_held_drew (S := IsW W1) (by kernel_rfl) (hS0) (fun hHeld => ?_)
  refine wpAnyH_take (i := 0) (oi := ⟨some 13, _, _, _, _, _⟩) (v := ?_) rfl (by kernel_rfl) (by kernel_rfl) (by kernel_rfl) (fun _ _ _ h => h) (Or.inl ⟨by rfl, ?_⟩) (by assumption) ?_
  rotate_left
  · (intro w hSw; (try dsimp only at hSw); unfold IsW at hSw; subst hSw; (go_simp <;> with_reducible rfl))
  try simp only [Act.put, List.setIfInBounds_toArray, List.set_cons_zero, List.set_cons_succ]
  refine wpAnyH_take (i := 1) (oi := ⟨some 14, _, _, _, _, _⟩) (v := ?_) rfl (by kernel_rfl) (by kernel_rfl) (by kernel_rfl) (fun _ _ _ h => h) (Or.inl ⟨by rfl, ?_⟩) (by assumption) ?_
  rotate_left
  · (intro w hSw; (try dsimp only at hSw); unfold IsW at hSw; subst hSw; (go_simp <;> with_reducible rfl))
  try simp only [Act.put, List.setIfInBounds_toArray, List.set_cons_zero, List.set_cons_succ]
  refine wpAnyH_take (i := 2) (oi := ⟨some 15, _, _, _, _, _⟩) (v := ?_) rfl (by kernel_rfl) (by kernel_rfl) (by kernel_rfl) (fun _ _ _ h => h) (Or.inl ⟨by rfl, ?_⟩) (by assumption) ?_
  rotate_left
  · (intro w hSw; (try dsimp only at hSw); unfold IsW at hSw; subst hSw; (go_simp <;> with_reducible rfl))
  try simp only [Act.put, List.setIfInBounds_toArray, List.set_cons_zero, List.set_cons_succ]
  refine wpAnyH_take (i := 3) (oi := ⟨some 16, _, _, _, _, _⟩) (v := ?_) rfl (by kernel_rfl) (by kernel_rfl) (by kernel_rfl) (fun _ _ _ h => h) (Or.inl ⟨by rfl, ?_⟩) (by assumption) ?_
  rotate_left
  · (intro w hSw; (try dsimp only at hSw); unfold IsW at hSw; subst hSw; (go_simp <;> with_reducible rfl))
  try simp only [Act.put, List.setIfInBounds_toArray, List.set_cons_zero, List.set_cons_succ]
  refine wpAnyH_take (i := 4) (oi := ⟨some 17, _, _, _, _, _⟩) (v := ?_) rfl (by kernel_rfl) (by kernel_rfl) (by kernel_rfl) (fun _ _ _ h => h) (Or.inl ⟨by rfl, ?_⟩) (by assumption) ?_
  rotate_left
  · (intro w hSw; (try dsimp only at hSw); unfold IsW at hSw; subst hSw; (go_simp <;> with_reducible rfl))
  try simp only [Act.put, List.setIfInBounds_toArray, List.set_cons_zero, List.set_cons_succ]
  refine wpAnyH_take (i := 5) (oi := ⟨some 18, _, _, _, _, _⟩) (v := ?_) rfl (by kernel_rfl) (by kernel_rfl) (by kernel_rfl) (fun _ _ _ h => h) (Or.inl ⟨by rfl, ?_⟩) (by assumption) ?_
  rotate_left
  · (intro w hSw; (try dsimp only at hSw); unfold IsW at hSw; subst hSw; (go_simp <;> with_reducible rfl))
  try simp only [Act.put, List.setIfInBounds_toArray, List.set_cons_zero, List.set_cons_succ]
  refine wpAnyH_take (i := 6) (oi := ⟨some 19, _, _, _, _, _⟩) (v := ?_) rfl (by kernel_rfl) (by kernel_rfl) (by kernel_rfl) (fun _ _ _ h => h) (Or.inl ⟨by rfl, ?_⟩) (by assumption) ?_
  rotate_left
  · (intro w hSw; (try dsimp only at hSw); unfold IsW at hSw; subst hSw; (go_simp <;> with_reducible rfl))
  try simp only [Act.put, List.setIfInBounds_toArray, List.set_cons_zero, List.set_cons_succ]
  refine wpAnyH_take (i := 10) (oi := ⟨some 23, _, _, _, _, _⟩) (v := ?_) rfl (by kernel_rfl) (by kernel_rfl) (by kernel_rfl) (fun _ _ _ h => h) (Or.inl ⟨by rfl, ?_⟩) (by assumption) ?_
  rotate_left
  · (intro w hSw; (try dsimp only at hSw); unfold IsW at hSw; subst hSw; (go_simp <;> with_reducible rfl))
  try simp only [Act.put, List.setIfInBounds_toArray, List.set_cons_zero, List.set_cons_succ]
  refine wpAnyH_ready (rs := [7]) (by kernel_rfl) (by simp) ?_
  refine AllReadyH.cons rfl (fun K hK => ?_) AllReadyH.nil
  go_simp
  go_at_call 90
  refine (fnvSum_calls _ (strB b) hsz).mono ?_
  rintro e w9 ⟨rfl, rfl⟩
  refine hK.out _ _ (by assumption) (fun _ => ?_)
  clear hK K
  try simp only [Act.put, List.setIfInBounds_toArray, List.set_cons_zero, List.set_cons_succ]
  refine wpAnyH_take (i := 8) (oi := ⟨some 21, _, _, _, _, _⟩) (v := ?_) rfl (by kernel_rfl) (by kernel_rfl) (by kernel_rfl) (fun _ _ _ h => h) (Or.inl ⟨by rfl, ?_⟩) (by assumption) ?_
  rotate_left
  · (intro w hSw; (try dsimp only at hSw); unfold IsW at hSw; subst hSw; (go_simp <;> with_reducible rfl))
  try simp only [Act.put, List.setIfInBounds_toArray, List.set_cons_zero, List.set_cons_succ]
  refine wpAnyH_take (i := 9) (oi := ⟨some 22, _, _, _, _, _⟩) (v := ?_) rfl (by kernel_rfl) (by kernel_rfl) (by kernel_rfl) (fun _ _ _ h => h) (Or.inl ⟨by rfl, ?_⟩) (by assumption) ?_
  rotate_left
  · (intro w hSw; (try dsimp only at hSw); unfold IsW at hSw; subst hSw; (go_simp <;> with_reducible rfl))
  try simp only [Act.put, List.setIfInBounds_toArray, List.set_cons_zero, List.set_cons_succ]
  refine wpAnyH_done (by kernel_rfl) ?_ _
  refine NoPanic.normal ?_
  clear lk cv hash hHeld c2
  have HFi : Hid (∀ k, k < ids.length → ids[k]? = ids[k]?) := fun _ _ => rfl
  go_wp2
  go_loopg [23] ids.length (fun m i wr => ∃ k : Nat, i = .int .i64 k ∧ k + m = ids.length ∧ Hid (Below w.heap.size w wr) ∧ Hid (findC D S b = match (ids.drop k).find? (fun id => decide (getC D S id = (b, 0))) with | some id => (id, true) | none => (0, false)))
  case atStart => exact ⟨0, rfl, by omega, HB1.out, by show _ = _; rw [hF0.out, List.drop_zero]⟩
  case round =>
    obtain ⟨k, rfl, hk, hbr, hfk⟩ := hrel
    by_cases hkn : k < ids.length
    · obtain ⟨m', hm'⟩ : ∃ m', gk = m' + 1 := ⟨gk - 1, by omega⟩
      subst hm'
      have hki : (k : Int) < (ids.length : Int) := by omega
      have hkz : (0 : Int) ≤ (k : Int) := by omega
      rcases HR2.out with h0 | ⟨bb, off, rfl, hlt, hcell⟩
      · rw [h0] at hkn; simp at hkn
      have hxk : ids[k]? = some ids[k] := List.getElem?_eq_getElem hkn
      have z0 : wr.cell? ⟨bb, off + k, none⟩ = some (.int .u64 ids[k]) := by
        have hlt' : bb < w.heap.size := by have e : W1.heap.size = w.heap.size := by rw [← hW1]; rfl
                                           omega
        have := hcell k _ hxk 0 _ rfl
        have e2 : W1.cell? ⟨bb, off + k * 1 + 0, none⟩ = w.cell? ⟨bb, off + k * 1 + 0, none⟩ := by rw [← hW1]; rfl
        rw [e2] at this
        rw [show off + k = off + k * 1 + 0 from by omega]
        exact (hbr.out.cell hlt').trans this
      have hbl2 : bb < wr.heap.size := by
        have e : W1.heap.size = w.heap.size := by rw [← hW1]; rfl
        have := hbr.out.size
        omega
      have hdr : Hid (ids.drop k = ids[k] :: ids.drop (k + 1)) := List.drop_eq_getElem_cons hkn
      generalize ids[k] = id at *
      have hfk2 : Hid (findC D S b = match (id :: ids.drop (k + 1)).find? (fun id => decide (getC D S id = (b, 0))) with | some id => (id, true) | none => (0, false)) := by
        show _ = _
        rw [← hdr.out]
        exact hfk.out
      clear hcell hlt hxk hdr hfk
      go_wp2_with fail
      refine (chGet_calls (HS.out.below hbr.out) id).mono ?_
      rintro e w9 ⟨A9, c9, rfl, hc9, hrd9, -, hb9⟩
      have B9 := Lib.hid (bl_then hbr.out hbr.out.size hb9)
      have cv1 := run_strB (getC D S id).1.length c9 rfl hrd9
      have cv2 := run_strB b.length c rfl (HRb.out.below B9.out (Nat.le_refl _))
      have hgb : byteL (getC D S id).1 := getC_byte D S id
      obtain ⟨gb, ge, hG⟩ : ∃ gb ge, getC D S id = (gb, ge) := ⟨_, _, rfl⟩
      rw [hG] at cv1 hgb ⊢
      have HGe := Lib.hid hG
      have hstep : Hid ((gb, ge) ≠ (b, 0) → findC D S b = match (ids.drop (k + 1)).find? (fun id => decide (getC D S id = (b, 0))) with | some id => (id, true) | none => (0, false)) := fun hne => by
        rw [hfk2.out, List.find?_cons_of_neg]
        rw [HGe.out]
        simpa using hne
      have hhit : Hid ((gb, ge) = (b, 0) → findC D S b = (id, true)) := fun he => by
        rw [hfk2.out, List.find?_cons_of_pos]
        rw [HGe.out, he]
        simp
      clear hG hrd9 hb9 hfk2 hc9
      dsimp only at cv1 hgb ⊢
      by_cases hge : ge = 0
      · subst hge
        have hcmp := strB_beq hgb HBB.out
        by_cases hgb2 : gb = b
        · have hF := Lib.hid (hhit.out (by rw [hgb2]))
          rw [decide_eq_true hgb2] at hcmp
          clear hgb2 hgb hstep hhit
          go_wp2
          go_ret2
          exact ⟨by rw [hF.out]; rfl, B9.out⟩
        · have hF := Lib.hid (hstep.out (fun e => hgb2 (congrArg Prod.fst e)))
          rw [decide_eq_false hgb2] at hcmp
          clear hgb2 hgb hstep hhit
          go_wp2
          go_roundg m'
          case measure => omega
          case rel => exact ⟨k + 1, by go_num, by omega, B9.out, hF.out⟩
      · have hF := Lib.hid (hstep.out (fun e => hge (congrArg Prod.snd e)))
        have hgeb : (ge == 0) = false := by rw [beq_eq_false_iff_ne]; exact hge
        clear hge hgb hstep hhit
        go_wp2
        go_roundg m'
        case measure => omega
        case rel => exact ⟨k + 1, by go_num, by omega, B9.out, hF.out⟩
    · have hk' : ids.length ≤ k := by omega
      have hkk : ¬ (k : Int) < (ids.length : Int) := by omega
      have hF : Hid (findC D S b = (0, false)) := by
        show _ = _
        rw [hfk.out, List.drop_eq_nil_of_le hk']
        rfl
      clear hkn hk'
      go_wp2
      go_ret2
      exact ⟨by rw [hF.out]; rfl, hbr.out⟩
end
end Go.Proofs.YtikgplhcadomcaaGreat

namespace Go.Proofs.YtikgplhcadomcaaGreat
open Go.RowKit
set_option linter.unusedVariables false
set_option linter.unusedSimpArgs false
def upPl (m k v : Value) : Sem Unit := Instr.mapUpdate 144 m k v
theorem fold_upPl (m k v : Value) : Instr.mapUpdate 144 m k v = upPl m k v := rfl
def upSm (m k v : Value) : Sem Unit := Instr.mapUpdate 145 m k v
theorem fold_upSm (m k v : Value) : Instr.mapUpdate 145 m k v = upSm m k v := rfl
theorem run_upPl {w : World} {b : Nat} {L : List (Int × Pl)} (h : MapU w b Pl.v L) (k : Int) (x : Pl) : ∃ w', (upPl (.map (some b)) (.int .u64 k) (.agg #[.int .i64 x.s.start, .int .i64 x.s.pages, .int .i64 x.size])).run Tryz.prog w = .ok () w' ∧ MapU w' b Pl.v (upd L k x) ∧ w.grownBy w' (some b) :=
  runU_upd Tryz.underlying144 Tryz.underlying28 h k x
theorem run_upSm {w : World} {b : Nat} {R : RowsU} (h : MapU w b (fun x : Value × List Int => x.1) R) (k : Int) (v : Value) (l : List Int) : ∃ w', (upSm (.map (some b)) (.int .u64 k) v).run Tryz.prog w = .ok () w' ∧ MapU w' b (fun x : Value × List Int => x.1) (upd R k (v, l)) ∧ w.grownBy w' (some b) :=
  runU_upd Tryz.underlying145 Tryz.underlying28 h k (v, l)
theorem infoU64 : (Tryz.prog.info? 28).map (fun i => (i.zero, i.size, i.bytes)) = some (some (.int .u64 0), 1, 8) := by kernel_rfl
attribute [local go_sem ↓ high] fold_lkPl fold_lkSm fold_upPl fold_upSm
def AdS (q pm sm : Nat) (n : Int) (R : RowsU) (W : World) : Prop := W.heap[q]? = some (.cells #[.map (some pm), .map (some sm), .int .u64 n] 147 (0, 0)) ∧ MapU W sm (fun x : Value × List Int => x.1) R
def TblDid (F : Nat → Prop) (w w' : World) (pm sm : Nat) (T : Tbl) : Prop := ∃ F', TblAt w' pm sm F' T ∧ Chg F w w' ∧ ∀ i, F' i → F i ∨ w.heap.size ≤ i
section
variable {w : World} {pm sm : Nat} {F : Nat → Prop} {T : Tbl}
set_option maxRecDepth 100000 in
set_option maxHeartbeats 2000000 in
theorem add_calls (hT : TblAt w pm sm F T) (id : Int) (x : Pl) (h : Int) (hx : x.ok) (hlen : (idsOf T h).length ≤ 1000000) :
    Calls Tryz.prog 89 #[.agg #[.map (some pm), .map (some sm), .int .u64 T.next], .int .u64 id, .agg #[.int .i64 x.s.start, .int .i64 x.s.pages, .int .i64 x.size], .int .u64 h] w fun e w' => e = .returned (.tuple #[]) ∧ TblDid F w w' pm sm (T.add id x h) := by
  obtain ⟨q, hq⟩ : ∃ q, w.heap.size = q := ⟨_, rfl⟩
  obtain ⟨W1, hW1⟩ : ∃ W, w.alloc (.cells #[.map (some pm), .map (some sm), .int .u64 T.next] 147) = W := ⟨_, rfl⟩
  obtain ⟨W2, hW2⟩ : ∃ W, W1.alloc (.cells #[.int .i64 x.s.start, .int .i64 x.s.pages, .int .i64 x.size] 165) = W := ⟨_, rfl⟩
  have hb1 : Below w.heap.size w W1 := by rw [← hW1]; exact bl_alloc (Below.refl _ w) _
  have hb2' : Below W1.heap.size W1 W2 := by rw [← hW2]; exact bl_alloc (Below.refl _ W1) _
  have hb2 : Below w.heap.size w W2 := bl_then hb1 hb1.size hb2'
  have hq1 : W1.heap[q]? = some (.cells #[.map (some pm), .map (some sm), .int .u64 T.next] 147 (0, 0)) := by rw [← hW1, ← hq]; exact blk_new w _
  have hq2 := blk_below hb2' hq1 (blk_lt hq1)
  have hz2 : W2.heap[W1.heap.size]? = some (.cells #[.int .i64 x.s.start, .int .i64 x.s.pages, .int .i64 x.size] 165 (0, 0)) := by rw [← hW2]; exact blk_new W1 _
  obtain ⟨R, hpl, hsm, hplain, hown, hap, hne, fpm, fsm, hlt, hok⟩ := hT.below hb2
  have hltw := hT.lt
  obtain ⟨W3, up3, m3, g3⟩ := run_upPl hpl id x
  have hid := idsOf_rows hplain h
  obtain ⟨ids, hids⟩ : ∃ l, idsOf T h = l := ⟨_, rfl⟩
  rw [hids] at hid hlen
  have hsm3 := hsm.grown g3 (by simpa using hne.symm)
  have hn3 : R.map (·.1) |>.Nodup := hsm.nodup
  -- the row
  obtain ⟨A2, c4, hlkv, hO3, hvF⟩ : ∃ A2 c4, ((look R h).map (fun x : Value × List Int => x.1)).getD (.slice none 0 0) = .slice A2 ids.length c4 ∧ OwnU W3 (.slice A2 ids.length c4) ids ∧ ∀ k, (Value.slice A2 ids.length c4).ownBlock = some k → (F k ∧ k ≠ pm ∧ k ≠ sm) ∧ ∀ r ∈ R, r.1 ≠ h → r.2.1.ownBlock ≠ some k := by
    rw [hid]
    cases hL : look R h with
    | none => exact ⟨none, 0, rfl, Own.nil, fun k hk => by cases hk⟩
    | some y =>
      have hm := look_mem hL
      obtain ⟨o1, o2⟩ := hown _ hm
      obtain ⟨A2, c4, e1, e2, e3, e4, -⟩ := o1.rd encUok
      obtain ⟨y1, y2⟩ := y
      dsimp only at e1 o1 o2
      subst e1
      refine ⟨A2, c4, rfl, ?_, fun k hk => ⟨o2 k hk, fun r hr hne2 => fun e => hap r hr _ hm hne2 k e hk⟩⟩
      refine o1.kept g3 ?_
      rcases hq0 : (Value.slice A2 y2.length c4).ownBlock with _ | k
      · exact .inl rfl
      · exact .inr (fun e => (o2 k hq0).2.1 (by injection e))
  have hlk := Lib.hid hlkv
  have hq3 : W3.heap[q]? = some (.cells #[.map (some pm), .map (some sm), .int .u64 T.next] 147 (0, 0)) := by
    rw [g3.block q (blk_lt hq2) (fun e => by injection e with e; have := hltw pm fpm; omega)]
    exact hq2
  obtain ⟨W3d, hW3⟩ : ∃ W, W3.drew = W := ⟨_, rfl⟩
  have hb3d : Below W3.heap.size W3 W3d := by rw [← hW3]; exact (Below.refl _ W3).drew
  have hS0 : AdS q pm sm T.next R W3d := ⟨blk_below hb3d hq3 (blk_lt hq3), hsm3.below hb3d (hsm3.lt)⟩
  obtain ⟨W5, hW5⟩ : ∃ W, W3d.alloc (.cells #[.int .u64 id] 28) = W := ⟨_, rfl⟩
  have hb45 : Below W3d.heap.size W3d W5 := by rw [← hW5]; exact bl_alloc (Below.refl _ W3d) _
  have hS5 : AdS q pm sm T.next R W5 := ⟨blk_below hb45 hS0.1 (blk_lt hS0.1), hS0.2.below hb45 hS0.2.lt⟩
  have HO5 := Lib.hid ((hO3.below hb3d).below hb45)
  have HR5 : Hid (Rd encU 1 W5 (some ⟨W3d.heap.size, 0, none⟩) [id]) := by rw [← hW5]; exact Rd.lit (blk_new _ _) rfl
  have l1 : Hid ((ids.length + 1) * 8 ≤ 140737488355328) := by show _ ≤ _; omega
  have l2 : Hid (ids.length + 1 ≤ 140737488355328) := by show _ ≤ _; omega
  have nn : Hid ([id] ≠ []) := by show _ ≠ _; simp
  have t1 : Hid ((Value.int .u64 0).cells.size = 1) := rfl
  have c23 : Chg (fun i => i = pm) W2 W3 := Chg.grown g3 rfl
  have hb35 : Below W3.heap.size W3 W5 := bl_then hb3d hb3d.size hb45
  have HS7 : Hid (∀ w7, W5.grownBy w7 (Value.slice A2 ids.length c4).ownBlock → AdS q pm sm T.next R w7) := fun w7 hg => by
    have e1 := hg.block q (blk_lt hS5.1) (fun e => by have := hltw q (hvF q e.symm).1.1; omega)
    exact ⟨e1.trans hS5.1, hS5.2.grown hg (fun e => (hvF sm e.symm).1.2.2 rfl)⟩
  have HD8 : Hid (∀ w7 w8 g7 cap7, OwnU w7 (.slice (some ⟨g7, 0, none⟩) (ids.length + 1) cap7) (ids ++ [id]) → W5.grownBy w7 (Value.slice A2 ids.length c4).ownBlock → ((Value.slice A2 ids.length c4).ownBlock = some g7 ∨ W5.heap.size ≤ g7) → g7 < w7.heap.size →
      MapU w8 sm (fun x : Value × List Int => x.1) (upd R h (.slice (some ⟨g7, 0, none⟩) (ids.length + 1) cap7, ids ++ [id])) → w7.grownBy w8 (some sm) → TblDid F w w8 pm sm (T.add id x h)) := fun w7 w8 g7 cap7 ho hg hat hlt7 m8 g8 => by
    have s25 : W2.heap.size ≤ W5.heap.size := Nat.le_trans c23.size hb35.size
    have s2 := hb2.size
    have hg7n : g7 ≠ pm ∧ g7 ≠ sm ∧ (F g7 ∨ w.heap.size ≤ g7) ∧ ∀ r ∈ R, r.1 ≠ h → r.2.1.ownBlock ≠ some g7 := by
      rcases hat with e | e
      · exact ⟨(hvF g7 e).1.2.1, (hvF g7 e).1.2.2, .inl (hvF g7 e).1.1, (hvF g7 e).2⟩
      · refine ⟨fun z => by have := hlt pm fpm; omega, fun z => by have := hlt sm fsm; omega, .inr (by omega), fun r hr _ z => ?_⟩
        have := ((hown r hr).1.lt g7 z).2
        omega
    have own8 : ∀ r ∈ R, r.1 ≠ h → OwnU w8 r.2.1 r.2.2 := fun r hr hrh => by
      obtain ⟨o1, o2⟩ := hown r hr
      have a1 : OwnU W3 r.2.1 r.2.2 := o1.chg c23 (fun k hk e => (o2 k hk).2.1 e)
      have a2 := a1.below hb35
      have a3 : OwnU w7 r.2.1 r.2.2 := a2.chg (F := fun i => (Value.slice A2 ids.length c4).ownBlock = some i) (Chg.grownO hg (fun i hi => hi)) (fun k hk e => (hvF k e).2 r hr hrh hk)
      exact a3.chg (F := fun i => i = sm) (Chg.grown g8 rfl) (fun k hk e => (o2 k hk).2.2 e)
    have pl8 : MapU w8 pm Pl.v (upd T.places id x) := by
      have a2 := m3.below hb35 m3.lt
      have a3 := a2.grown hg (fun e => (hvF pm e.symm).1.2.1 rfl)
      exact a3.grown g8 (by simpa using hne)
    have c8 : Chg F w w8 := by
      have e1 : Chg F w W2 := Below.chg hb2 F
      have e2 : Chg F w W3 := e1.trans c23 (fun i _ e => by rw [e]; exact fpm)
      have e3 : Chg F w W5 := e2.trans (Below.chg hb35 F) (fun i _ q => q)
      have e4 : Chg F w w7 := e3.trans (Chg.grownO (F := F) hg (fun i hi => (hvF i hi).1.1)) (fun i _ q => q)
      exact e4.trans (Chg.grown (F := F) g8 fsm) (fun i _ q => q)
    have s8 : g7 < w8.heap.size := Nat.lt_of_lt_of_le hlt7 g8.size
    refine ⟨fun i => F i ∨ (w.heap.size ≤ i ∧ i < w8.heap.size), ⟨_, pl8, m8, ?_, ?_, ?_, hne, .inl fpm, .inl fsm, ?_, ?_⟩, c8, fun i hi => hi.imp_right And.left⟩
    · show RowsU.plain _ = upd T.sums h (idsOf T h ++ [id])
      rw [hids]
      unfold RowsU.plain
      rw [upd_map (fun x : Value × List Int => x.2)]
      show upd (RowsU.plain R) h (ids ++ [id]) = _
      rw [hplain]
    · intro r hr
      rcases mem_upd hn3 hr with rfl | ⟨hr, hrh⟩
      · refine ⟨ho.chg (F := fun i => i = sm) (Chg.grown g8 rfl) (fun k hk e => by cases hk; exact hg7n.2.1 e), fun k hk => ?_⟩
        cases hk
        exact ⟨hg7n.2.2.1.imp_right (fun q => ⟨q, s8⟩), hg7n.1, hg7n.2.1⟩
      · obtain ⟨o1, o2⟩ := hown r hr
        exact ⟨own8 r hr hrh, fun k hk => ⟨.inl (o2 k hk).1, (o2 k hk).2⟩⟩
    · intro a ha b hb hab k hk
      rcases mem_upd hn3 ha with rfl | ⟨ha, hah⟩
      · rcases mem_upd hn3 hb with rfl | ⟨hb, hbh⟩
        · exact absurd rfl hab
        · cases hk
          exact hg7n.2.2.2 b hb hbh
      · rcases mem_upd hn3 hb with rfl | ⟨hb, hbh⟩
        · intro e
          cases e
          exact hg7n.2.2.2 a ha hah hk
        · exact hap a ha b hb hab k hk
    · rintro i (hi | hi)
      · exact Nat.lt_of_lt_of_le (hltw i hi) c8.size
      · exact hi.2
    · intro r hr
      rcases mem_upd hpl.nodup hr with rfl | ⟨hr, _⟩
      · exact hx
      · exact hok r hr
  have kk0 := blk_cell hq2 0
  have kkl := blk_lt hq2
  have zz0 := blk_cell hz2 0
  have zz1 := blk_cell hz2 1
  have zz2 := blk_cell hz2 2
  have zzl := blk_lt hz2
  clear hb1 hb2 hb2' hq1 hq2 hz2 hpl hsm hplain hown hap hlt hok hltw m3 g3 hid hids hsm3 hn3 hlkv hO3 hvF hq3 hb3d hb45 hb35 c23
  go_enter Tryz.func89, Tryz.ntmps89
  go_wp2
  refine wp_region_noPanic ?_
  refine wp_regionZ 10 (AdS q pm sm T.next R) (by kernel_rfl) ?_
  rw [hW3]
  refine AnyZ.takeU [10] (i := 0) (oi := ⟨some 12, _, _, _, _, _⟩) (v := ?_) rfl (by kernel_rfl) (by kernel_rfl) (by kernel_rfl) (by kernel_rfl) (by kernel_rfl) (by kernel_rfl) (fun _ _ _ h => h) (Or.inl ⟨by rfl, ?_⟩) (by assumption) ?_
  rotate_left
  · (intro w hSw; (try dsimp only at hSw); obtain ⟨kr, km⟩ := hSw; have kc0 := blk_cell kr 0; have kc1 := blk_cell kr 1; have klr := blk_lt kr; have klk := run_lkSm km h; rw [hlk.out] at klk; (go_simp <;> with_reducible rfl))
  try simp only [Act.put, List.setIfInBounds_toArray, List.set_cons_zero, List.set_cons_succ]
  refine AnyZ.takeU [10] (i := 1) (oi := ⟨some 13, _, _, _, _, _⟩) (v := ?_) rfl (by kernel_rfl) (by kernel_rfl) (by kernel_rfl) (by kernel_rfl) (by kernel_rfl) (by kernel_rfl) (fun _ _ _ h => h) (Or.inl ⟨by rfl, ?_⟩) (by assumption) ?_
  rotate_left
  · (intro w hSw; (try dsimp only at hSw); obtain ⟨kr, km⟩ := hSw; have kc0 := blk_cell kr 0; have kc1 := blk_cell kr 1; have klr := blk_lt kr; have klk := run_lkSm km h; rw [hlk.out] at klk; (go_simp <;> with_reducible rfl))
  try simp only [Act.put, List.setIfInBounds_toArray, List.set_cons_zero, List.set_cons_succ]
  refine AnyZ.takeU [10] (i := 2) (oi := ⟨some 14, _, _, _, _, _⟩) (v := ?_) rfl (by kernel_rfl) (by kernel_rfl) (by kernel_rfl) (by kernel_rfl) (by kernel_rfl) (by kernel_rfl) (fun _ _ _ h => h) (Or.inl ⟨by rfl, ?_⟩) (by assumption) ?_
  rotate_left
  · (intro w hSw; (try dsimp only at hSw); obtain ⟨kr, km⟩ := hSw; have kc0 := blk_cell kr 0; have kc1 := blk_cell kr 1; have klr := blk_lt kr; have klk := run_lkSm km h; rw [hlk.out] at klk; (go_simp <;> with_reducible rfl))
  try simp only [Act.put, List.setIfInBounds_toArray, List.set_cons_zero, List.set_cons_succ]
  refine AnyZ.takeU [10] (i := 3) (oi := ⟨some 15, _, _, _, _, _⟩) (v := ?_) rfl (by kernel_rfl) (by kernel_rfl) (by kernel_rfl) (by kernel_rfl) (by kernel_rfl) (by kernel_rfl) (fun _ _ _ h => h) (Or.inl ⟨by rfl, ?_⟩) (by assumption) ?_
  rotate_left
  · (intro w hSw; (try dsimp only at hSw); obtain ⟨kr, km⟩ := hSw; have kc0 := blk_cell kr 0; have kc1 := blk_cell kr 1; have klr := blk_lt kr; have klk := run_lkSm km h; rw [hlk.out] at klk; (go_simp <;> with_reducible rfl))
  try simp only [Act.put, List.setIfInBounds_toArray, List.set_cons_zero, List.set_cons_succ]
  refine AnyZ.takeU [10] (i := 4) (oi := ⟨some 16, _, _, _, _, _⟩) (v := ?_) rfl (by kernel_rfl) (by kernel_rfl) (by kernel_rfl) (by kernel_rfl) (by kernel_rfl) (by kernel_rfl) (fun _ _ _ h => h) (Or.inl ⟨by rfl, ?_⟩) (by assumption) ?_
  rotate_left
  · (intro w hSw; (try dsimp only at hSw); obtain ⟨kr, km⟩ := hSw; have kc0 := blk_cell kr 0; have kc1 := blk_cell kr 1; have klr := blk_lt kr; have klk := run_lkSm km h; rw [hlk.out] at klk; (go_simp <;> with_reducible rfl))
  try simp only [Act.put, List.setIfInBounds_toArray, List.set_cons_zero, List.set_cons_succ]
  refine AnyZ.takeU [10] (i := 5) (oi := ⟨some 17, _, _, _, _, _⟩) (v := ?_) rfl (by kernel_rfl) (by kernel_rfl) (by kernel_rfl) (by kernel_rfl) (by kernel_rfl) (by kernel_rfl) (fun _ _ _ h => h) (Or.inl ⟨by rfl, ?_⟩) (by assumption) ?_
  rotate_left
  · (intro w hSw; (try dsimp only at hSw); obtain ⟨kr, km⟩ := hSw; have kc0 := blk_cell kr 0; have kc1 := blk_cell kr 1; have klr := blk_lt kr; have klk := run_lkSm km h; rw [hlk.out] at klk; (go_simp <;> with_reducible rfl))
  try simp only [Act.put, List.setIfInBounds_toArray, List.set_cons_zero, List.set_cons_succ]
  refine AnyZ.takeU [10] (i := 6) (oi := ⟨some 18, _, _, _, _, _⟩) (v := ?_) rfl (by kernel_rfl) (by kernel_rfl) (by kernel_rfl) (by kernel_rfl) (by kernel_rfl) (by kernel_rfl) (fun _ _ _ h => h) (Or.inl ⟨by rfl, ?_⟩) (by assumption) ?_
  rotate_left
  · (intro w hSw; (try dsimp only at hSw); obtain ⟨kr, km⟩ := hSw; have kc0 := blk_cell kr 0; have kc1 := blk_cell kr 1; have klr := blk_lt kr; have klk := run_lkSm km h; rw [hlk.out] at klk; (go_simp <;> with_reducible rfl))
  try simp only [Act.put, List.setIfInBounds_toArray, List.set_cons_zero, List.set_cons_succ]
  refine AnyZ.takeU [10] (i := 7) (oi := ⟨some 19, _, _, _, _, _⟩) (v := ?_) rfl (by kernel_rfl) (by kernel_rfl) (by kernel_rfl) (by kernel_rfl) (by kernel_rfl) (by kernel_rfl) (fun _ _ _ h => h) (Or.inl ⟨by rfl, ?_⟩) (by assumption) ?_
  rotate_left
  · (intro w hSw; (try dsimp only at hSw); obtain ⟨kr, km⟩ := hSw; have kc0 := blk_cell kr 0; have kc1 := blk_cell kr 1; have klr := blk_lt kr; have klk := run_lkSm km h; rw [hlk.out] at klk; (go_simp <;> with_reducible rfl))
  try simp only [Act.put, List.setIfInBounds_toArray, List.set_cons_zero, List.set_cons_succ]
  refine AnyZ.one (i := 8) (by kernel_rfl) rfl (fun K hK => ?_)
  go_simp
  refine hK.out _ _ (.inr (by assumption)) ?_
  clear hK K
  try simp only [Act.put, List.setIfInBounds_toArray, List.set_cons_zero, List.set_cons_succ]
  refine AnyZ.one (i := 9) (by kernel_rfl) rfl (fun K hK => ?_)
  refine at_step rfl (op_ownN encUok (.tmp 18) (.tmp 20) _ _ _ _ rfl Tryz.underlying60 infoU64 t1.out 0 (.slice A2 ids.length c4) ids (some ⟨W3d.heap.size, 0, none⟩) 1 [id] 1 rfl nn.out rfl rfl HO5.out HR5.out (Nat.zero_le _) l1.out l2.out ?_)
  intro g7 cap7 w7 ho7 hg7 hat7 hlt7
  have S7 := HS7.out w7 hg7
  obtain ⟨w8, up8, m8, b8⟩ := run_upSm S7.2 h (.slice (some ⟨g7, 0, none⟩) (ids.length + 1) cap7) (ids ++ [id])
  have D8 := Lib.hid (HD8.out w7 w8 g7 cap7 ho7 hg7 hat7 hlt7 m8 b8)
  clear ho7 hg7 hat7 hlt7 m8 b8
  refine hK.out _ _ (.inr (by assumption)) ?_
  clear hK K
  try simp only [Act.put, List.setIfInBounds_toArray, List.set_cons_zero, List.set_cons_succ]
  refine AnyZ.one (i := 10) (by kernel_rfl) rfl (fun K hK => ?_)
  go_simp
  refine hK.out _ _ (.inl rfl) ?_
  clear hK K
  try simp only [Act.put, List.setIfInBounds_toArray, List.set_cons_zero, List.set_cons_succ]
  refine AnyZ.done (by kernel_rfl) ?_ _
  refine NoPanic.normal ?_
  go_end0
  exact ⟨rfl, D8.out⟩
end
end Go.Proofs.YtikgplhcadomcaaGreat

namespace Go.Proofs.YtikgplhcadomcaaGreat
open Go.RowKit
set_option linter.unusedVariables false
set_option linter.unusedSimpArgs false
section
variable {w : World} {b : Nat}
set_option maxRecDepth 100000 in
theorem clonePl_calls {L : List (Int × Pl)} (h : MapU w b Pl.v L) : Calls Tryz.prog 129 #[.map (some b)] w fun e w' => e = .returned (.map (some w.heap.size)) ∧ MapU w' w.heap.size Pl.v L ∧ Below w.heap.size w w' ∧ w'.heap.size = w.heap.size + 1 := by
  obtain ⟨es, clock, hb, hr⟩ := h
  have hq : ∀ w, (binOp .eql 144 (.map (some b)) (.map none)).run Tryz.prog w = .ok (.bool false) w := fun w => run_eql_map_nil (P := Tryz.prog) w 144 _ _ (some b) Tryz.underlying144
  go_enter Tryz.func129, Tryz.ntmps129
  go_wp2
  rw [run_callFunc_extern Tryz.func167 (by kernel_rfl) (by kernel_rfl) (by kernel_rfl) (e := Extern.MapsClone.clone) (by kernel_rfl), run_mapsClone w 144 hb]
  simp only [Result.andThen]
  rw [Oper.upon_value]
  go_wp2
  rw [run_typeAssert_map _ 144 _ _ _ _ Tryz.underlying144]
  simp only [Result.andThen]
  rw [Oper.upon_value]
  go_wp2
  go_ret
  exact ⟨rfl, ⟨es, clock, blk_new w _, hr⟩, bl_alloc (Below.refl _ w) _, by simp⟩
end
def CpQ (W1 W : World) : Prop := Below W1.heap.size W1 W
/-- What of a copy has been made. -/
def CpI (W1 : World) (T : Tbl) (W : World) (a b c : Option Nat) : Prop :=
  CpQ W1 W ∧ (∀ k, a = some k → W1.heap.size ≤ k ∧ k < W.heap.size ∧ MapU W k Pl.v T.places) ∧ (∀ k, b = some k → W1.heap.size ≤ k ∧ k < W.heap.size ∧ MapU W k (fun x : Value × List Int => x.1) ([] : RowsU)) ∧
    (∀ k, c = some k → W1.heap.size ≤ k ∧ k < W.heap.size ∧ W.heap[k]? = some (.cells #[.map none, .map none, .int .u64 0] 147 (0, 0))) ∧ (∀ k, a = some k → b ≠ some k ∧ c ≠ some k) ∧ (∀ k, b = some k → c ≠ some k)
section
variable {W1 W W' : World} {T : Tbl} {a b c : Option Nat}
theorem CpI.step (h : CpI W1 T W a b c) (hb : Below W.heap.size W W') : CpI W1 T W' a b c := by
  obtain ⟨h1, h2, h3, h4, h5, h6⟩ := h
  have hs := hb.size
  exact ⟨bl_then h1 h1.size hb, fun k e => ⟨(h2 k e).1, by have := (h2 k e).2.1; omega, (h2 k e).2.2.below hb (h2 k e).2.1⟩, fun k e => ⟨(h3 k e).1, by have := (h3 k e).2.1; omega, (h3 k e).2.2.below hb (h3 k e).2.1⟩,
    fun k e => ⟨(h4 k e).1, by have := (h4 k e).2.1; omega, blk_below hb (h4 k e).2.2 (h4 k e).2.1⟩, h5, h6⟩
theorem CpI.make (h : CpI W1 T W a none c) : CpI W1 T (W.alloc (.map #[] 0)) a (some W.heap.size) c := by
  obtain ⟨h1, h2, h3, h4, h5, h6⟩ := h.step (bl_alloc (Below.refl _ W) (.map #[] 0))
  have hs := h.1.size
  refine ⟨h1, h2, fun k e => ?_, h4, fun k e => ⟨fun e2 => ?_, (h5 k e).2⟩, fun k e e2 => ?_⟩
  · cases e
    exact ⟨hs, by simp, ⟨#[], 0, blk_new W _, rfl, List.nodup_nil⟩⟩
  · cases e2
    have := (h.2.1 _ e).2.1
    omega
  · cases e
    have := (h.2.2.2.1 _ e2).2.1
    omega
theorem CpI.tab (h : CpI W1 T W a b none) : CpI W1 T (W.alloc (.cells #[.map none, .map none, .int .u64 0] 147)) a b (some W.heap.size) := by
  obtain ⟨h1, h2, h3, h4, h5, h6⟩ := h.step (bl_alloc (Below.refl _ W) (.cells #[.map none, .map none, .int .u64 0] 147))
  have hs := h.1.size
  refine ⟨h1, h2, h3, fun k e => ?_, fun k e => ⟨(h5 k e).1, fun e2 => ?_⟩, fun k e e2 => ?_⟩
  · cases e
    exact ⟨hs, by simp, blk_new W _⟩
  · cases e2
    have := (h.2.1 _ e).2.1
    omega
  · cases e2
    have := (h.2.2.1 _ e).2.1
    omega
theorem CpI.clone {pm : Nat} (h : CpI W1 T W none b c) (hp : MapU W1 pm Pl.v T.places) (hl : pm < W1.heap.size) : Calls Tryz.prog 129 #[.map (some pm)] W fun e w' => e = .returned (.map (some W.heap.size)) ∧ CpI W1 T w' (some W.heap.size) b c :=
  (clonePl_calls (hp.below h.1 hl)).mono fun e w' hh => by
    obtain ⟨e1, m, hb, hz⟩ := hh
    obtain ⟨h1, h2, h3, h4, h5, h6⟩ := h.step hb
    have hs := h.1.size
    refine ⟨e1, h1, fun k e => ?_, h3, h4, fun k e => ⟨fun e2 => ?_, fun e2 => ?_⟩, h6⟩
    · cases e
      exact ⟨hs, by omega, m⟩
    · cases e
      have := (h.2.2.1 _ e2).2.1
      omega
    · cases e
      have := (h.2.2.2.1 _ e2).2.1
      omega
theorem CpI.name (h : CpI W1 T W a b c) : ∃ X, W = X ∧ CpI W1 T X a b c := ⟨W, rfl, h⟩
theorem CpI.row {k : Nat} (h : CpI W1 T W a b (some k)) : W.cell? ⟨k, 0, none⟩ = some (.map none) ∧ W.cell? ⟨k, 1, none⟩ = some (.map none) ∧ W.cell? ⟨k, 2, none⟩ = some (.int .u64 0) ∧ W.frozen? ⟨k, 0, none⟩ = false ∧ W.frozen? ⟨k, 1, none⟩ = false ∧ W.frozen? ⟨k, 2, none⟩ = false ∧ k < W.heap.size := by
  obtain ⟨h1, h2, h3⟩ := h.2.2.2.1 k rfl
  exact ⟨by rw [blk_cell h3]; rfl, by rw [blk_cell h3]; rfl, by rw [blk_cell h3]; rfl, blk_free h3 0, blk_free h3 1, blk_free h3 2, h2⟩
/-- All is made. -/
def CpF (W1 : World) (T : Tbl) (W : World) (i j k : Nat) : Prop :=
  CpQ W1 W ∧ (W1.heap.size ≤ i ∧ i < W.heap.size ∧ MapU W i Pl.v T.places) ∧ (W1.heap.size ≤ j ∧ j < W.heap.size ∧ MapU W j (fun x : Value × List Int => x.1) ([] : RowsU)) ∧ W.heap[k]? = some (.cells #[.map (some i), .map (some j), .int .u64 T.next] 147 (0, 0)) ∧ i ≠ j ∧ W1.heap.size ≤ k
theorem CpI.put {i j k : Nat} (h : CpI W1 T W (some i) (some j) (some k)) : CpF W1 T (((W.setCell ⟨k, 0, none⟩ (.map (some i))).setCell ⟨k, 1, none⟩ (.map (some j))).setCell ⟨k, 2, none⟩ (.int .u64 T.next)) i j k := by
  obtain ⟨h1, h2, h3, h4, h5, h6⟩ := h
  obtain ⟨a1, a2, a3⟩ := h2 i rfl
  obtain ⟨b1, b2, b3⟩ := h3 j rfl
  obtain ⟨c1, c2, c3⟩ := h4 k rfl
  obtain ⟨n1, n2⟩ := h5 i rfl
  have n3 := h6 j rfl
  have hg : W.grownBy (((W.setCell ⟨k, 0, none⟩ (.map (some i))).setCell ⟨k, 1, none⟩ (.map (some j))).setCell ⟨k, 2, none⟩ (.int .u64 T.next)) (some k) := grown_trans (grown_trans (grown_set _ k 0 _) (grown_set _ k 1 _)) (grown_set _ k 2 _)
  have hs := hg.size
  refine ⟨bl_set (bl_set (bl_set h1 c1 _) c1 _) c1 _, ⟨a1, by omega, a3.grown hg (fun e => n2 e.symm)⟩, ⟨b1, by omega, b3.grown hg (fun e => n3 e.symm)⟩, blk_set' (blk_set' (blk_set' c3 0 _ rfl) 1 _ rfl) 2 _ rfl, fun e => n1 (by rw [e]), c1⟩
end
attribute [local go_sem ↓ high] fold_lkPl fold_lkSm fold_upPl fold_upSm
def FreshT (w w' : World) (T : Tbl) (e : Ending) : Prop := ∃ pm sm F, e = .returned (.agg #[.map (some pm), .map (some sm), .int .u64 T.next]) ∧ TblAt w' pm sm F T ∧ (∀ i, F i → w.heap.size ≤ i) ∧ Below w.heap.size w w'
/-- Behind the making: the loop over no sums, the copy handed back. -/
theorem copied_rest {w W1 W : World} {T : Tbl} {i j k q r sm : Nat} (hb1 : Below w.heap.size w W1) (hok : ∀ r ∈ T.places, r.2.ok) (hs : T.sums = []) (hsm : MapU W1 sm (fun x : Value × List Int => x.1) ([] : RowsU)) (hr1 : W1.heap[r]? = some (.cells #[.map none, .map none, .int .u64 0] 147 (0, 0)))
    (q1 : W1.cell? ⟨q, 1, none⟩ = some (.map (some sm))) (hrw : w.heap.size ≤ r) (hql : q < W1.heap.size) (hsw : sm < W1.heap.size) (h : CpF W1 T W i j k) :
    ∃ Wz Wi, W = Wz ∧ Wz.cell? ⟨q, 1, none⟩ = some (.map (some sm)) ∧ (Instr.range 145 (.map (some sm))).run Tryz.prog Wz = .ok (.pointer (some ⟨Wz.heap.size, 0, none⟩)) Wi ∧ (∀ ty, (Instr.next (.pointer (some ⟨Wz.heap.size, 0, none⟩)) false ty).run Tryz.prog Wi = .ok (.tuple #[.bool false]) Wi) ∧
      Wi.cell? ⟨k, 0, none⟩ = some (.map (some i)) ∧ Wi.cell? ⟨k, 1, none⟩ = some (.map (some j)) ∧ Wi.cell? ⟨k, 2, none⟩ = some (.int .u64 T.next) ∧ k < Wi.heap.size ∧
      Wi.cell? ⟨r, 0, none⟩ = some (.map none) ∧ Wi.cell? ⟨r, 1, none⟩ = some (.map none) ∧ Wi.cell? ⟨r, 2, none⟩ = some (.int .u64 0) ∧ Wi.frozen? ⟨r, 0, none⟩ = false ∧ Wi.frozen? ⟨r, 1, none⟩ = false ∧ Wi.frozen? ⟨r, 2, none⟩ = false ∧ r < Wi.heap.size ∧
      (((Wi.setCell ⟨r, 0, none⟩ (.map (some i))).setCell ⟨r, 1, none⟩ (.map (some j))).setCell ⟨r, 2, none⟩ (.int .u64 T.next)).heap[r]? = some (.cells #[.map (some i), .map (some j), .int .u64 T.next] 147 (0, 0)) ∧
      FreshT w (((Wi.setCell ⟨r, 0, none⟩ (.map (some i))).setCell ⟨r, 1, none⟩ (.map (some j))).setCell ⟨r, 2, none⟩ (.int .u64 T.next)) T (.returned (.agg #[.map (some i), .map (some j), .int .u64 T.next])) := by
  obtain ⟨h1, ⟨a1, a2, a3⟩, ⟨b1, b2, b3⟩, h4, h5, h6⟩ := h
  have h1' : Below W1.heap.size W1 W := h1
  have hs1 := h1'.size
  have hs0 := hb1.size
  obtain ⟨es, clock, hm, he, _⟩ := hsm.below h1' hsw
  have hes : es = #[] := by
    have := congrArg List.length he
    simp at this
    exact this
  subst hes
  have hbi : Below W.heap.size W (W.alloc (.mapIter (some sm) clock #[] clock)) := bl_alloc (Below.refl _ W) _
  have hk := blk_below hbi h4 (blk_lt h4)
  have hrW := blk_below h1' hr1 (blk_lt hr1)
  have hrI := blk_below hbi hrW (blk_lt hrW)
  have hg : (W.alloc (.mapIter (some sm) clock #[] clock)).grownBy ((((W.alloc (.mapIter (some sm) clock #[] clock)).setCell ⟨r, 0, none⟩ (.map (some i))).setCell ⟨r, 1, none⟩ (.map (some j))).setCell ⟨r, 2, none⟩ (.int .u64 T.next)) (some r) := grown_trans (grown_trans (grown_set _ r 0 _) (grown_set _ r 1 _)) (grown_set _ r 2 _)
  have hgs := hg.size
  have hrl := blk_lt hr1
  have hsi := hbi.size
  refine ⟨W, W.alloc (.mapIter (some sm) clock #[] clock), rfl, (h1'.cell hql).trans q1, run_range_map W _ _ _ sm #[] clock Tryz.underlying145 hm, fun ty => ?_, by rw [blk_cell hk]; rfl, by rw [blk_cell hk]; rfl, by rw [blk_cell hk]; rfl, blk_lt hk, by rw [blk_cell hrI]; rfl, by rw [blk_cell hrI]; rfl, by rw [blk_cell hrI]; rfl, blk_free hrI 0, blk_free hrI 1, blk_free hrI 2, blk_lt hrI, blk_set' (blk_set' (blk_set' hrI 0 _ rfl) 1 _ rfl) 2 _ rfl, ?_⟩
  · rcases run_next_map (P := Tryz.prog) W ty sm clock clock #[] #[] clock hm (fun x hx => by cases hx) (Nat.le_refl _) with ⟨_, e⟩ | ⟨x, hx, _⟩
    · exact e
    · simp [leftOf] at hx
  · have c1 : MapU _ i Pl.v T.places := (a3.below hbi a2).grown hg (fun e => by injection e; omega)
    have c2 : MapU _ j (fun x : Value × List Int => x.1) ([] : RowsU) := (b3.below hbi b2).grown hg (fun e => by injection e; omega)
    refine ⟨i, j, fun n => n = i ∨ n = j, rfl, ⟨[], c1, c2, by rw [hs]; rfl, (fun r hr => by cases hr), (fun a ha => by cases ha), h5, .inl rfl, .inr rfl, ?_, hok⟩, ?_, ?_⟩
    · rintro n (rfl | rfl) <;> omega
    · rintro n (rfl | rfl) <;> omega
    · exact bl_set (bl_set (bl_set (bl_then (bl_then hb1 hb1.size h1') (Nat.le_trans hs0 hs1) hbi) hrw _) hrw _) hrw _
section
variable {w : World} {pm sm : Nat} {F : Nat → Prop} {T : Tbl}
set_option maxRecDepth 100000 in
set_option maxHeartbeats 4000000 in
theorem copied_calls (hT : TblAt w pm sm F T) (hs : T.sums = []) : Calls Tryz.prog 80 #[.agg #[.map (some pm), .map (some sm), .int .u64 T.next]] w fun e w' => FreshT w w' T e := by
  obtain ⟨Wb, hWb⟩ : ∃ W, w.alloc (.cells #[.map (some pm), .map (some sm), .int .u64 T.next] 147) = W := ⟨_, rfl⟩
  obtain ⟨W0, hW0⟩ : ∃ W, Wb.alloc (.cells #[.map none, .map none, .int .u64 0] 147) = W := ⟨_, rfl⟩
  obtain ⟨W1, hW1⟩ : ∃ W, W0.drew = W := ⟨_, rfl⟩
  obtain ⟨q, hq⟩ : ∃ q, w.heap.size = q := ⟨_, rfl⟩
  obtain ⟨r, hr⟩ : ∃ r, Wb.heap.size = r := ⟨_, rfl⟩
  have hbb : Below w.heap.size w Wb := by rw [← hWb]; exact bl_alloc (Below.refl _ w) _
  have hb0 : Below Wb.heap.size Wb W0 := by rw [← hW0]; exact bl_alloc (Below.refl _ Wb) _
  have hb01 : Below W0.heap.size W0 W1 := by rw [← hW1]; exact (Below.refl _ W0).drew
  have hb1 : Below w.heap.size w W1 := bl_then (bl_then hbb hbb.size hb0) (Nat.le_trans hbb.size hb0.size) hb01
  have hqb : Wb.heap[q]? = some (.cells #[.map (some pm), .map (some sm), .int .u64 T.next] 147 (0, 0)) := by rw [← hWb, ← hq]; exact blk_new w _
  have hq1 := blk_below hb01 (blk_below hb0 hqb (blk_lt hqb)) (Nat.lt_of_lt_of_le (blk_lt hqb) hb0.size)
  have hr0 : W0.heap[r]? = some (.cells #[.map none, .map none, .int .u64 0] 147 (0, 0)) := by rw [← hW0, ← hr]; exact blk_new Wb _
  have hr1 := blk_below hb01 hr0 (blk_lt hr0)
  have q0 : W1.cell? ⟨q, 0, none⟩ = some (.map (some pm)) := by rw [blk_cell hq1]; rfl
  have q1 : W1.cell? ⟨q, 1, none⟩ = some (.map (some sm)) := by rw [blk_cell hq1]; rfl
  have q2 : W1.cell? ⟨q, 2, none⟩ = some (.int .u64 T.next) := by rw [blk_cell hq1]; rfl
  have hql := blk_lt hq1
  have hT1 := hT.below hb1
  obtain ⟨R, hpl, hsm, hplain, -, -, -, fpm, fsm, hlt, hok⟩ := hT1
  have hpw : pm < W1.heap.size := hlt pm fpm
  have hR : R = [] := by
    have := congrArg List.length hplain
    rw [hs] at this
    unfold RowsU.plain at this
    exact List.eq_nil_of_length_eq_zero (by simpa using this)
  subst hR
  have HSM := Lib.hid hsm
  have HB1 := Lib.hid hb1
  have HR1 := Lib.hid hr1
  have HOK := Lib.hid hok
  have hrw : w.heap.size ≤ r := by rw [← hr]; exact hbb.size
  have hsw : sm < W1.heap.size := hlt sm fsm
  have I : CpI W1 T W1 none none none := ⟨Below.refl _ _, (fun k e => by cases e), (fun k e => by cases e), (fun k e => by cases e), (fun k e => by cases e), (fun k e => by cases e)⟩
  have hS0 : CpQ W1 W1 := I.1
  have hmm := @run_makeMap Tryz.prog
  clear hbb hb0 hb01 hb1 hqb hq1 hr0 hr1 hsm hplain hlt hok hT fpm fsm
  go_enter Tryz.func80, Tryz.ntmps80
  go_wp2
  refine wp_region_noPanic ?_
  refine wp_region_held_drew (S := CpQ W1) (by kernel_rfl) (by rw [hW1]; exact hS0) (fun hHeld => ?_)
  rw [hW1]
  refine wpAnyH_take (i := 0) (oi := ⟨some 6, _, _, _, _, _⟩) (v := ?_) rfl (by kernel_rfl) (by kernel_rfl) (by kernel_rfl) (fun _ _ _ h => h) (Or.inl ⟨by rfl, ?_⟩) (by assumption) ?_
  rotate_left
  · (intro w hSw; (try dsimp only at hSw); have k0 := (hSw.cell hql).trans q0; have k2 := (hSw.cell hql).trans q2; have kl := Nat.lt_of_lt_of_le hql hSw.size; (go_simp <;> with_reducible rfl))
  try simp only [Act.put, List.setIfInBounds_toArray, List.set_cons_zero, List.set_cons_succ]
  refine wpAnyH_take (i := 1) (oi := ⟨some 7, _, _, _, _, _⟩) (v := ?_) rfl (by kernel_rfl) (by kernel_rfl) (by kernel_rfl) (fun _ _ _ h => h) (Or.inl ⟨by rfl, ?_⟩) (by assumption) ?_
  rotate_left
  · (intro w hSw; (try dsimp only at hSw); have k0 := (hSw.cell hql).trans q0; have k2 := (hSw.cell hql).trans q2; have kl := Nat.lt_of_lt_of_le hql hSw.size; (go_simp <;> with_reducible rfl))
  try simp only [Act.put, List.setIfInBounds_toArray, List.set_cons_zero, List.set_cons_succ]
  refine wpAnyH_take (i := 4) (oi := ⟨some 10, _, _, _, _, _⟩) (v := ?_) rfl (by kernel_rfl) (by kernel_rfl) (by kernel_rfl) (fun _ _ _ h => h) (Or.inl ⟨by rfl, ?_⟩) (by assumption) ?_
  rotate_left
  · (intro w hSw; (try dsimp only at hSw); have k0 := (hSw.cell hql).trans q0; have k2 := (hSw.cell hql).trans q2; have kl := Nat.lt_of_lt_of_le hql hSw.size; (go_simp <;> with_reducible rfl))
  try simp only [Act.put, List.setIfInBounds_toArray, List.set_cons_zero, List.set_cons_succ]
  refine wpAnyH_take (i := 5) (oi := ⟨some 11, _, _, _, _, _⟩) (v := ?_) rfl (by kernel_rfl) (by kernel_rfl) (by kernel_rfl) (fun _ _ _ h => h) (Or.inl ⟨by rfl, ?_⟩) (by assumption) ?_
  rotate_left
  · (intro w hSw; (try dsimp only at hSw); have k0 := (hSw.cell hql).trans q0; have k2 := (hSw.cell hql).trans q2; have kl := Nat.lt_of_lt_of_le hql hSw.size; (go_simp <;> with_reducible rfl))
  try simp only [Act.put, List.setIfInBounds_toArray, List.set_cons_zero, List.set_cons_succ]
  refine wpAnyH_ready (rs := [2, 3, 7]) (by kernel_rfl) (by simp) ?_
  refine AllReadyH.cons rfl (fun K hK => ?_) (AllReadyH.cons rfl (fun K hK => ?_) (AllReadyH.cons rfl (fun K hK => ?_) AllReadyH.nil))
  · skip
    go_simp
    go_at_call 129
    refine (I.clone hpl hpw).mono ?_
    rintro e W2 ⟨rfl, I⟩
    have S2 := I.1
    refine hK.out _ _ (by assumption) (fun _ => ?_)
    clear hK K
    try simp only [Act.put, List.setIfInBounds_toArray, List.set_cons_zero, List.set_cons_succ]
    refine wpAnyH_ready (rs := [3, 7]) (by kernel_rfl) (by simp) ?_
    refine AllReadyH.cons rfl (fun K hK => ?_) (AllReadyH.cons rfl (fun K hK => ?_) AllReadyH.nil)
    · skip
      have I := I.make
      obtain ⟨X3, hX3, I⟩ := I.name
      have S3 := I.1
      go_simp
      refine hK.out _ _ (by assumption) (fun _ => ?_)
      clear hK K
      try simp only [Act.put, List.setIfInBounds_toArray, List.set_cons_zero, List.set_cons_succ]
      refine wpAnyH_take (i := 6) (oi := ⟨some 12, _, _, _, _, _⟩) (v := ?_) rfl (by kernel_rfl) (by kernel_rfl) (by kernel_rfl) (fun _ _ _ h => h) (Or.inl ⟨by rfl, ?_⟩) (by assumption) ?_
      rotate_left
      · (intro w hSw; (try dsimp only at hSw); have k0 := (hSw.cell hql).trans q0; have k2 := (hSw.cell hql).trans q2; have kl := Nat.lt_of_lt_of_le hql hSw.size; (go_simp <;> with_reducible rfl))
      try simp only [Act.put, List.setIfInBounds_toArray, List.set_cons_zero, List.set_cons_succ]
      refine wpAnyH_ready (rs := [7]) (by kernel_rfl) (by simp) ?_
      refine AllReadyH.cons rfl (fun K hK => ?_) AllReadyH.nil
      have I := I.tab
      obtain ⟨X7, hX7, I⟩ := I.name
      have S7 := I.1
      go_simp
      refine hK.out _ _ (by assumption) (fun _ => ?_)
      clear hK K
      try simp only [Act.put, List.setIfInBounds_toArray, List.set_cons_zero, List.set_cons_succ]
      refine wpAnyH_ready (rs := [8]) (by kernel_rfl) (by simp) ?_
      refine AllReadyH.cons rfl (fun K hK => ?_) AllReadyH.nil
      obtain ⟨u0, u1, u2, v0, v1, v2, ul⟩ := I.row
      go_simp
      have I := I.put
      have S8 := I.1
      refine hK.out _ _ (by assumption) (fun _ => ?_)
      clear hK K
      try simp only [Act.put, List.setIfInBounds_toArray, List.set_cons_zero, List.set_cons_succ]
      refine wpAnyH_done (by kernel_rfl) ?_ _
      refine NoPanic.normal ?_
      obtain ⟨Wz, Wi, hWz, k1, hrg, hnx, t0, t1, t2, tl, r0, r1, r2, f0, f1, f2, rl, hrow, FIN⟩ := copied_rest HB1.out HOK.out hs HSM.out HR1.out q1 hrw hql hsw I
      rw [hWz]
      clear hWz hpl I
      go_wp2
      go_loopg [] 0 (fun m wr => wr = Wi)
      case atStart => exact rfl
      case round => obtain rfl := hrel; go_wp2; refine ret_row #[.map (some _), .map (some _), .int .u64 T.next] (g := r) (by rfl) (by rfl) Tryz.underlying147 (by rfl) rfl (by kernel_rfl) (rowOf_blk hrow) ?_; exact FIN
    · skip
      have I := I.tab
      obtain ⟨X7, hX7, I⟩ := I.name
      have S7 := I.1
      go_simp
      refine hK.out _ _ (by assumption) (fun _ => ?_)
      clear hK K
      try simp only [Act.put, List.setIfInBounds_toArray, List.set_cons_zero, List.set_cons_succ]
      refine wpAnyH_ready (rs := [3]) (by kernel_rfl) (by simp) ?_
      refine AllReadyH.cons rfl (fun K hK => ?_) AllReadyH.nil
      have I := I.make
      obtain ⟨X3, hX3, I⟩ := I.name
      have S3 := I.1
      go_simp
      refine hK.out _ _ (by assumption) (fun _ => ?_)
      clear hK K
      try simp only [Act.put, List.setIfInBounds_toArray, List.set_cons_zero, List.set_cons_succ]
      refine wpAnyH_take (i := 6) (oi := ⟨some 12, _, _, _, _, _⟩) (v := ?_) rfl (by kernel_rfl) (by kernel_rfl) (by kernel_rfl) (fun _ _ _ h => h) (Or.inl ⟨by rfl, ?_⟩) (by assumption) ?_
      rotate_left
      · (intro w hSw; (try dsimp only at hSw); have k0 := (hSw.cell hql).trans q0; have k2 := (hSw.cell hql).trans q2; have kl := Nat.lt_of_lt_of_le hql hSw.size; (go_simp <;> with_reducible rfl))
      try simp only [Act.put, List.setIfInBounds_toArray, List.set_cons_zero, List.set_cons_succ]
      refine wpAnyH_ready (rs := [8]) (by kernel_rfl) (by simp) ?_
      refine AllReadyH.cons rfl (fun K hK => ?_) AllReadyH.nil
      obtain ⟨u0, u1, u2, v0, v1, v2, ul⟩ := I.row
      go_simp
      have I := I.put
      have S8 := I.1
      refine hK.out _ _ (by assumption) (fun _ => ?_)
      clear hK K
      try simp only [Act.put, List.setIfInBounds_toArray, List.set_cons_zero, List.set_cons_succ]
      refine wpAnyH_done (by kernel_rfl) ?_ _
      refine NoPanic.normal ?_
      obtain ⟨Wz, Wi, hWz, k1, hrg, hnx, t0, t1, t2, tl, r0, r1, r2, f0, f1, f2, rl, hrow, FIN⟩ := copied_rest HB1.out HOK.out hs HSM.out HR1.out q1 hrw hql hsw I
      rw [hWz]
      clear hWz hpl I
      go_wp2
      go_loopg [] 0 (fun m wr => wr = Wi)
      case atStart => exact rfl
      case round => obtain rfl := hrel; go_wp2; refine ret_row #[.map (some _), .map (some _), .int .u64 T.next] (g := r) (by rfl) (by rfl) Tryz.underlying147 (by rfl) rfl (by kernel_rfl) (rowOf_blk hrow) ?_; exact FIN
  · skip
    have I := I.make
    obtain ⟨X3, hX3, I⟩ := I.name
    have S3 := I.1
    go_simp
    refine hK.out _ _ (by assumption) (fun _ => ?_)
    clear hK K
    try simp only [Act.put, List.setIfInBounds_toArray, List.set_cons_zero, List.set_cons_succ]
    refine wpAnyH_ready (rs := [2, 7]) (by kernel_rfl) (by simp) ?_
    refine AllReadyH.cons rfl (fun K hK => ?_) (AllReadyH.cons rfl (fun K hK => ?_) AllReadyH.nil)
    · skip
      go_simp
      go_at_call 129
      refine (I.clone hpl hpw).mono ?_
      rintro e W2 ⟨rfl, I⟩
      have S2 := I.1
      refine hK.out _ _ (by assumption) (fun _ => ?_)
      clear hK K
      try simp only [Act.put, List.setIfInBounds_toArray, List.set_cons_zero, List.set_cons_succ]
      refine wpAnyH_take (i := 6) (oi := ⟨some 12, _, _, _, _, _⟩) (v := ?_) rfl (by kernel_rfl) (by kernel_rfl) (by kernel_rfl) (fun _ _ _ h => h) (Or.inl ⟨by rfl, ?_⟩) (by assumption) ?_
      rotate_left
      · (intro w hSw; (try dsimp only at hSw); have k0 := (hSw.cell hql).trans q0; have k2 := (hSw.cell hql).trans q2; have kl := Nat.lt_of_lt_of_le hql hSw.size; (go_simp <;> with_reducible rfl))
      try simp only [Act.put, List.setIfInBounds_toArray, List.set_cons_zero, List.set_cons_succ]
      refine wpAnyH_ready (rs := [7]) (by kernel_rfl) (by simp) ?_
      refine AllReadyH.cons rfl (fun K hK => ?_) AllReadyH.nil
      have I := I.tab
      obtain ⟨X7, hX7, I⟩ := I.name
      have S7 := I.1
      go_simp
      refine hK.out _ _ (by assumption) (fun _ => ?_)
      clear hK K
      try simp only [Act.put, List.setIfInBounds_toArray, List.set_cons_zero, List.set_cons_succ]
      refine wpAnyH_ready (rs := [8]) (by kernel_rfl) (by simp) ?_
      refine AllReadyH.cons rfl (fun K hK => ?_) AllReadyH.nil
      obtain ⟨u0, u1, u2, v0, v1, v2, ul⟩ := I.row
      go_simp
      have I := I.put
      have S8 := I.1
      refine hK.out _ _ (by assumption) (fun _ => ?_)
      clear hK K
      try simp only [Act.put, List.setIfInBounds_toArray, List.set_cons_zero, List.set_cons_succ]
      refine wpAnyH_done (by kernel_rfl) ?_ _
      refine NoPanic.normal ?_
      obtain ⟨Wz, Wi, hWz, k1, hrg, hnx, t0, t1, t2, tl, r0, r1, r2, f0, f1, f2, rl, hrow, FIN⟩ := copied_rest HB1.out HOK.out hs HSM.out HR1.out q1 hrw hql hsw I
      rw [hWz]
      clear hWz hpl I
      go_wp2
      go_loopg [] 0 (fun m wr => wr = Wi)
      case atStart => exact rfl
      case round => obtain rfl := hrel; go_wp2; refine ret_row #[.map (some _), .map (some _), .int .u64 T.next] (g := r) (by rfl) (by rfl) Tryz.underlying147 (by rfl) rfl (by kernel_rfl) (rowOf_blk hrow) ?_; exact FIN
    · skip
      have I := I.tab
      obtain ⟨X7, hX7, I⟩ := I.name
      have S7 := I.1
      go_simp
      refine hK.out _ _ (by assumption) (fun _ => ?_)
      clear hK K
      try simp only [Act.put, List.setIfInBounds_toArray, List.set_cons_zero, List.set_cons_succ]
      refine wpAnyH_ready (rs := [2]) (by kernel_rfl) (by simp) ?_
      refine AllReadyH.cons rfl (fun K hK => ?_) AllReadyH.nil
      go_simp
      go_at_call 129
      refine (I.clone hpl hpw).mono ?_
      rintro e W2 ⟨rfl, I⟩
      have S2 := I.1
      refine hK.out _ _ (by assumption) (fun _ => ?_)
      clear hK K
      try simp only [Act.put, List.setIfInBounds_toArray, List.set_cons_zero, List.set_cons_succ]
      refine wpAnyH_take (i := 6) (oi := ⟨some 12, _, _, _, _, _⟩) (v := ?_) rfl (by kernel_rfl) (by kernel_rfl) (by kernel_rfl) (fun _ _ _ h => h) (Or.inl ⟨by rfl, ?_⟩) (by assumption) ?_
      rotate_left
      · (intro w hSw; (try dsimp only at hSw); have k0 := (hSw.cell hql).trans q0; have k2 := (hSw.cell hql).trans q2; have kl := Nat.lt_of_lt_of_le hql hSw.size; (go_simp <;> with_reducible rfl))
      try simp only [Act.put, List.setIfInBounds_toArray, List.set_cons_zero, List.set_cons_succ]
      refine wpAnyH_ready (rs := [8]) (by kernel_rfl) (by simp) ?_
      refine AllReadyH.cons rfl (fun K hK => ?_) AllReadyH.nil
      obtain ⟨u0, u1, u2, v0, v1, v2, ul⟩ := I.row
      go_simp
      have I := I.put
      have S8 := I.1
      refine hK.out _ _ (by assumption) (fun _ => ?_)
      clear hK K
      try simp only [Act.put, List.setIfInBounds_toArray, List.set_cons_zero, List.set_cons_succ]
      refine wpAnyH_done (by kernel_rfl) ?_ _
      refine NoPanic.normal ?_
      obtain ⟨Wz, Wi, hWz, k1, hrg, hnx, t0, t1, t2, tl, r0, r1, r2, f0, f1, f2, rl, hrow, FIN⟩ := copied_rest HB1.out HOK.out hs HSM.out HR1.out q1 hrw hql hsw I
      rw [hWz]
      clear hWz hpl I
      go_wp2
      go_loopg [] 0 (fun m wr => wr = Wi)
      case atStart => exact rfl
      case round => obtain rfl := hrel; go_wp2; refine ret_row #[.map (some _), .map (some _), .int .u64 T.next] (g := r) (by rfl) (by rfl) Tryz.underlying147 (by rfl) rfl (by kernel_rfl) (rowOf_blk hrow) ?_; exact FIN
  · skip
    have I := I.tab
    obtain ⟨X7, hX7, I⟩ := I.name
    have S7 := I.1
    go_simp
    refine hK.out _ _ (by assumption) (fun _ => ?_)
    clear hK K
    try simp only [Act.put, List.setIfInBounds_toArray, List.set_cons_zero, List.set_cons_succ]
    refine wpAnyH_ready (rs := [2, 3]) (by kernel_rfl) (by simp) ?_
    refine AllReadyH.cons rfl (fun K hK => ?_) (AllReadyH.cons rfl (fun K hK => ?_) AllReadyH.nil)
    · skip
      go_simp
      go_at_call 129
      refine (I.clone hpl hpw).mono ?_
      rintro e W2 ⟨rfl, I⟩
      have S2 := I.1
      refine hK.out _ _ (by assumption) (fun _ => ?_)
      clear hK K
      try simp only [Act.put, List.setIfInBounds_toArray, List.set_cons_zero, List.set_cons_succ]
      refine wpAnyH_ready (rs := [3]) (by kernel_rfl) (by simp) ?_
      refine AllReadyH.cons rfl (fun K hK => ?_) AllReadyH.nil
      have I := I.make
      obtain ⟨X3, hX3, I⟩ := I.name
      have S3 := I.1
      go_simp
      refine hK.out _ _ (by assumption) (fun _ => ?_)
      clear hK K
      try simp only [Act.put, List.setIfInBounds_toArray, List.set_cons_zero, List.set_cons_succ]
      refine wpAnyH_take (i := 6) (oi := ⟨some 12, _, _, _, _, _⟩) (v := ?_) rfl (by kernel_rfl) (by kernel_rfl) (by kernel_rfl) (fun _ _ _ h => h) (Or.inl ⟨by rfl, ?_⟩) (by assumption) ?_
      rotate_left
      · (intro w hSw; (try dsimp only at hSw); have k0 := (hSw.cell hql).trans q0; have k2 := (hSw.cell hql).trans q2; have kl := Nat.lt_of_lt_of_le hql hSw.size; (go_simp <;> with_reducible rfl))
      try simp only [Act.put, List.setIfInBounds_toArray, List.set_cons_zero, List.set_cons_succ]
      refine wpAnyH_ready (rs := [8]) (by kernel_rfl) (by simp) ?_
      refine AllReadyH.cons rfl (fun K hK => ?_) AllReadyH.nil
      obtain ⟨u0, u1, u2, v0, v1, v2, ul⟩ := I.row
      go_simp
      have I := I.put
      have S8 := I.1
      refine hK.out _ _ (by assumption) (fun _ => ?_)
      clear hK K
      try simp only [Act.put, List.setIfInBounds_toArray, List.set_cons_zero, List.set_cons_succ]
      refine wpAnyH_done (by kernel_rfl) ?_ _
      refine NoPanic.normal ?_
      obtain ⟨Wz, Wi, hWz, k1, hrg, hnx, t0, t1, t2, tl, r0, r1, r2, f0, f1, f2, rl, hrow, FIN⟩ := copied_rest HB1.out HOK.out hs HSM.out HR1.out q1 hrw hql hsw I
      rw [hWz]
      clear hWz hpl I
      go_wp2
      go_loopg [] 0 (fun m wr => wr = Wi)
      case atStart => exact rfl
      case round => obtain rfl := hrel; go_wp2; refine ret_row #[.map (some _), .map (some _), .int .u64 T.next] (g := r) (by rfl) (by rfl) Tryz.underlying147 (by rfl) rfl (by kernel_rfl) (rowOf_blk hrow) ?_; exact FIN
    · skip
      have I := I.make
      obtain ⟨X3, hX3, I⟩ := I.name
      have S3 := I.1
      go_simp
      refine hK.out _ _ (by assumption) (fun _ => ?_)
      clear hK K
      try simp only [Act.put, List.setIfInBounds_toArray, List.set_cons_zero, List.set_cons_succ]
      refine wpAnyH_ready (rs := [2]) (by kernel_rfl) (by simp) ?_
      refine AllReadyH.cons rfl (fun K hK => ?_) AllReadyH.nil
      go_simp
      go_at_call 129
      refine (I.clone hpl hpw).mono ?_
      rintro e W2 ⟨rfl, I⟩
      have S2 := I.1
      refine hK.out _ _ (by assumption) (fun _ => ?_)
      clear hK K
      try simp only [Act.put, List.setIfInBounds_toArray, List.set_cons_zero, List.set_cons_succ]
      refine wpAnyH_take (i := 6) (oi := ⟨some 12, _, _, _, _, _⟩) (v := ?_) rfl (by kernel_rfl) (by kernel_rfl) (by kernel_rfl) (fun _ _ _ h => h) (Or.inl ⟨by rfl, ?_⟩) (by assumption) ?_
      rotate_left
      · (intro w hSw; (try dsimp only at hSw); have k0 := (hSw.cell hql).trans q0; have k2 := (hSw.cell hql).trans q2; have kl := Nat.lt_of_lt_of_le hql hSw.size; (go_simp <;> with_reducible rfl))
      try simp only [Act.put, List.setIfInBounds_toArray, List.set_cons_zero, List.set_cons_succ]
      refine wpAnyH_ready (rs := [8]) (by kernel_rfl) (by simp) ?_
      refine AllReadyH.cons rfl (fun K hK => ?_) AllReadyH.nil
      obtain ⟨u0, u1, u2, v0, v1, v2, ul⟩ := I.row
      go_simp
      have I := I.put
      have S8 := I.1
      refine hK.out _ _ (by assumption) (fun _ => ?_)
      clear hK K
      try simp only [Act.put, List.setIfInBounds_toArray, List.set_cons_zero, List.set_cons_succ]
      refine wpAnyH_done (by kernel_rfl) ?_ _
      refine NoPanic.normal ?_
      obtain ⟨Wz, Wi, hWz, k1, hrg, hnx, t0, t1, t2, tl, r0, r1, r2, f0, f1, f2, rl, hrow, FIN⟩ := copied_rest HB1.out HOK.out hs HSM.out HR1.out q1 hrw hql hsw I
      rw [hWz]
      clear hWz hpl I
      go_wp2
      go_loopg [] 0 (fun m wr => wr = Wi)
      case atStart => exact rfl
      case round => obtain rfl := hrel; go_wp2; refine ret_row #[.map (some _), .map (some _), .int .u64 T.next] (g := r) (by rfl) (by rfl) Tryz.underlying147 (by rfl) rfl (by kernel_rfl) (rowOf_blk hrow) ?_; exact FIN
end
end Go.Proofs.YtikgplhcadomcaaGreat

namespace Go.Proofs.YtikgplhcadomcaaGreat
open Go.RowKit
set_option linter.unusedVariables false
set_option linter.unusedSimpArgs false
theorem OpenR.none {w w' : World} {g : Nat} {F : Nat → Prop} {D : Dv} {n : Int} {e : Ending} (h : OpenR w w' g F D e) (ho : openR D = (.none, n)) : e = .returned (.tuple #[.pointer .none, .slice .none 0 0, .int .i64 n]) ∧ Below w.heap.size w w' := by
  rcases h with ⟨P', b', p, F', A, c, e1, e2, hc, hr, hA, hP, hF, hb⟩ | ⟨m, e1, _, e2, hb⟩
  · rw [ho] at e1
    cases e1
  · rw [ho] at e1
    have := congrArg Prod.snd e1
    dsimp only at this
    subst this
    exact ⟨e2, hb⟩
def tbl0 : Tbl := ⟨[], [], 1⟩
def stor0 (P : Pg) : Stor := ⟨P, tbl0, tbl0, []⟩
section
variable {w : World} {g : Nat} {F : Nat → Prop} {D : Dv}
set_option maxRecDepth 100000 in
set_option maxHeartbeats 1000000 in
theorem openedF_calls (h : DevAt w g F D) {P : Pg} (hcl : D.cache.length ≤ 1000000000) (h1 : openR D = (none, 50)) (h2 : (formatR D).1 = 0) (h3 : openR (formatR D).2 = (some (P, []), 0)) :
    Calls Tryz.prog 78 #[.pointer (some ⟨g, 0, none⟩)] w fun e w' => ∃ p F' A c, e = .returned (.tuple #[.pointer (some ⟨p, 0, none⟩), .slice A 0 c, .int .i64 0]) ∧ PgAt w' p g F' (formatR D).2 P ∧ (∀ i, F' i → F i ∨ w.heap.size ≤ i) ∧ Chg F w w' := by
  have H := Lib.hid h
  have H1 := Lib.hid h1
  have H3 := Lib.hid h3
  clear h h1 h3
  go_enter Tryz.func78, Tryz.ntmps78
  go_wp2_with fail
  refine (open_calls H.out).mono ?_
  rintro e w1 ho1
  obtain ⟨rfl, hb1⟩ := ho1.none H1.out
  have B1 := Lib.hid hb1
  clear ho1 hb1
  go_wp2_with fail
  refine (format_calls (H.out.below B1.out) hcl).mono ?_
  rintro e w2 ⟨rfl, F2, hd2, c2, s2⟩
  rw [h2]
  have D2 := Lib.hid hd2
  have C2 : Hid (Chg F w w2) := (Below.chg B1.out F).trans c2 (fun i _ hi => hi)
  have S2 : Hid (∀ i, F2 i → F i ∨ w.heap.size ≤ i) := fun i hi => (s2 i hi).imp_right (fun q => Nat.le_trans B1.out.size q)
  clear hd2 c2 s2
  go_wp2_with fail
  refine (open_calls D2.out).mono ?_
  rintro e w3 ho3
  obtain ⟨p, F', A, c, rfl, -, -, -, hP, hF, hb3⟩ := ho3.known H3.out
  have P3 := Lib.hid hP
  have C3 : Hid (Chg F w w3) := C2.out.trans (Below.chg hb3 F) (fun i _ hi => hi)
  have S3 : Hid (∀ i, F' i → F i ∨ w.heap.size ≤ i) := fun i hi => (hF i hi).elim (S2.out i) (fun q => .inr (Nat.le_trans C2.out.size q))
  clear ho3 hP hF hb3
  go_wp2
  go_ret3
  exact ⟨p, F', A, c, rfl, P3.out, S3.out, C3.out⟩
set_option maxRecDepth 100000 in
set_option maxHeartbeats 2000000 in
theorem chOpenF_calls (h : DevAt w g F D) {P : Pg} (hcl : D.cache.length ≤ 1000000000) (h1 : openR D = (none, 50)) (h2 : (formatR D).1 = 0) (h3 : openR (formatR D).2 = (some (P, []), 0)) :
    Calls Tryz.prog 31 #[.pointer (some ⟨g, 0, none⟩)] w fun e w' => ∃ s p F', e = .returned (.tuple #[.pointer (some ⟨s, 0, none⟩), .int .i64 0]) ∧ StAt w' s p g F' (formatR D).2 (stor0 P) ∧ (∀ i, F' i → F i ∨ w.heap.size ≤ i) ∧ Chg F w w' := by
  have HO := Lib.hid (openedF_calls h hcl h1 h2 h3)
  have hmm := @run_makeMap Tryz.prog
  clear h h1 h2 h3
  generalize (formatR D).2 = D1 at *
  go_enter Tryz.func31, Tryz.ntmps31
  go_wp2_with fail
  refine HO.out.mono ?_
  rintro e w1 ⟨p, F1, A, c, rfl, hP1, s1, c1⟩
  obtain ⟨X1, hX1⟩ : ∃ W, w1.alloc (.map #[] 0) = W := ⟨_, rfl⟩
  obtain ⟨X2, hX2⟩ : ∃ W, X1.alloc (.map #[] 0) = W := ⟨_, rfl⟩
  obtain ⟨pm, hpm⟩ : ∃ k, w1.heap.size = k := ⟨_, rfl⟩
  obtain ⟨sm, hsm⟩ : ∃ k, X1.heap.size = k := ⟨_, rfl⟩
  obtain ⟨s, hs⟩ : ∃ k, X2.heap.size = k := ⟨_, rfl⟩
  obtain ⟨X3, hX3⟩ : ∃ W, X2.alloc (.cells #[.pointer (some ⟨p, 0, none⟩), .map (some pm), .map (some sm), .int .u64 1, .map none, .map none, .int .u64 0, .slice none 0 0] 149) = W := ⟨_, rfl⟩
  have b1 : Below w1.heap.size w1 X1 := by rw [← hX1]; exact bl_alloc (Below.refl _ w1) _
  have b2 : Below X1.heap.size X1 X2 := by rw [← hX2]; exact bl_alloc (Below.refl _ X1) _
  have b3 : Below X2.heap.size X2 X3 := by rw [← hX3]; exact bl_alloc (Below.refl _ X2) _
  have z1 : X1.heap.size = pm + 1 := by rw [← hX1, ← hpm]; simp
  have z2 : X2.heap.size = sm + 1 := by rw [← hX2, ← hsm]; simp
  have z3 : X3.heap.size = s + 1 := by rw [← hX3, ← hs]; simp
  have b13 : Below w1.heap.size w1 X3 := bl_then (bl_then b1 b1.size b2) (by have := b1.size; have := b2.size; omega) b3
  have m1 : MapU X1 pm Pl.v ([] : List (Int × Pl)) := ⟨#[], 0, by rw [← hX1, ← hpm]; exact blk_new w1 _, rfl, List.nodup_nil⟩
  have m2 : MapU X2 sm (fun x : Value × List Int => x.1) ([] : RowsU) := ⟨#[], 0, by rw [← hX2, ← hsm]; exact blk_new X1 _, rfl, List.nodup_nil⟩
  have m1' : MapU X3 pm Pl.v ([] : List (Int × Pl)) := (m1.below b2 m1.lt).below b3 (by omega)
  have m2' : MapU X3 sm (fun x : Value × List Int => x.1) ([] : RowsU) := m2.below b3 m2.lt
  have hblk : X3.heap[s]? = some (.cells #[.pointer (some ⟨p, 0, none⟩), .map (some pm), .map (some sm), .int .u64 1, .map none, .map none, .int .u64 0, .slice none 0 0] 149 (0, 0)) := by rw [← hX3, ← hs]; exact blk_new X2 _
  have hT : TblAt X3 pm sm (fun n => n = pm ∨ n = sm) tbl0 := ⟨[], m1', m2', rfl, (fun r hr => by cases hr), (fun a ha => by cases ha), by omega, .inl rfl, .inr rfl, (by rintro n (rfl | rfl) <;> omega), (fun r hr => by cases hr)⟩
  have HT := Lib.hid hT
  have HB := Lib.hid hblk
  have HP := Lib.hid (hP1.below b13)
  have HP1 := Lib.hid hP1
  have B13 := Lib.hid b13
  have S1 := Lib.hid s1
  have C1 := Lib.hid c1
  have x1 := blk_cell hblk 1
  have x2 := blk_cell hblk 2
  have x3 := blk_cell hblk 3
  have xl := blk_lt hblk
  have HCP : Hid (Calls Tryz.prog 80 #[.agg #[.map (some pm), .map (some sm), .int .u64 1]] X3 fun e w' => FreshT X3 w' tbl0 e) := copied_calls hT rfl
  clear b1 b2 b3 b13 m1 m2 m1' m2' hT hblk hP1 s1 c1 HO
  go_wp2_with fail
  refine HCP.out.mono ?_
  rintro e w4 ⟨km, kn, FK, rfl, hTK, hFK, hb4⟩
  have hblk4 := blk_below hb4 HB.out (blk_lt HB.out)
  have y4 := blk_cell hblk4 4
  have y5 := blk_cell hblk4 5
  have y6 := blk_cell hblk4 6
  have f4 := blk_free hblk4 4
  have f5 := blk_free hblk4 5
  have f6 := blk_free hblk4 6
  have yl := blk_lt hblk4
  obtain ⟨W5, hW5⟩ : ∃ W, ((w4.setCell ⟨s, 4, none⟩ (.map (some km))).setCell ⟨s, 5, none⟩ (.map (some kn))).setCell ⟨s, 6, none⟩ (.int .u64 tbl0.next) = W := ⟨_, rfl⟩
  have hg : w4.grownBy W5 (some s) := by rw [← hW5]; exact grown_trans (grown_trans (grown_set _ s 4 _) (grown_set _ s 5 _)) (grown_set _ s 6 _)
  have hc5 : Chg (fun i => i = s) w4 W5 := Chg.grown hg rfl
  have hblk5 : W5.heap[s]? = some (.cells ((stor0 P).cells p pm sm km kn (.slice none 0 0)) 149 (0, 0)) := by rw [← hW5]; exact blk_set' (blk_set' (blk_set' hblk4 4 _ rfl) 5 _ rfl) 6 _ rfl
  have hfin : StAt W5 s p g (fun i => F1 i ∨ (i = pm ∨ i = sm) ∨ FK i ∨ i = s) D1 (stor0 P) := by
    have lF1 : ∀ i, F1 i → i < w1.heap.size := HP1.out.lt
    have lFK := hTK.lt
    have hs4 := hb4.size
    have hs5 := hg.size
    refine ⟨pm, sm, km, kn, _, F1, (fun n => n = pm ∨ n = sm), FK, hblk5, (HP.out.below hb4).chg hc5 (fun i hi e => by have := lF1 i hi; omega), (HT.out.below hb4).chg hc5 (by rintro i (rfl | rfl) e <;> omega), hTK.chg hc5 (fun i hi e => by have := hFK i hi; omega), Own.nil, ⟨?_, ?_, ?_, .inr (.inr (.inr rfl)), (fun k hk => by cases hk), ?_⟩, show (1 : Int) ≤ 1 from by omega, show (1 : Int) < 1000000000000000000 from by omega⟩
    · intro i hi
      have := lF1 i hi
      exact ⟨.inl hi, by rintro (q | q) <;> omega, fun q => by have := hFK i q; have := B13.out.size; omega, by omega, fun q => by cases q⟩
    · rintro i hi
      refine ⟨.inr (.inl hi), fun q => ?_, fun q => ?_, ?_, fun q => by cases q⟩
      · have := lF1 i q; rcases hi with hi | hi <;> omega
      · have := hFK i q; rcases hi with hi | hi <;> omega
      · rcases hi with hi | hi <;> omega
    · intro i hi
      have := hFK i hi
      exact ⟨.inr (.inr (.inl hi)), fun q => by have := lF1 i q; have := B13.out.size; omega, by rintro (q | q) <;> omega, by omega, fun q => by cases q⟩
    · rintro i (hi | (hi | hi) | hi | hi)
      · have := lF1 i hi; have := B13.out.size; omega
      · omega
      · omega
      · have := lFK i hi; omega
      · omega
  have HFIN := Lib.hid hfin
  have SF : Hid (∀ i, (F1 i ∨ (i = pm ∨ i = sm) ∨ FK i ∨ i = s) → F i ∨ w.heap.size ≤ i) := by
    have hc := C1.out.size
    have h13 := B13.out.size
    rintro i (hi | (hi | hi) | hi | hi)
    · exact S1.out i hi
    · exact .inr (by omega)
    · exact .inr (by omega)
    · exact .inr (by have := hFK i hi; omega)
    · exact .inr (by omega)
  have CF : Hid (Chg F w W5) := by
    have hc := C1.out.size
    refine ((C1.out.trans (Below.chg B13.out F) (fun i _ q => q)).trans (Below.chg hb4 F) (fun i _ q => q)).trans hc5 (fun i hi e => by omega)
  clear hblk4 hg hc5 hblk5 hfin hTK hFK hb4 HCP HT HB HP HP1 S1 C1 B13
  rw [← hW5] at HFIN CF
  clear hW5
  go_wp2
  go_ret2
  exact ⟨s, p, _, rfl, HFIN.out, SF.out, CF.out⟩
end
end Go.Proofs.YtikgplhcadomcaaGreat

namespace Go.Proofs.YtikgplhcadomcaaGreat
open Go.RowKit
set_option linter.unusedVariables false
set_option linter.unusedSimpArgs false
theorem putR_ok {D : Dv} {P : Pg} {b : List Int} (hok : P.fr.Ok) (h : (putR D P b).1.2 = 0) : 0 ≤ (putR D P b).1.1.start ∧ (putR D P b).1.1.start ≤ 16384 ∧ 1 ≤ (putR D P b).1.1.pages ∧ (putR D P b).1.1.pages ≤ 1058 := by
  unfold putR at h ⊢
  split at h
  · cases h
  · rename_i h1
    rw [if_neg h1]
    split at h
    · rename_i h2
      rw [if_pos h2]
      exact layR_ok hok h2
    · rename_i h2
      exact absurd h h2
def PuS (s pm sm : Nat) (n : Int) (t : Nat) (sp : Span) (W : World) : Prop := W.cell? ⟨s, 1, none⟩ = some (.map (some pm)) ∧ W.cell? ⟨s, 2, none⟩ = some (.map (some sm)) ∧ W.cell? ⟨s, 3, none⟩ = some (.int .u64 n) ∧ s < W.heap.size ∧ W.heap[t]? = some (.cells #[.int .i64 sp.start, .int .i64 sp.pages] 160 (0, 0))
def PutC (F : Nat → Prop) (w w' : World) (s p g : Nat) (R : (Int × Int) × Dv × Stor) (e : Ending) : Prop := e = .returned (.tuple #[.int .u64 R.1.1, .int .i64 R.1.2]) ∧ StDid F w w' s p g R.2.1 R.2.2
section
variable {w : World} {s p g : Nat} {F : Nat → Prop} {D : Dv} {S : Stor}
/-- The store opened at its table that is now. -/
theorem StAt.tab (h : StAt w s p g F D S) : ∃ (pm sm : Nat) (FN : Nat → Prop), w.cell? ⟨s, 1, none⟩ = some (.map (some pm)) ∧ w.cell? ⟨s, 2, none⟩ = some (.map (some sm)) ∧ w.cell? ⟨s, 3, none⟩ = some (.int .u64 S.now.next) ∧ w.frozen? ⟨s, 3, none⟩ = false ∧ s < w.heap.size ∧ TblAt w pm sm FN S.now ∧ (∀ i, FN i → F i ∧ i ≠ s) ∧
    ∀ (w4 w5 : World) (T : Tbl), w4 = w.setCell ⟨s, 3, none⟩ (.int .u64 T.next) → TblDid FN w4 w5 pm sm T → 1 ≤ T.next → T.next < 1000000000000000000 → StDid F w w5 s p g D { S with now := T } := by
  obtain ⟨pm, sm, km, kn, sv, FP, FN, FK, a, b, c, d, e, t, n⟩ := h
  refine ⟨pm, sm, FN, by rw [blk_cell a]; rfl, by rw [blk_cell a]; rfl, by rw [blk_cell a]; rfl, blk_free a 3, blk_lt a, c, fun i hi => ⟨(t.fn i hi).1, (t.fn i hi).2.2.2.1⟩, fun w4 w5 T e4 hT h1 h2 => ?_⟩
  obtain ⟨FN', hT', c5, s5⟩ := hT
  have g4 : w.grownBy w4 (some s) := by rw [e4]; exact grown_set w s 3 _
  have c4 : Chg (fun i => i = s) w w4 := Chg.grown g4 rfl
  have hs4 : w4.heap.size = w.heap.size := by rw [e4]; simp [World.setCell]
  have blk4 : w4.heap[s]? = some (.cells (({ S with now := T } : Stor).cells p pm sm km kn sv) 149 (0, 0)) := by rw [e4]; exact blk_set' a 3 _ rfl
  have lt := t.lt
  have cc : Chg (fun i => i = s ∨ FN i) w w5 := (c4.mono (G := fun i => i = s ∨ FN i) (fun i _ hi => .inl hi)).trans c5 (fun i _ hi => .inr hi)
  have old : ∀ i, F i → ¬ FN i → ¬ FN' i := fun i hi hn hd => (s5 i hd).elim hn (fun q => by have := lt i hi; omega)
  refine ⟨fun i => F i ∨ (w.heap.size ≤ i ∧ i < w5.heap.size), ⟨pm, sm, km, kn, sv, FP, FN', FK, c5.blk blk4 (fun q => (t.fn s q).2.2.2.1 rfl), b.chg cc ?_, hT', d.chg cc ?_, e.chg cc ?_, ⟨fun i hi => ⟨.inl (t.fp i hi).1, old i (t.fp i hi).1 (t.fp i hi).2.1, (t.fp i hi).2.2⟩, fun i hi => ?_, fun i hi => ⟨.inl (t.fk i hi).1, (t.fk i hi).2.1, old i (t.fk i hi).1 (t.fk i hi).2.2.1, (t.fk i hi).2.2.2⟩, .inl t.fs, fun k hk => ⟨.inl (t.sv k hk).1, (t.sv k hk).2⟩, ?_⟩, h1, h2⟩, cc.mono ?_, fun i hi => hi.imp_right And.left⟩
  · rintro i hi (q | q)
    · exact (t.fp i hi).2.2.2.1 q
    · exact (t.fp i hi).2.1 q
  · rintro i hi (q | q)
    · exact (t.fk i hi).2.2.2.1 q
    · exact (t.fk i hi).2.2.1 q
  · rintro i hi (q | q)
    · exact (t.sv i hi).2 q
    · exact (t.fn i q).2.2.2.2 hi
  · rcases s5 i hi with q | q
    · exact ⟨.inl (t.fn i q).1, (t.fn i q).2⟩
    · have hi5 := hT'.lt i hi
      exact ⟨.inr ⟨by omega, hi5⟩, fun z => by have := lt i (t.fp i z).1; omega, fun z => by have := lt i (t.fk i z).1; omega, fun z => by have := lt s t.fs; omega, fun z => by have := lt i (t.sv i z).1; omega⟩
  · rintro i (hi | hi)
    · exact Nat.lt_of_lt_of_le (lt i hi) cc.size
    · exact hi.2
  · rintro i _ (q | q)
    · rw [q]; exact t.fs
    · exact (t.fn i q).1
set_option maxRecDepth 100000 in
set_option maxHeartbeats 4000000 in
theorem chPut_calls (h : StAt w s p g F D S) (A : Option Addr) (c : Nat) (b : List Int) (hcap : b.length ≤ c) (hbl : b.length ≤ 1000000) (hbb : byteL b) (hr : Rd by1 1 w A b) (hA : b ≠ [] → ∀ a, A = some a → ¬ F a.block) (hcl : D.cache.length ≤ 1000000000) (hput : S.P.put.length ≤ 1000000)
    (hids : (idsOf S.now (hashB b)).length ≤ 1000000) (hnx : S.now.next < 100000000000000000) :
    Calls Tryz.prog 38 #[.pointer (some ⟨s, 0, none⟩), .slice A b.length c] w fun e w' => PutC F w w' s p g (putC D S b) e := by
  have hok := Lib.hid (chok_calls h)
  have H0 := Lib.hid (StDid.refl h)
  have HS := Lib.hid h
  have HR := Lib.hid hr
  have HBB := Lib.hid hbb
  have HA := Lib.hid hA
  have hv0 : Hid (putC D S b = if 131072 < b.length then ((0, 2), D, S) else if (findC D S b).2 then (((findC D S b).1, 0), D, S) else if (putR D S.P b).1.2 ≠ 0 then ((0, (putR D S.P b).1.2), (putR D S.P b).2.1, { S with P := (putR D S.P b).2.2 })
      else ((S.now.next, 0), (putR D S.P b).2.1, { S with P := (putR D S.P b).2.2, now := ({ S.now with next := S.now.next + 1 } : Tbl).add S.now.next ⟨(putR D S.P b).1.1, b.length⟩ (hashB b) })) := rfl
  clear h hr hbb hA
  by_cases hl : (131072 : Int) < (b.length : Int)
  · have hv : Hid (putC D S b = ((0, 2), D, S)) := by show _ = _; rw [hv0.out, if_pos (by omega)]
    go_enter Tryz.func38, Tryz.ntmps38
    go_wp2_with fail
    refine hok.out.mono ?_
    rintro e w1 ⟨rfl, rfl⟩
    go_wp2
    go_ret2
    exact ⟨by rw [hv.out]; rfl, by rw [hv.out]; exact H0.out⟩
  have hv1 : Hid (putC D S b = if (findC D S b).2 then (((findC D S b).1, 0), D, S) else if (putR D S.P b).1.2 ≠ 0 then ((0, (putR D S.P b).1.2), (putR D S.P b).2.1, { S with P := (putR D S.P b).2.2 })
      else ((S.now.next, 0), (putR D S.P b).2.1, { S with P := (putR D S.P b).2.2, now := ({ S.now with next := S.now.next + 1 } : Tbl).add S.now.next ⟨(putR D S.P b).1.1, b.length⟩ (hashB b) })) := by show _ = _; rw [hv0.out, if_neg (by omega)]
  have HF := Lib.hid (chFind_calls HS.out A c b hcap (by omega) HBB.out HR.out)
  clear hv0
  go_enter Tryz.func38, Tryz.ntmps38
  go_wp2_with fail
  refine hok.out.mono ?_
  rintro e w1 ⟨rfl, rfl⟩
  go_wp2_with fail
  refine HF.out.mono ?_
  rintro e w2 ⟨rfl, hb2⟩
  have B2 := Lib.hid hb2
  clear hb2 HF
  generalize findC D S b = R at *
  obtain ⟨fid, fis⟩ := R
  simp only at hv1 ⊢
  cases fis
  case' true =>
    have hv : Hid (putC D S b = ((fid, 0), D, S)) := by show _ = _; rw [hv1.out]; rfl
    have K := Lib.hid (StDid.of_below HS.out B2.out)
    go_wp2
    go_ret2
    exact ⟨by rw [hv.out]; rfl, by rw [hv.out]; exact K.out⟩
  have hv2 : Hid (putC D S b = if (putR D S.P b).1.2 ≠ 0 then ((0, (putR D S.P b).1.2), (putR D S.P b).2.1, { S with P := (putR D S.P b).2.2 })
      else ((S.now.next, 0), (putR D S.P b).2.1, { S with P := (putR D S.P b).2.2, now := ({ S.now with next := S.now.next + 1 } : Tbl).add S.now.next ⟨(putR D S.P b).1.1, b.length⟩ (hashB b) })) := by show _ = _; rw [hv1.out]; rfl
  have hS2 := HS.out.below B2.out
  have hsl2 := hS2.slt
  obtain ⟨pm0, sm0, km0, kn0, sv0, FP0, FN0, FK0, c0, -, -, -, -, -, hP0, -, -, hset0, -, hDP⟩ := hS2.open
  have hpok := Lib.hid (fun he => putR_ok (D := D) (b := b) hP0.frok he)
  have HPP := Lib.hid (pgPut_calls hP0 A c b hcap hbl HBB.out (HR.out.below B2.out (Nat.le_refl _)) (fun hne a ha hf => HA.out hne a ha (hset0.fp _ hf).1) hcl hput)
  have HDP := Lib.hid hDP
  clear hv1 hP0 hset0 hDP hS2
  go_wp2_with fail
  refine HPP.out.mono ?_
  rintro e w3 ⟨rfl, k3⟩
  have K3 := Lib.hid ((HDP.out _ _ _ k3).behind B2.out (fun i hi => hi))
  clear k3 HPP HDP c0
  generalize putR D S.P b = R at *
  obtain ⟨⟨⟨st, pgs⟩, er⟩, D3, P3⟩ := R
  simp only at hv2 hpok K3 ⊢
  obtain ⟨W3, hW3⟩ : ∃ W, w3.alloc (.cells #[.int .i64 st, .int .i64 pgs] 160) = W := ⟨_, rfl⟩
  have hb33 : Below w3.heap.size w3 W3 := by rw [← hW3]; exact bl_alloc (Below.refl _ w3) _
  have K4 := Lib.hid (K3.out.then_below hb33)
  obtain ⟨t, ht⟩ : ∃ t, w3.heap.size = t := ⟨_, rfl⟩
  have ht3 : W3.heap[t]? = some (.cells #[.int .i64 st, .int .i64 pgs] 160 (0, 0)) := by rw [← hW3, ← ht]; exact blk_new w3 _
  by_cases her : er = 0
  case' neg =>
    have hv : Hid (putC D S b = ((0, er), D3, { S with P := P3 })) := by show _ = _; rw [hv2.out, if_pos her]
    have heb : (er != 0) = true := by simpa using her
    clear hv2 hpok K3 hb33 ht3
    go_wp2
    go_ret2
    exact ⟨by rw [hv.out]; rfl, by rw [hv.out]; exact K4.out⟩
  subst her
  obtain ⟨o1, o2, o3, o4⟩ := hpok.out rfl
  have hv : Hid (putC D S b = ((S.now.next, 0), D3, { S with P := P3, now := ({ S.now with next := S.now.next + 1 } : Tbl).add S.now.next ⟨⟨st, pgs⟩, b.length⟩ (hashB b) })) := by show _ = _; rw [hv2.out]; rfl
  obtain ⟨F3, hS3, ch3, s3⟩ := K3.out
  have htF : ¬ F3 t := fun q => by have := hS3.lt t q; omega
  have hS4 := hS3.below hb33
  obtain ⟨pm, sm, FN, c1, c2, c3, f3, sl3, hT, hFN, hTD⟩ := hS4.tab
  have hnx1 : S.now.next + 1 < 1000000000000000000 := by omega
  have hn1 : 1 ≤ S.now.next := by obtain ⟨_, _, _, _, _, _, _, _, _, _, _, _, _, _, _, _, _, _, q, _⟩ := HS.out.open; exact q.1
  obtain ⟨sp, hsp⟩ : ∃ sp : Span, (⟨st, pgs⟩ : Span) = sp := ⟨_, rfl⟩
  have e1 : st = sp.start := by rw [← hsp]
  have e2 : pgs = sp.pages := by rw [← hsp]
  rw [hsp] at hv
  subst e1 e2
  obtain ⟨W4, hW4⟩ : ∃ W, W3.setCell ⟨s, 3, none⟩ (.int .u64 (S.now.next + 1)) = W := ⟨_, rfl⟩
  have g4 : W3.grownBy W4 (some s) := by rw [← hW4]; exact grown_set W3 s 3 _
  have hst : s ≠ t := fun e => htF (e ▸ hS3.fs)
  obtain ⟨W4d, hW4d⟩ : ∃ W, W4.drew = W := ⟨_, rfl⟩
  have hb4d : Below W4.heap.size W4 W4d := by rw [← hW4d]; exact (Below.refl _ W4).drew
  have ht4 : W4.heap[t]? = some (.cells #[.int .i64 sp.start, .int .i64 sp.pages] 160 (0, 0)) := by rw [g4.block t (blk_lt ht3) (fun e => hst (by injection e with e; exact e.symm))]; exact ht3
  have cells4 : PuS s pm sm (S.now.next + 1) t sp W4 := by
    obtain ⟨pm', sm', km', kn', sv', _, _, _, q0, q1, q2, q3, _, hblk, _, _, _, _, _, _⟩ := hS4.open
    rw [c1] at q1
    rw [c2] at q2
    cases q1
    cases q2
    have hb4 : W4.heap[s]? = some (.cells (((Stor.cells { S with P := P3 } p pm sm km' kn' sv')).setIfInBounds 3 (.int .u64 (S.now.next + 1))) 149 (0, 0)) := by rw [← hW4]; exact blk_set' hblk 3 _ rfl
    exact ⟨by rw [blk_cell hb4]; rfl, by rw [blk_cell hb4]; rfl, by rw [blk_cell hb4]; rfl, blk_lt hb4, ht4⟩
  have hS0 : PuS s pm sm (S.now.next + 1) t sp W4d := by
    obtain ⟨q1, q2, q3, q4, q5⟩ := cells4
    exact ⟨(hb4d.cell q4).trans q1, (hb4d.cell q4).trans q2, (hb4d.cell q4).trans q3, Nat.lt_of_lt_of_le q4 hb4d.size, blk_below hb4d q5 (blk_lt q5)⟩
  have hT4 : TblAt W4d pm sm FN { S.now with next := S.now.next + 1 } := by
    have := (hT.chg (Chg.grown (F := fun i => i = s) g4 rfl) (fun i hi e => (hFN i hi).2 e)).below hb4d
    exact this
  have HADD := Lib.hid (add_calls hT4 S.now.next ⟨sp, b.length⟩ (hashB b) ⟨⟨o1, o2⟩, ⟨by dsimp only; omega, by dsimp only; omega⟩, by dsimp only; omega, by dsimp only; omega⟩ hids)
  have HT9 : Hid (∀ w9, TblDid FN W4d w9 pm sm (({ S.now with next := S.now.next + 1 } : Tbl).add S.now.next ⟨sp, b.length⟩ (hashB b)) → StDid F w w9 s p g D3 { S with P := P3, now := ({ S.now with next := S.now.next + 1 } : Tbl).add S.now.next ⟨sp, b.length⟩ (hashB b) }) := fun w9 hd => by
    obtain ⟨F9, t9, c9, s9⟩ := hd
    have hd4 : TblDid FN W4 w9 pm sm (({ S.now with next := S.now.next + 1 } : Tbl).add S.now.next ⟨sp, b.length⟩ (hashB b)) := ⟨F9, t9, (Below.chg hb4d FN).trans c9 (fun i _ q => q), fun i hi => (s9 i hi).imp_right (fun q => by have := hb4d.size; omega)⟩
    have := hTD W4 w9 _ hW4.symm hd4 (show 1 ≤ S.now.next + 1 from by omega) hnx1
    exact (this.behind hb33 (fun i hi => hi)).after ch3 s3
  have hsz : (strB b).size ≤ 9223372036854775807 := by unfold strB; rw [strOfNums_size]; omega
  have HRb4 : Hid (Rd by1 1 W4d A b) := by
    show Rd _ _ _ _ _
    by_cases hbe : b = []
    · exact .inl hbe
    · have r3 := HR.out.chg ch3 (HA.out hbe)
      have r4 := r3.below hb33 (Nat.le_refl _)
      have r5 := r4.chg (Chg.grown (F := fun i => i = s) g4 rfl) (fun a ha e => HA.out hbe a ha (e ▸ HS.out.fs))
      exact r5.below hb4d (Nat.le_refl _)
  have wn : IntKind.u64.wrap (S.now.next + 1) = S.now.next + 1 := by rw [IntKind.wrap_u64]; omega
  have hash : ((fnvSum (strB b) : Nat) : Int) = hashB b := rfl
  clear hv2 hpok hS3 ch3 s3 htF hS4 hT hFN hTD cells4 ht4 hT4 hb4d g4 K3 K4 hb33 ht3 hsp
  go_wp2
  refine wp_region_noPanic ?_
  refine wp_regionZ 12 (PuS s pm sm (S.now.next + 1) t sp) (by kernel_rfl) ?_
  rw [hW4d]
  refine AnyZ.takeU [12, 3, 2, 1] (i := 0) (oi := ⟨some 51, _, _, _, _, _⟩) (v := ?_) rfl (by kernel_rfl) (by kernel_rfl) (by kernel_rfl) (by kernel_rfl) (by kernel_rfl) (by kernel_rfl) (fun _ _ _ h => h) (Or.inl ⟨by rfl, ?_⟩) (by assumption) ?_
  rotate_left
  · (intro w hSw; (try dsimp only at hSw); obtain ⟨k1, k2, k3, kl, kr⟩ := hSw; have kc0 := blk_cell kr 0; have kc1 := blk_cell kr 1; have klr := blk_lt kr; (go_simp <;> with_reducible rfl))
  try simp only [Act.put, List.setIfInBounds_toArray, List.set_cons_zero, List.set_cons_succ]
  refine AnyZ.takeU [12, 3, 2] (i := 1) (oi := ⟨some 52, _, _, _, _, _⟩) (v := ?_) rfl (by kernel_rfl) (by kernel_rfl) (by kernel_rfl) (by kernel_rfl) (by kernel_rfl) (by kernel_rfl) (fun _ _ _ h => h) (Or.inl ⟨by rfl, ?_⟩) (by assumption) ?_
  rotate_left
  · (intro w hSw; (try dsimp only at hSw); obtain ⟨k1, k2, k3, kl, kr⟩ := hSw; have kc0 := blk_cell kr 0; have kc1 := blk_cell kr 1; have klr := blk_lt kr; (go_simp <;> with_reducible rfl))
  try simp only [Act.put, List.setIfInBounds_toArray, List.set_cons_zero, List.set_cons_succ]
  refine AnyZ.takeU [12, 3] (i := 2) (oi := ⟨some 53, _, _, _, _, _⟩) (v := ?_) rfl (by kernel_rfl) (by kernel_rfl) (by kernel_rfl) (by kernel_rfl) (by kernel_rfl) (by kernel_rfl) (fun _ _ _ h => h) (Or.inl ⟨by rfl, ?_⟩) (by assumption) ?_
  rotate_left
  · (intro w hSw; (try dsimp only at hSw); obtain ⟨k1, k2, k3, kl, kr⟩ := hSw; have kc0 := blk_cell kr 0; have kc1 := blk_cell kr 1; have klr := blk_lt kr; (go_simp <;> with_reducible rfl))
  try simp only [Act.put, List.setIfInBounds_toArray, List.set_cons_zero, List.set_cons_succ]
  refine AnyZ.takeU [12] (i := 3) (oi := ⟨some 54, _, _, _, _, _⟩) (v := ?_) rfl (by kernel_rfl) (by kernel_rfl) (by kernel_rfl) (by kernel_rfl) (by kernel_rfl) (by kernel_rfl) (fun _ _ _ h => h) (Or.inl ⟨by rfl, ?_⟩) (by assumption) ?_
  rotate_left
  · (intro w hSw; (try dsimp only at hSw); obtain ⟨k1, k2, k3, kl, kr⟩ := hSw; have kc0 := blk_cell kr 0; have kc1 := blk_cell kr 1; have klr := blk_lt kr; (go_simp <;> with_reducible rfl))
  try simp only [Act.put, List.setIfInBounds_toArray, List.set_cons_zero, List.set_cons_succ]
  refine AnyZ.takeU [12] (i := 4) (oi := ⟨some 55, _, _, _, _, _⟩) (v := ?_) rfl (by kernel_rfl) (by kernel_rfl) (by kernel_rfl) (by kernel_rfl) (by kernel_rfl) (by kernel_rfl) (fun _ _ _ h => h) (Or.inl ⟨by rfl, ?_⟩) (by assumption) ?_
  rotate_left
  · (intro w hSw; (try dsimp only at hSw); obtain ⟨k1, k2, k3, kl, kr⟩ := hSw; have kc0 := blk_cell kr 0; have kc1 := blk_cell kr 1; have klr := blk_lt kr; (go_simp <;> with_reducible rfl))
  try simp only [Act.put, List.setIfInBounds_toArray, List.set_cons_zero, List.set_cons_succ]
  refine AnyZ.takeU [12, 8] (i := 5) (oi := ⟨some 56, _, _, _, _, _⟩) (v := ?_) rfl (by kernel_rfl) (by kernel_rfl) (by kernel_rfl) (by kernel_rfl) (by kernel_rfl) (by kernel_rfl) (fun _ _ _ h => h) (Or.inl ⟨by rfl, ?_⟩) (by assumption) ?_
  rotate_left
  · (intro w hSw; (try dsimp only at hSw); obtain ⟨k1, k2, k3, kl, kr⟩ := hSw; have kc0 := blk_cell kr 0; have kc1 := blk_cell kr 1; have klr := blk_lt kr; (go_simp <;> with_reducible rfl))
  try simp only [Act.put, List.setIfInBounds_toArray, List.set_cons_zero, List.set_cons_succ]
  refine AnyZ.takeU [12, 8, 7] (i := 6) (oi := ⟨some 57, _, _, _, _, _⟩) (v := ?_) rfl (by kernel_rfl) (by kernel_rfl) (by kernel_rfl) (by kernel_rfl) (by kernel_rfl) (by kernel_rfl) (fun _ _ _ h => h) (Or.inl ⟨by rfl, ?_⟩) (by assumption) ?_
  rotate_left
  · (intro w hSw; (try dsimp only at hSw); obtain ⟨k1, k2, k3, kl, kr⟩ := hSw; have kc0 := blk_cell kr 0; have kc1 := blk_cell kr 1; have klr := blk_lt kr; (go_simp <;> with_reducible rfl))
  try simp only [Act.put, List.setIfInBounds_toArray, List.set_cons_zero, List.set_cons_succ]
  refine AnyZ.takeU [12, 8] (i := 7) (oi := ⟨some 58, _, _, _, _, _⟩) (v := ?_) rfl (by kernel_rfl) (by kernel_rfl) (by kernel_rfl) (by kernel_rfl) (by kernel_rfl) (by kernel_rfl) (fun _ _ _ h => h) (Or.inl ⟨by rfl, ?_⟩) (by assumption) ?_
  rotate_left
  · (intro w hSw; (try dsimp only at hSw); obtain ⟨k1, k2, k3, kl, kr⟩ := hSw; have kc0 := blk_cell kr 0; have kc1 := blk_cell kr 1; have klr := blk_lt kr; (go_simp <;> with_reducible rfl))
  try simp only [Act.put, List.setIfInBounds_toArray, List.set_cons_zero, List.set_cons_succ]
  refine AnyZ.takeU [12] (i := 8) (oi := ⟨some 59, _, _, _, _, _⟩) (v := ?_) rfl (by kernel_rfl) (by kernel_rfl) (by kernel_rfl) (by kernel_rfl) (by kernel_rfl) (by kernel_rfl) (fun _ _ _ h => h) (Or.inl ⟨by rfl, ?_⟩) (by assumption) ?_
  rotate_left
  · (intro w hSw; (try dsimp only at hSw); obtain ⟨k1, k2, k3, kl, kr⟩ := hSw; have kc0 := blk_cell kr 0; have kc1 := blk_cell kr 1; have klr := blk_lt kr; (go_simp <;> with_reducible rfl))
  try simp only [Act.put, List.setIfInBounds_toArray, List.set_cons_zero, List.set_cons_succ]
  refine AnyZ.takeU [12, 11, 10] (i := 9) (oi := ⟨some 60, _, _, _, _, _⟩) (v := ?_) rfl (by kernel_rfl) (by kernel_rfl) (by kernel_rfl) (by kernel_rfl) (by kernel_rfl) (by kernel_rfl) (fun _ _ _ h => h) (Or.inl ⟨by rfl, ?_⟩) (by assumption) ?_
  rotate_left
  · (intro w hSw; (try dsimp only at hSw); obtain ⟨k1, k2, k3, kl, kr⟩ := hSw; have kc0 := blk_cell kr 0; have kc1 := blk_cell kr 1; have klr := blk_lt kr; (go_simp <;> with_reducible rfl))
  try simp only [Act.put, List.setIfInBounds_toArray, List.set_cons_zero, List.set_cons_succ]
  refine AnyZ.one (i := 10) (by kernel_rfl) rfl (fun K hK => ?_)
  have cv := run_strB b.length c rfl HRb4.out
  go_simp
  refine hK.out _ _ (.inr (by assumption)) ?_
  clear hK K
  try simp only [Act.put, List.setIfInBounds_toArray, List.set_cons_zero, List.set_cons_succ]
  refine AnyZ.one (i := 11) (by kernel_rfl) rfl (fun K hK => ?_)
  go_simp
  go_at_call 90
  refine (fnvSum_calls _ (strB b) hsz).mono ?_
  rintro e w9 ⟨rfl, rfl⟩
  refine hK.out _ _ (.inr (by assumption)) ?_
  clear hK K
  try simp only [Act.put, List.setIfInBounds_toArray, List.set_cons_zero, List.set_cons_succ]
  refine AnyZ.one (i := 12) (by kernel_rfl) rfl (fun K hK => ?_)
  go_simp
  go_at_call 89
  refine HADD.out.mono ?_
  rintro e w9 ⟨rfl, hd9⟩
  have K9 := Lib.hid (HT9.out _ hd9)
  clear hd9
  refine hK.out _ _ (.inl rfl) ?_
  clear hK K
  try simp only [Act.put, List.setIfInBounds_toArray, List.set_cons_zero, List.set_cons_succ]
  refine AnyZ.done (by kernel_rfl) ?_ _
  refine NoPanic.normal ?_
  go_wp2
  go_ret2
  exact ⟨by rw [hv.out]; rfl, by rw [hv.out]; exact K9.out⟩
end
end Go.Proofs.YtikgplhcadomcaaGreat

namespace Go.Proofs.YtikgplhcadomcaaGreat
open Go.RowKit
set_option linter.unusedVariables false
set_option linter.unusedSimpArgs false
theorem blank_open {n : Int} (h : 8 ≤ n) : openR (Dv.new n) = (none, 50) := by
  obtain ⟨c1, c2, c3, c4⟩ := new_calm n
  have hl : loadR (Dv.new n) = (zeroSup, 50) := by
    rw [load_calm c1 c2 (by rw [c4]; omega), c3]
    exact load_saved (xs := xs1) (m := 0) (fun j hj => by omega) saved_zero
  unfold openR
  rw [hl]
  rfl
/-! ### awake -/
/-! ### Two puts -/
end Go.Proofs.YtikgplhcadomcaaGreat
