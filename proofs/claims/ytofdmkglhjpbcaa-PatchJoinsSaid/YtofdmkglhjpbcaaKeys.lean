/- ref09.Keys -/
import Derived.Test.YtofdmkglhjpbcaaProg
import Derived.Test.YtofdmkglhjpbcaaPure
import Derived.Test.YtofdmkglhjpbcaaAppend
namespace Go.Proofs.Ytofdmkglhjpbcaa
open Go.RowKit
set_option linter.unusedVariables false
set_option linter.unusedSimpArgs false

/-- A slice of slices of entries, as it is read. -/
def RdL (w : World) (A : Option Addr) (ls : List (List Entry)) : Prop :=
  ls = [] ∨ ∃ b off, A = some ⟨b, off, none⟩ ∧ b < w.heap.size ∧ ∀ (i : Nat) (l : List Entry), ls[i]? = some l → ∃ A' c', w.cell? ⟨b, off + i, none⟩ = some (.slice A' l.length c') ∧ l.length ≤ c' ∧ c' ≤ 9223372036854775807 ∧ Rd Entry.enc 2 w A' l
theorem RdL.below {w w' : World} {A : Option Addr} {ls : List (List Entry)} {B : Nat} (h : RdL w A ls) (hb : Below B w w') (hB : w.heap.size ≤ B) : RdL w' A ls := by
  rcases h with h | ⟨b, off, rfl, hlt, hc⟩
  · exact .inl h
  · refine .inr ⟨b, off, rfl, Nat.lt_of_lt_of_le hlt hb.size, fun i l hl => ?_⟩
    obtain ⟨A', c', h1, h2, h3, h4⟩ := hc i l hl
    exact ⟨A', c', by rw [hb.cell (by show b < B; omega)]; exact h1, h2, h3, h4.below hb hB⟩

theorem infoStr : (Try.prog.info? 9).map (fun i => (i.zero, i.size, i.bytes)) = some (some (.string ⟨#[]⟩), 1, 16) := by kernel_rfl

theorem cnt_cons (l : List Entry) (ls : List (List Entry)) : cnt (l :: ls) = l.length + cnt ls := by simp [cnt]

set_option maxRecDepth 100000 in
set_option maxHeartbeats 2000000 in
theorem Keys_calls (w : World) (A : Option Addr) (c : Nat) (ls : List (List Entry)) (hlen : ls.length ≤ c) (hc : c ≤ 9223372036854775807) (htot : cnt ls ≤ 1000000) (h : RdL w A ls) :
    Calls Try.prog 52 #[.slice A ls.length c] w fun e w' => ∃ v, e = .returned v ∧ Own strEnc 1 9 w.heap.size w' v (keysOf ls) ∧ Below w.heap.size w w' := by
  have htot' := Lib.hid htot
  clear htot
  go_enter Try.func52, Try.ntmps52
  go_wp2
  go_loopg [3, 11] ls.length (fun n v i wr => ∃ (k : Nat) (cur : List Str) (B : Option Addr) (d : Nat), v = .slice B cur.length d ∧ i = .int .i64 k ∧ k + n = ls.length ∧ Hid (keysOf ls = (ls.drop k).foldl keysIn cur) ∧ Hid (cur.length + cnt (ls.drop k) ≤ 1000000) ∧
    Hid (Own strEnc 1 9 w.heap.size wr (.slice B cur.length d) cur) ∧ Below w.heap.size w wr)
  case atStart => exact ⟨0, [], none, 0, rfl, rfl, by omega, rfl, by show _ ≤ _; simpa using htot'.out, Own.nil, Below.refl _ _⟩
  case round =>
    obtain ⟨k, cur, B, d, rfl, rfl, hk, hv, hn, ho, hb⟩ := hrel
    by_cases hlt : k < ls.length
    · obtain ⟨n', hn'⟩ : ∃ n', gk = n' + 1 := ⟨gk - 1, by omega⟩
      subst hn'
      rcases h.below hb (Nat.le_refl _) with h0 | ⟨b, off, rfl, hbl, hcell⟩
      · simp [h0] at hlt
      obtain ⟨A', c', c0, hc1, hc2, hrd⟩ := hcell k ls[k] (by simp [hlt])
      have hd : ls.drop k = ls[k] :: ls.drop (k + 1) := by simp
      generalize ls[k] = l at *
      have hv1 : Hid (keysOf ls = (ls.drop (k + 1)).foldl keysIn (keysIn cur l)) := by show _ = _; rw [hv.out, hd]; rfl
      have hn1 : Hid (cur.length + l.length + cnt (ls.drop (k + 1)) ≤ 1000000) := by show _ ≤ _; have := hn.out; rw [hd, cnt_cons] at this; omega
      have hrd' := Lib.hid hrd
      clear hcell hd hv hn hrd h
      have hl2 : l.length ≤ 1000000 := by have := hn1.out; omega
      obtain ⟨wo, rfl⟩ : ∃ wo : World, wo = wr := ⟨_, rfl⟩
      go_wp2
      go_loopg [3, 17] l.length (fun n v i wr => ∃ (k2 : Nat) (cur2 : List Str) (B2 : Option Addr) (d2 : Nat), v = .slice B2 cur2.length d2 ∧ i = .int .i64 k2 ∧ k2 + n = l.length ∧ Hid (keysIn cur l = keysIn cur2 (l.drop k2)) ∧ Hid (cur2.length + (l.length - k2) + cnt (ls.drop (k + 1)) ≤ 1000000) ∧
        Hid (Own strEnc 1 9 w.heap.size wr (.slice B2 cur2.length d2) cur2) ∧ Hid (Rd Entry.enc 2 wr A' l) ∧ Below w.heap.size w wr)
      case atStart => exact ⟨0, cur, B, d, rfl, rfl, by omega, rfl, by show _ ≤ _; have := hn1.out; omega, ho, hrd', hb⟩
      case round =>
        obtain ⟨k2, cur2, B2, d2, rfl, rfl, hk2, hv2, hn2, ho2, hrd2, hb2⟩ := hrel
        clear ho hb hrd' c0
        by_cases hlt2 : k2 < l.length
        · obtain ⟨m', hm'⟩ : ∃ m', gk = m' + 1 := ⟨gk - 1, by omega⟩
          subst hm'
          rcases hrd2.out with h0 | ⟨b', off', rfl, hbl', hcell⟩
          · simp [h0] at hlt2
          have c1 : wr.cell? ⟨b', off' + k2 * 2, none⟩ = some (.string l[k2].key) := hcell k2 l[k2] (by simp [hlt2]) 0 _ rfl
          have c2 : wr.cell? ⟨b', off' + k2 * 2 + 1, none⟩ = some (.string l[k2].val) := hcell k2 l[k2] (by simp [hlt2]) 1 _ rfl
          have hd : l.drop k2 = l[k2] :: l.drop (k2 + 1) := by simp
          have hv3 : Hid (keysIn cur l = keysIn (insKey cur2 l[k2].key) (l.drop (k2 + 1))) := by show _ = _; rw [hv2.out, hd]; rfl
          generalize l[k2].key = key at *
          generalize l[k2].val = val at *
          clear hcell hd hv2
          have hcl : cur2.length ≤ 1000000 := by have := hn2.out; omega
          obtain ⟨wi, rfl⟩ : ∃ wi : World, wi = wr := ⟨_, rfl⟩
          go_wp2
          go_loopg [8] cur2.length (fun n i wr => ∃ j : Nat, i = .int .i64 j ∧ j + n = cur2.length ∧ Hid (∀ (j' : Nat) (h : j' < cur2.length), j' < j → slt cur2[j'] key = true) ∧ Hid (wr.heap[wi.heap.size]? = some (.cells #[.string key, .string val] 72 (0, 0))) ∧
            Hid (Below wi.heap.size wi wr))
          case atStart => exact ⟨0, rfl, by omega, fun j' _ h => by omega, blk_new _ _, bl_alloc (Below.refl _ _) _⟩
          case round =>
            obtain ⟨j, rfl, hj, hpre, hx, hbi⟩ := hrel
            have x0 := blk_cell hx.out 0
            simp at x0
            obtain ⟨_, hle2, _, hro, hbase⟩ := (ho2.out.below hbi.out).rd' strOk
            have hnx : (∃ h : j < cur2.length, slt cur2[j] key = true) ∨ (∃ h : j < cur2.length, slt cur2[j] key = false ∧ cur2[j] = key) ∨ ((∀ h : j < cur2.length, slt cur2[j] key = false ∧ ¬ cur2[j] = key)) := by
              by_cases h1 : j < cur2.length
              · cases h2 : slt cur2[j] key with
                | true => exact .inl ⟨h1, h2⟩
                | false =>
                  by_cases h3 : cur2[j] = key
                  · exact .inr (.inl ⟨h1, h2, h3⟩)
                  · exact .inr (.inr fun _ => ⟨h2, h3⟩)
              · exact .inr (.inr fun h => absurd h h1)
            rcases hnx with ⟨hlt3, hs⟩ | ⟨hlt3, hs, he⟩ | hnew
            · rcases hro with h0 | ⟨g, og, rfl, hgl, hcell⟩
              · simp [h0] at hlt3
              have c3 : wr.cell? ⟨g, og + j, none⟩ = some (.string cur2[j]) := by have := hcell j cur2[j] (by simp [hlt3]) 0 _ rfl; simpa using this
              have i0 : (0 : Int) ≤ (j : Int) := by omega
              have i1 : (j : Int) < (cur2.length : Int) := by omega
              clear hcell hbase
              have hs' : Op.bytesLess cur2[j].toList key.toList = true := hs
              have hpre' : Hid (∀ (j' : Nat) (h : j' < cur2.length), j' < j + 1 → slt cur2[j'] key = true) := fun j' h hj' => by
                by_cases e : j' = j
                · subst e; exact hs
                · exact hpre.out j' h (by omega)
              clear hs
              go_wp2_with fail
              go_quiet (fail)
              go_wp2
              go_roundg (gk - 1)
              case measure => omega
              case rel => exact ⟨j + 1, by go_num, by omega, hpre', hx, bl_drewN hbi.out _⟩
            · rcases hro with h0 | ⟨g, og, rfl, hgl, hcell⟩
              · simp [h0] at hlt3
              have c3 : wr.cell? ⟨g, og + j, none⟩ = some (.string cur2[j]) := by have := hcell j cur2[j] (by simp [hlt3]) 0 _ rfl; simpa using this
              have i0 : (0 : Int) ≤ (j : Int) := by omega
              have i1 : (j : Int) < (cur2.length : Int) := by omega
              clear hcell hbase
              have hs' : Op.bytesLess cur2[j].toList key.toList = false := hs
              have he' : (cur2[j].toList == key.toList) = true := str_eq he
              have hv4 : Hid (keysIn cur l = keysIn cur2 (l.drop (k2 + 1))) := by show _ = _; rw [hv3.out, ins_there cur2 key j hlt3 hpre.out hs he]
              clear hs he
              go_wp2_with fail
              go_quiet (fail)
              go_wp2_with fail
              go_quiet (fail)
              go_wp2
              go_roundg m'
              case measure => omega
              case rel => exact ⟨k2 + 1, cur2, _, d2, rfl, by go_num, by omega, hv4, by show _ ≤ _; have := hn2.out; omega, ho2.out.below (bl_drewN hbi.out _), hrd2.out.below (bl_drewN hbi.out _) (Nat.le_refl _), bl_then hb2 hb2.size (bl_drewN hbi.out _)⟩
            · have hv4 : Hid (keysIn cur l = keysIn (cur2.take j ++ key :: cur2.drop j) (l.drop (k2 + 1))) := by
                show _ = _; rw [hv3.out, ins_new cur2 key j (by omega) hpre.out hnew]
              clear hv3 hpre
              rcases (Decidable.em (j < cur2.length)) with hlt3 | hlt3
              case' inl =>
                obtain ⟨hs, he⟩ := hnew hlt3
                rcases hro with h0 | ⟨g, og, rfl, hgl, hcell⟩
                · simp [h0] at hlt3
                have c3 : wr.cell? ⟨g, og + j, none⟩ = some (.string cur2[j]) := by have := hcell j cur2[j] (by simp [hlt3]) 0 _ rfl; simpa using this
                have i0 : (0 : Int) ≤ (j : Int) := by omega
                have i1 : (j : Int) < (cur2.length : Int) := by omega
                have hs' : Op.bytesLess cur2[j].toList key.toList = false := hs
                have he' : (cur2[j].toList == key.toList) = false := str_ne he
                clear hs he hnew hcell
                go_wp2_with fail
                go_quiet (fail)
                go_wp2_with fail
                go_quiet (fail)
                go_wp2_with fail
              case' inr =>
                have hlt4 : decide ((j : Int) < (cur2.length : Int)) = false := by simpa using hlt3
                clear hnew
                go_wp2_with fail
                go_quiet (fail)
                go_wp2_with fail
                go_quiet (fail)
                go_wp2_with fail
              all_goals
                generalize hw : World.drewN (World.drewN wr _) _ = w3
                have b3 : Below wi.heap.size wi w3 := hw ▸ bl_drewN (bl_drewN hbi.out _) _
                have hx3 : Hid (w3.heap[wi.heap.size]? = some (.cells #[.string key, .string val] 72 (0, 0))) := by show _ = _; rw [← hw]; exact hx.out
                clear hw hbi hx x0
                have x0 := blk_cell hx3.out 0
                simp at x0
                have z3 := blk_lt hx3.out
                have j0 : (0 : Int) ≤ (j : Int) := by omega
                have j1 : (j : Int) ≤ (cur2.length : Int) := by omega
                have j2 : (j : Int) ≤ (d2 : Int) := by omega
                have HO3 := Lib.hid (ho2.out.below b3)
                have HR3 := Lib.hid (HO3.out.rd' strOk).2.2.2.1
                have HB3 := Lib.hid (HO3.out.rd' strOk).2.2.2.2
                have hdd : Hid ((cur2.drop j).length = cur2.length - j) := by show _ = _; simp
                have hdt : Hid ((cur2.take j).length = j) := by show _ = _; simp; omega
                have bl1 : Hid (Below w3.heap.size w3 (w3.alloc (.cells #[.string key] 9)).drew) := by show Below _ _ _; exact (bl_alloc (Below.refl _ _) _).drew
                have r55 : Hid (Rd strEnc 1 (w3.alloc (.cells #[.string key] 9)).drew (some ⟨w3.heap.size, 0, none⟩) [key]) := Rd.lit (cs := #[.string key]) (blk_new _ _) rfl
                have hsz1 : Hid ((w3.alloc (.cells #[.string key] 9)).drew.heap.size = w3.heap.size + 1) := by show _ = _; simp
                have g1 : Hid ((1 + (cur2.length - j)) * 16 ≤ 140737488355328) := by show _ ≤ _; omega
                have g2 : Hid (1 + (cur2.length - j) ≤ 140737488355328) := by show _ ≤ _; omega
                have g3 : Hid (j < j + (1 + (cur2.length - j))) := by show _ < _; omega
                have g4 : Hid ((j + (1 + (cur2.length - j))) * 16 ≤ 140737488355328) := by show _ ≤ _; omega
                have g5 : Hid (j + (1 + (cur2.length - j)) ≤ 140737488355328) := by show _ ≤ _; omega
                have hnl : Hid ((key :: cur2.drop j).length = 1 + (cur2.length - j)) := by show _ = _; simp; omega
                have hL : Hid ((cur2.take j ++ key :: cur2.drop j).length = j + (1 + (cur2.length - j))) := by show _ = _; simp; omega
              · obtain rfl : j = cur2.length := by omega
                have q2 : Hid (Rd strEnc 1 (w3.alloc (.cells #[.string key] 9)).drew B2 (cur2.take cur2.length)) := by
                  show Rd _ _ _ _ _
                  exact (HR3.out.below bl1.out (Nat.le_refl _)).take _
                have g6 : Hid (cur2.length < cur2.length + 1) := by show _ < _; omega
                have g7 : Hid ((cur2.length + 1) * 16 ≤ 140737488355328) := by show _ ≤ _; omega
                have g8 : Hid (cur2.length + 1 ≤ 140737488355328) := by show _ ≤ _; omega
                have hdl : Hid (cur2.take cur2.length ++ key :: cur2.drop cur2.length = cur2.take cur2.length ++ [key]) := by show _ = _; simp
                rcases (Decidable.em (d2 = cur2.length)) with hdj | hdj
                case' inl => subst hdj
                all_goals
                  go_region_held3 (fun w' => w'.cell? ⟨wi.heap.size, 0, none⟩ = some (.string key))
                    (first | go_keep | ((rw [hb4.cell (by simp; omega)]; assumption)))
                    (first
                      | (refine at_step rfl (op_nothing (sz := 1) (.tmp 55) (.tmp 58) _ _ _ _ rfl Try.underlying88 infoStr (some ⟨w3.heap.size, 0, none⟩) _ 1 1 _ (Nat.le_refl _) rfl rfl ?_))
                      | (refine at_step rfl (op_grow strOk (.tmp 52) (.tmp 59) _ _ _ _ rfl Try.underlying88 infoStr rfl _ _ cur2.length 1 (cur2.take cur2.length) [key] cur2.length 1 hdt.out rfl rfl rfl q2.out r55.out g6.out g7.out g8.out (w3.heap.size + 1) hsz1.out ?_); intro cap4 w4 ho4 hb4 hlt4))
                  go_wp2
                  go_roundg m'
                  case measure => omega
                  case rel =>
                    refine ⟨k2 + 1, cur2.take cur2.length ++ key :: cur2.drop cur2.length, some ⟨w3.heap.size + 1, 0, none⟩, cap4, by rw [hL.out]; simp, by go_num, by omega, hv4, by show _ ≤ _; have := hn2.out; rw [hL.out]; omega, ?_, ?_, ?_⟩
                    · show Own _ _ _ _ _ _ _
                      rw [hdl.out, show (List.take cur2.length cur2 ++ [key]).length = cur2.length + 1 from by simp]
                      exact ho4.mono (by have := hb2.size; have := b3.size; simp; omega)
                    · exact ((hrd2.out.below b3 (Nat.le_refl _)).below bl1.out (Nat.le_refl _)).below hb4 (by simp)
                    · exact bl_then (bl_then (bl_then hb2 hb2.size b3) (by have := hb2.size; have := b3.size; omega) bl1.out) (by have := hb2.size; have := b3.size; simp; omega) hb4
              · have hdj : ¬ d2 = j := by omega
                have r58 : Hid (Rd strEnc 1 (w3.alloc (.cells #[.string key] 9)).drew (some ⟨g, og + j, none⟩) (cur2.drop j)) := by
                  have := (HR3.out.below bl1.out (Nat.le_refl _)).drop j
                  simpa [Hid] using this
                have g0 : Hid (1 < 1 + (cur2.length - j)) := by show _ < _; omega
                go_region_held3 (fun w' => w'.cell? ⟨wi.heap.size, 0, none⟩ = some (.string key))
                  (first | go_keep | ((rw [hb4.cell (by simp; omega)]; assumption)) | ((rw [hb5.cell (by show wi.heap.size < w4.heap.size; omega)]; assumption)))
                  (first
                    | (refine at_step rfl (op_grow strOk (.tmp 55) (.tmp 58) _ _ _ _ rfl Try.underlying88 infoStr rfl _ _ 1 (d2 - j) [key] (cur2.drop j) 1 (cur2.length - j) rfl hdd.out rfl rfl r55.out r58.out g0.out g1.out g2.out (w3.heap.size + 1) hsz1.out ?_); intro cap4 w4 ho4 hb4 hlt4)
                    | (have q1 := (ho4.rd' strOk).2.2.2.1; have q2 := ((HR3.out.below bl1.out (Nat.le_refl _)).below hb4 (Nat.le_refl _)).take j; refine at_step rfl (op_grow strOk (.tmp 52) (.tmp 59) _ _ _ _ rfl Try.underlying88 infoStr rfl _ _ j cap4 (cur2.take j) (key :: cur2.drop j) j (1 + (cur2.length - j)) hdt.out hnl.out rfl rfl q2 q1 g3.out g4.out g5.out w4.heap.size rfl ?_); intro cap5 w5 ho5 hb5 hlt5))
                have hb45 : Below (w3.alloc (.cells #[.string key] 9)).drew.heap.size (w3.alloc (.cells #[.string key] 9)).drew w5 := bl_then hb4 hb4.size hb5
                go_wp2
                go_roundg m'
                case measure => omega
                case rel =>
                  refine ⟨k2 + 1, cur2.take j ++ key :: cur2.drop j, some ⟨w4.heap.size, 0, none⟩, cap5, by rw [hL.out], by go_num, by omega, hv4, by show _ ≤ _; have := hn2.out; rw [hL.out]; omega, ?_, ?_, ?_⟩
                  · show Own _ _ _ _ _ _ _
                    rw [hL.out]
                    exact ho5.mono (by have := hb2.size; have := b3.size; omega)
                  · exact ((hrd2.out.below b3 (Nat.le_refl _)).below bl1.out (Nat.le_refl _)).below (bl_then (Below.refl _ _) (Nat.le_refl _) hb45) (by simp)
                  · exact bl_then (bl_then (bl_then hb2 hb2.size b3) (by have := hb2.size; have := b3.size; omega) bl1.out) (by have := hb2.size; have := b3.size; simp; omega) hb45
        · have hfin : Hid (keysIn cur l = cur2) := by show _ = _; rw [hv2.out, List.drop_of_length_le (by omega)]; rfl
          have hg0 : gk = 0 := by omega
          go_wp2
          go_roundg n'
          case measure => omega
          case rel => 
            refine ⟨k + 1, cur2, B2, d2, rfl, by go_num, by omega, by rw [← hfin.out]; exact hv1, by show _ ≤ _; have := hn2.out; omega, ho2, hb2⟩
    · have hfin : Hid (keysOf ls = cur) := by show _ = _; rw [hv.out, List.drop_of_length_le (by omega)]; rfl
      go_wp2
      go_ret
      exact ⟨_, rfl, hfin.out ▸ ho.out, hb⟩
end Go.Proofs.Ytofdmkglhjpbcaa
