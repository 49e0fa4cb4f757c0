/- pager.page. A page's sectors as slices of the array. pager.Write. pager.readPage, pager.Read. The pager's small functions: pages, ok, Root, Epoch, Free, Claim, meet. pager.lay: a text into free pages. pager.Put. pager.Get. pager.Commit. -/
import Derived.Test.YtikgplhcadomcaaGreatKH
import Derived.Deep.Cut
import Derived.Test.YtikgplhcadomcaaGreatKI
import Derived.Test.YtikgplhcadomcaaGreatKB
namespace Go.Proofs.YtikgplhcadomcaaGreat
open Go.RowKit
set_option linter.unusedVariables false
set_option linter.unusedSimpArgs false

def u8c (xs : List Int) : Array Value := (xs.map (Value.int .u8)).toArray
def pg0 : List Int := List.replicate 128 0
theorem zero_pg : Tryz.zeroCells268 = u8c pg0 := by kernel_rfl
theorem u8c_size (xs : List Int) : (u8c xs).size = xs.length := by simp [u8c]
theorem u8c_get (xs : List Int) (i : Nat) : (u8c xs)[i]? = (xs[i]?).map (Value.int .u8) := by simp [u8c]
theorem u8c_set (xs : List Int) (i : Nat) (x : Int) : (u8c xs).setIfInBounds i (.int .u8 x) = u8c (xs.set i x) := by simp [u8c, List.map_set]
def cpP (ty : TypeId) (args : Array Value) : Sem Value := Builtin.copy_ #[51, 51] ty args
theorem fold_cpP (ty : TypeId) (args : Array Value) : Builtin.copy_ #[51, 51] ty args = cpP ty args := rfl
def stPg (p v : Value) : Sem Unit := Instr.storeAt 268 p v
theorem fold_stPg (p v : Value) : Instr.storeAt 268 p v = stPg p v := rfl
def ldPg (v : Value) : Sem Value := Instr.loadAt 268 v
theorem fold_ldPg (v : Value) : Instr.loadAt 268 v = ldPg v := rfl
theorem run_cpP {W : World} {g : Nat} {xs bs : List Int} {t : TypeId} {A : Option Addr} {c : Nat} (hg : W.heap[g]? = some (.cells (u8c xs) t (0, 0))) (hx : xs.length = 128) (hl : bs.length ≤ 124) (h : Rd by1 1 W A bs) (ty : TypeId) :
    ∃ W', (cpP ty #[.slice (some ⟨g, 4, none⟩) 124 124, .slice A bs.length c]).run Tryz.prog W = .ok (.int .i64 bs.length) W' ∧ W'.heap[g]? = some (.cells (u8c (xs.take 4 ++ bs ++ xs.drop (4 + bs.length))) t (0, 0)) ∧ W.grownBy W' (some g) := by
  rcases h with h | ⟨b, off, rfl, hlt, hc⟩
  · subst h
    refine ⟨W, ?_, by simpa using hg, grown_refl _ _⟩
    unfold cpP
    obtain ⟨i0, hi, hz0, hz1, hz2⟩ := info_parts (show (Tryz.prog.info? 5).map (fun i => (i.zero, i.size, i.bytes)) = some (some (.int .u8 0), 1, 1) from by kernel_rfl)
    cases A with
    | none => simp [Builtin.copy_, run_underlying Tryz.underlying51, Builtin.lenOf, Builtin.firstCells, sizeOf, typeInfo, hi, storeCells, goInt]
    | some a => simp [Builtin.copy_, run_underlying Tryz.underlying51, Builtin.lenOf, Builtin.firstCells, sizeOf, typeInfo, hi, storeCells, goInt, loadCells, loadCellsFrom]
  · have hl2 : (bs.map (Value.int .u8)).length = bs.length := by simp
    have h := run_copy_cells (P := Tryz.prog) W 51 51 ty 5 g 4 124 124 ⟨b, off, none⟩ bs.length c (bs.map (Value.int .u8)) Tryz.underlying51 (by kernel_rfl) (by rw [hl2]; exact (Nat.min_eq_left hl).symm)
      (fun j v hv => by
        rw [Addr.add_mid]
        rw [List.getElem?_map] at hv
        obtain ⟨x, hx1, rfl⟩ := Option.map_eq_some_iff.1 hv
        have := hc j x hx1 0 _ rfl
        simpa using this)
      (fun j hj => ((there_blk hg (o := 4) (n := 124) (by rw [u8c_size]; omega)) j (by omega)).1)
      (fun j hj => ((there_blk hg (o := 4) (n := 124) (by rw [u8c_size]; omega)) j (by omega)).2)
      (fun v hv => by obtain ⟨x, _, rfl⟩ := List.mem_map.1 hv; rfl)
    refine ⟨W.setCells g 4 (bs.map (Value.int .u8)), ?_, ?_, setCells_grown g _ 4 W⟩
    · unfold cpP
      rw [h, hl2]
      rfl
    · have e : (u8c xs).toList.take 4 ++ bs.map (Value.int .u8) ++ (u8c xs).toList.drop (4 + bs.length) = (xs.take 4 ++ bs ++ xs.drop (4 + bs.length)).map (Value.int .u8) := by
        simp [u8c, List.map_take, List.map_drop]
      rw [setCells_blk _ 4 W _ hg (by rw [hl2, u8c_size]; omega), hl2, e]
      rfl
/-- The whole page as a value, read and stored. -/
theorem u8c_one (xs : List Int) : ∀ v ∈ (u8c xs).toList, v.oneCell' = true := fun v hv => by
  simp only [u8c] at hv
  obtain ⟨x, _, rfl⟩ := List.mem_map.1 hv
  rfl
theorem u8c_str {W : World} {g o n c : Nat} {xs : List Int} {t : TypeId} {fr : Nat × Nat} (hg : W.heap[g]? = some (.cells (u8c xs) t fr)) (hn : o + n ≤ xs.length) :
    (convert 51 9 (.slice (some ⟨g, o, none⟩) n c)).run Tryz.prog W = .ok (.string (strOfNums ((xs.drop o).take n))) W := by
  refine run_convert_bytes_arg W 51 5 Tryz.underlying51 Tryz.underlying5 g o n c ((xs.drop o).take n) (by simp; omega) (fun i hi => ?_) 9 Tryz.underlying9
  have hlt : o + i < xs.length := by omega
  rw [blk_cell hg, u8c_get, List.getD_eq_getElem?_getD, List.getElem?_take_of_lt hi, List.getElem?_drop, List.getElem?_eq_getElem hlt]
  rfl
theorem strOfNums_size (xs : List Int) : (strOfNums xs).size = xs.length := by show (strOfNums xs).data.size = _; simp [strOfNums]
theorem padL_len (b : List Int) : (padL b).length = 124 := by unfold padL; simp; omega
theorem sumL_len (xs : List Int) : (sumL xs).length = 4 := by simp [sumL]
theorem sumL_get (xs : List Int) (k : Nat) (hk : k < 4) : (sumL xs)[k]? = some (((fnvFold (fnvSum (strOfNums xs)) / 256 ^ (3 - k) % 256 : Nat) : Int)) := by
  unfold sumL
  rw [List.getElem?_map, List.getElem?_range hk]
  rfl
theorem set_step {S Z P : List Int} {k : Nat} {x : Int} (hS : S[k]? = some x) (hz : k < Z.length) : (S.take k ++ Z.drop k ++ P).set k x = S.take (k + 1) ++ Z.drop (k + 1) ++ P := by
  have hk : k < S.length := (List.getElem?_eq_some_iff.1 hS).1
  have hl : (S.take k).length = k := by simp; omega
  rw [List.take_add_one, hS, List.drop_eq_getElem_cons hz, List.append_assoc, List.set_append_right _ _ (by omega), hl, Nat.sub_self, List.cons_append, List.set_cons_zero]
  simp only [Option.toList_some, List.append_assoc, List.singleton_append, List.cons_append, List.nil_append]
theorem infoPg : (Tryz.prog.info? 268).map (·.size) = some 128 := by kernel_rfl
theorem run_ldPg {W : World} {g : Nat} {xs : List Int} {t : TypeId} {fr : Nat × Nat} (hg : W.heap[g]? = some (.cells (u8c xs) t fr)) (hx : xs.length = 128) : (ldPg (.pointer (some ⟨g, 0, none⟩))).run Tryz.prog W = .ok (.agg (u8c xs)) W :=
  run_loadAt_mid W g 0 _ _ _ (range_blk (l := xs.map (Value.int .u8)) hg (fun j v hv => by rw [Nat.zero_add]; unfold u8c; rw [List.getElem?_toArray]; exact hv)) Tryz.underlying268 rfl (by rw [List.length_map, hx]; exact infoPg)
theorem run_stPg (W : World) (R : Nat) (c : Array Value) (hc : c.size = 128) (xs : List Int) (hx : xs.length = 128) (h : W.heap[R]? = some (.cells c 268 (0, 0))) : ∃ W', (stPg (.pointer (some ⟨R, 0, none⟩)) (.agg (u8c xs))).run Tryz.prog W = .ok () W' ∧ W'.heap[R]? = some (.cells (u8c xs) 268 (0, 0)) ∧ W.grownBy W' (some R) := by
  refine ⟨W.setRow R (u8c xs), ?_, setRow_heap W R c _ _ _ h, rfl, rfl, rfl, by simp, fun k _ hk => setRow_other W R k _ (fun e => hk (by rw [e]))⟩
  unfold stPg
  simp only [Instr.storeAt, Instr.sureAddr, Sem.run_bind, Sem.run_pure, Result.andThen_ok]
  exact run_storeVar_row W R _ _ c _ h (by rw [u8c_size, hx]; exact infoPg) (by rw [u8c_size, hx]; exact hc) (all_oneCell_toArray (fun v hv => u8c_one xs v (by simpa [u8c] using hv)))
attribute [local go_sem ↓ high] fold_cpP fold_stPg fold_ldPg
set_option maxRecDepth 100000 in
set_option maxHeartbeats 1000000 in
theorem page_calls (w : World) (A : Option Addr) (c : Nat) (bs : List Int) (hl : bs.length ≤ 124) (hb : byteL bs) (h : Rd by1 1 w A bs) :
    Calls Tryz.prog 195 #[.slice A bs.length c] w fun e w' => e = .returned (.agg (u8c (pageL bs))) ∧ Below w.heap.size w w' := by
  obtain ⟨W1, hW1⟩ : ∃ W, (w.alloc (.cells Tryz.zeroCells268 268)).alloc (.cells Tryz.zeroCells268 268) = W := ⟨_, rfl⟩
  have h1 : W1.heap[w.heap.size + 1]? = some (.cells (u8c pg0) 268 (0, 0)) := by rw [← hW1, ← zero_pg]; have := blk_new (w.alloc (.cells Tryz.zeroCells268 268)) (.cells Tryz.zeroCells268 268); rwa [World.size_alloc] at this
  have h0 : W1.heap[w.heap.size]? = some (.cells (u8c pg0) 268 (0, 0)) := by rw [← hW1, ← zero_pg]; exact blk_alloc (blk_new w _) _
  have hb1 : Below w.heap.size w W1 := by rw [← hW1]; exact bl_alloc (bl_alloc (Below.refl _ w) _) _
  obtain ⟨W2, hcp, h2, hg2⟩ := run_cpP (c := c) h1 (by simp [pg0]) hl (h.below hb1 (Nat.le_refl _)) 3
  have hpad : pg0.take 4 ++ bs ++ pg0.drop (4 + bs.length) = List.replicate 4 0 ++ padL bs := by
    unfold padL pg0
    rw [List.take_of_length_le hl, List.take_replicate, List.drop_replicate, List.append_assoc]
    congr 3
    omega
  rw [hpad] at h2
  have H2 := Lib.hid h2
  have z2 : Hid (W2.heap[w.heap.size]? = some (.cells (u8c pg0) 268 (0, 0))) := by show _ = _; rw [hg2.block _ (blk_lt h0) (fun e => by injection e; omega)]; exact h0
  have b2 : Hid (Below w.heap.size w W2) := hb1.grown hg2 hb1.size (fun k e => by injection e; omega)
  have hcv : Hid (∀ c', (convert 51 9 (.slice (some ⟨w.heap.size + 1, 4, none⟩) 124 c')).run Tryz.prog W2 = .ok (.string (strOfNums (padL bs))) W2) := fun c' => by
    have := u8c_str (o := 4) (n := 124) (c := c') h2 (by simp [padL_len])
    rw [this, List.drop_left' (by simp), List.take_of_length_le (by rw [padL_len]; omega)]
  have cv := hcv.out
  clear h h1 h0 hb1 hg2 hpad h2 hcv
  go_enter Tryz.func195, Tryz.ntmps195
  go_upto_region 2 with fail
  clear hW1
  go_wp2_with fail
  refine (fnvSum_calls _ (strOfNums (padL bs)) (by rw [strOfNums_size, padL_len]; omega)).mono ?_
  rintro e w3 ⟨rfl, rfl⟩
  go_wp2_with fail
  refine (fnvFold_calls _ _ (fnvSum_lt _)).mono ?_
  rintro e w3 ⟨rfl, rfl⟩
  have hF := fnvFold_lt (fnvSum_lt (strOfNums (padL bs)))
  obtain ⟨hh, hhh⟩ : ∃ x, x = fnvFold (fnvSum (strOfNums (padL bs))) := ⟨_, rfl⟩
  rw [← hhh] at hF ⊢
  have HH := Lib.hid hhh
  clear hhh cv hcp
  go_wp2
  go_loopg [13] 4 (fun n i wr => ∃ k : Nat, i = .int .i64 k ∧ k + n = 4 ∧ Hid (wr.heap[w.heap.size + 1]? = some (.cells (u8c ((sumL (padL bs)).take k ++ (List.replicate 4 0).drop k ++ padL bs)) 268 (0, 0))) ∧ Hid (wr.heap[w.heap.size]? = some (.cells (u8c pg0) 268 (0, 0))) ∧ Hid (Below w.heap.size w wr))
  case atStart => exact ⟨0, rfl, by omega, by show _ = _; simpa using H2.out, z2.out, b2.out⟩
  case round =>
    obtain ⟨k, rfl, hk, h1, h0, hb⟩ := hrel
    have cz := blk_cell h1.out k
    have fz := blk_free h1.out k
    have lz := blk_lt h1.out
    by_cases hk4 : k < 4
    · obtain ⟨n', hn'⟩ : ∃ n', gk = n' + 1 := ⟨gk - 1, by omega⟩
      subst hn'
      have hst := Lib.hid (fun v => blk_set' h1.out k v rfl)
      obtain ⟨u, hu⟩ : ∃ u, (u8c ((sumL (padL bs)).take k ++ (List.replicate 4 0).drop k ++ padL bs))[k]? = some u := by
        rw [u8c_get, List.getElem?_eq_getElem (by simp [padL_len]; omega)]
        exact ⟨_, rfl⟩
      rw [hu] at cz
      have hkn : (k : Int) < 4 := by omega
      have hw1 : (0 : Int) ≤ 8 * (3 - (k : Int)) := by omega
      have hval : (hh : Int) / 2 ^ (8 * (3 - k)) % 256 = ((hh / 256 ^ (3 - k) % 256 : Nat) : Int) := by
        rw [show 256 ^ (3 - k) = 2 ^ (8 * (3 - k)) by rw [Nat.pow_mul]]
        simp
      have hS := sumL_get (padL bs) k hk4
      rw [← HH.out, ← hval] at hS
      have hnew := Lib.hid ((hst.out (.int .u8 ((hh : Int) / 2 ^ (8 * (3 - k)) % 256))).trans (by rw [u8c_set, set_step hS (by simp; omega)]))
      have hfar := Lib.hid (blk_far h0.out (p := ⟨w.heap.size + 1, k, none⟩) (by show w.heap.size ≠ w.heap.size + 1; omega) (.int .u8 ((hh : Int) / 2 ^ (8 * (3 - k)) % 256)))
      have hbe := Lib.hid (bl_set hb.out (g := w.heap.size + 1) (i := k) (by omega) (.int .u8 ((hh : Int) / 2 ^ (8 * (3 - k)) % 256)))
      clear hval hS hu
      go_wp2
      go_roundg n'
      case measure => omega
      case rel => exact ⟨k + 1, by go_num, by omega, hnew, hfar, hbe⟩
    · have hk' : k = 4 := by omega
      subst hk'
      have hp : (sumL (padL bs)).take 4 ++ (List.replicate 4 (0 : Int)).drop 4 ++ padL bs = pageL bs := by
        rw [List.take_of_length_le (by rw [sumL_len]; omega)]
        simp [pageL]
      rw [hp] at h1
      have hpl : (pageL bs).length = 128 := by unfold pageL; rw [List.length_append, sumL_len, padL_len]
      have hld := run_ldPg h1.out hpl
      obtain ⟨W4, hst4, h4, hg4⟩ := run_stPg wr w.heap.size _ (by rw [u8c_size]; simp [pg0]) (pageL bs) hpl h0.out
      have H4 := Lib.hid h4
      have b4 := Lib.hid (hb.out.grown hg4 hb.out.size (fun k e => by injection e; omega))
      clear h4 hg4
      go_wp2
      refine ret_row (u8c (pageL bs)) (g := w.heap.size) (by rfl) (by rfl) Tryz.underlying268 (by rfl) rfl (by rw [u8c_size, hpl]; exact infoPg) (rowOf_blk H4.out) ?_
      exact ⟨rfl, b4.out⟩
end Go.Proofs.YtikgplhcadomcaaGreat

namespace Go.Proofs.YtikgplhcadomcaaGreat
open Go.RowKit
set_option linter.unusedVariables false
set_option linter.unusedSimpArgs false
theorem run_slicePg (W : World) (pb q : Nat) (hq : q < 4) : (Instr.sliceAt 268 (.pointer (some ⟨pb, 0, none⟩)) (some (.int .i64 ((q : Int) * 32))) (some (.int .i64 (((q : Int) + 1) * 32))) none).run Tryz.prog W = .ok (.slice (some ⟨pb, q * 32, none⟩) 32 (128 - q * 32)) W := by
  have h : q = 0 ∨ q = 1 ∨ q = 2 ∨ q = 3 := by omega
  rcases h with rfl | rfl | rfl | rfl
  all_goals go_simp
end Go.Proofs.YtikgplhcadomcaaGreat

namespace Go.Proofs.YtikgplhcadomcaaGreat
open Go.RowKit
set_option linter.unusedVariables false
set_option linter.unusedSimpArgs false

def restSecs (b : List Int) (i m : Nat) : List (List Int) := (List.range' i m).flatMap fun i => cut32 (pageL (pieceL b i))
theorem restSecs_all (b : List Int) : textSecs b = restSecs b 0 (needP b.length).toNat := by unfold textSecs restSecs; rw [List.range_eq_range']
theorem restSecs_succ (b : List Int) (i m : Nat) : restSecs b i (m + 1) = cut32 (pageL (pieceL b i)) ++ restSecs b (i + 1) m := by unfold restSecs; rw [List.range'_succ]; rfl
theorem write_cache (D : Dv) (p : Int) (s : List Int) : (D.write p s).2.cache.length ≤ D.cache.length + 1 := by
  have ha : D.act.2.cache = D.cache := (act_n D).2.1
  unfold Dv.write
  split
  · simp
  · split
    · split
      · simp [ha]
      · simp [ha]
    · simp
theorem wrRun_cons (D : Dv) (p : Int) (s : List Int) (l : List (List Int)) : wrRun D p (s :: l) = if (D.write p s).1 ≠ 0 then D.write p s else wrRun (D.write p s).2 (p + 1) l := rfl
theorem pageL_len (b : List Int) : (pageL b).length = 128 := by unfold pageL; rw [List.length_append, sumL_len, padL_len]
theorem padL_byte {b : List Int} (h : byteL b) : byteL (padL b) := by
  unfold padL
  intro x hx
  rcases List.mem_append.1 hx with hx | hx
  · exact h x (List.mem_of_mem_take hx)
  · rw [List.eq_of_mem_replicate hx]; omega
theorem sumL_byte (xs : List Int) : byteL (sumL xs) := by
  intro x hx
  unfold sumL at hx
  obtain ⟨i, _, rfl⟩ := List.mem_map.1 hx
  omega
theorem pageL_byte {b : List Int} (h : byteL b) : byteL (pageL b) := by
  intro x hx
  unfold pageL at hx
  rcases List.mem_append.1 hx with hx | hx
  · exact sumL_byte _ x hx
  · exact padL_byte h x hx
theorem cut32_drop (p : List Int) (k : Nat) (hk : k < 4) : (cut32 p).drop k = ((p.drop (k * 32)).take 32) :: (cut32 p).drop (k + 1) := by
  unfold cut32
  rw [List.drop_eq_getElem_cons (by simpa using hk)]
  simp
theorem byteL_take {xs : List Int} (h : byteL xs) (k : Nat) : byteL (xs.take k) := fun x hx => h x (List.mem_of_mem_take hx)
theorem byteL_drop {xs : List Int} (h : byteL xs) (k : Nat) : byteL (xs.drop k) := fun x hx => h x (List.mem_of_mem_drop hx)
theorem rd_u8c {W : World} {g o n : Nat} {xs : List Int} {t : TypeId} {fr : Nat × Nat} (hg : W.heap[g]? = some (.cells (u8c xs) t fr)) : Rd by1 1 W (some ⟨g, o, none⟩) ((xs.drop o).take n) := by
  refine .inr ⟨g, o, rfl, blk_lt hg, fun i x hx j v hv => ?_⟩
  have hj : j = 0 := by
    have := (List.getElem?_eq_some_iff.1 hv).1
    simp [by1] at this
    exact this
  subst hj
  simp only [by1, List.getElem?_cons_zero, Option.some.injEq] at hv
  subst hv
  have hi : i < n := by have := (List.getElem?_eq_some_iff.1 hx).1; simp at this; omega
  rw [List.getElem?_take_of_lt hi, List.getElem?_drop] at hx
  rw [blk_cell hg, u8c_get, Nat.mul_one, Nat.add_zero, hx]
  rfl
theorem run_stPg_new (w : World) (xs : List Int) (hx : xs.length = 128) : (stPg (.pointer (some ⟨w.heap.size, 0, none⟩)) (.agg (u8c xs))).run Tryz.prog (w.alloc (.cells Tryz.zeroCells268 268)) = .ok () (w.alloc (.cells (u8c xs) 268)) := by
  unfold stPg
  simp only [Instr.storeAt, Instr.sureAddr, Sem.run_bind, Sem.run_pure, Result.andThen_ok]
  exact run_storeVar_new w _ _ _ (by rw [u8c_size, hx]; exact infoPg) (by rw [u8c_size, hx, zero_pg, u8c_size]; simp [pg0]) (all_oneCell_toArray (fun v hv => u8c_one xs v (by simpa [u8c] using hv)))
theorem need_pos {n : Nat} (h : needP n ≠ 0) : ∃ m : Nat, needP n = (m : Int) ∧ 1 ≤ m ∧ m ≤ 2000 ∧ ∀ i, i < m → i * 124 ≤ n := by
  have e : needP n = max 1 (((n : Int) + 123) / 124) := by
    unfold needP at h ⊢
    split
    · rename_i hh; rw [if_pos hh] at h; exact absurd rfl h
    · rfl
  have hb : (n : Int) ≤ 131072 := by
    unfold needP at h
    split at h
    · exact absurd rfl h
    · omega
  refine ⟨(max 1 (((n : Int) + 123) / 124)).toNat, by rw [e]; omega, by omega, by omega, fun i hi => by omega⟩
theorem page_calls' (w : World) (A : Option Addr) (n c : Nat) (bs : List Int) (hn : bs.length = n) (hl : n ≤ 124) (hb : byteL bs) (h : Rd by1 1 w A bs) :
    Calls Tryz.prog 195 #[.slice A n c] w fun e w' => e = .returned (.agg (u8c (pageL bs))) ∧ Below w.heap.size w w' := by
  subst hn
  exact page_calls w A c bs hl hb h
theorem rd_piece {w : World} {A : Option Addr} {b : List Int} (h : Rd by1 1 w A b) (off m : Nat) : Rd by1 1 w (A.map (fun x => x.add off)) ((b.drop off).take m) := by
  rcases h with h | ⟨bl, o, rfl, hlt, hc⟩
  · subst h; exact .inl (by simp)
  · refine .inr ⟨bl, o + off, by simp [Addr.add_mid], hlt, fun i x hx j v hv => ?_⟩
    have hi : i < m := by have := (List.getElem?_eq_some_iff.1 hx).1; simp at this; omega
    rw [List.getElem?_take_of_lt hi, List.getElem?_drop] at hx
    have := hc (off + i) x hx j v hv
    rw [← this]
    congr 2
    omega
attribute [local go_sem ↓ high] fold_stPg
section
variable {w : World} {g : Nat} {F : Nat → Prop} {D : Dv}
set_option maxRecDepth 100000 in
set_option maxHeartbeats 2000000 in
theorem pgWrite_calls (h : DevAt w g F D) (start : Int) (hs0 : -1000000 ≤ start) (hs1 : start ≤ 1000000) (A : Option Addr) (c : Nat) (b : List Int) (hcap : b.length ≤ c) (hbl : b.length ≤ 1000000) (hbb : byteL b) (hr : Rd by1 1 w A b) (hA : b ≠ [] → ∀ a, A = some a → ¬ F a.block) (hcl : D.cache.length ≤ 1000000000) :
    Calls Tryz.prog 169 #[.pointer (some ⟨g, 0, none⟩), .int .i64 start, .slice A b.length c] w fun e w' => e = .returned (.int .i64 (writeT D start b).1) ∧ Did F w w' g (writeT D start b).2 := by
  have HD := Lib.hid h
  have HB := Lib.hid hbb
  have HR := Lib.hid hr
  have HN := Lib.hid hA
  clear h hbb hr hA
  by_cases hz : needP b.length = 0
  · have hv : Hid (writeT D start b = (2, D)) := if_pos hz
    go_enter Tryz.func169, Tryz.ntmps169
    go_wp2_with fail
    refine (need_calls _ (b.length : Int) (by omega) (by omega)).mono ?_
    rintro e w1 ⟨rfl, rfl⟩
    rw [hz]
    clear hz
    go_wp2
    go_ret
    exact ⟨by rw [hv.out]; rfl, by rw [hv.out]; exact Did.refl HD.out⟩
  obtain ⟨n, hn, hn1, hn2, hni⟩ := need_pos hz
  have HNI := Lib.hid hni
  have hv : Hid (writeT D start b = wrRun D (start * 4) (restSecs b 0 n)) := by
    show _ = _
    unfold writeT
    rw [if_neg hz, restSecs_all, hn]
    rfl
  have hnz : ((n : Int) == 0) = false := by rw [beq_eq_false_iff_ne]; omega
  clear hni
  go_enter Tryz.func169, Tryz.ntmps169
  go_wp2_with fail
  refine (need_calls _ (b.length : Int) (by omega) (by omega)).mono ?_
  rintro e w1 ⟨rfl, rfl⟩
  rw [hn]
  clear hz hn
  go_wp2
  go_loopg [22] n (fun m i wr => ∃ (k : Nat) (D1 : Dv), i = .int .i64 k ∧ k + m = n ∧ Hid (Did F w wr g D1) ∧ Hid (writeT D start b = wrRun D1 ((start + k) * 4) (restSecs b k m)) ∧ Hid (D1.cache.length ≤ D.cache.length + 4 * k))
  case atStart => exact ⟨0, D, rfl, by omega, Did.refl HD.out, by show _ = _; rw [hv.out]; simp, by show _ ≤ _; omega⟩
  case round =>
    obtain ⟨k, D1, rfl, hk, hdid, hrun, hcache⟩ := hrel
    by_cases h0 : gk = 0
    · subst h0
      have hkn : (n : Int) ≤ (k : Int) := by omega
      have hv2 : Hid (writeT D start b = (0, D1)) := by show _ = _; rw [hrun.out]; rfl
      go_wp2
      go_ret
      exact ⟨by rw [hv2.out]; rfl, by rw [hv2.out]; exact hdid.out⟩
    · obtain ⟨n', hn'⟩ : ∃ n', gk = n' + 1 := ⟨gk - 1, by omega⟩
      subst hn'
      have hkn : (k : Int) < (n : Int) := by omega
      have hkb := HNI.out k (by omega)
      have hkb' : (k : Int) * 124 ≤ (b.length : Int) := by omega
      clear h0
      obtain ⟨F1, d1, ch1, s1⟩ := hdid.out
      have D1' := Lib.hid d1
      have C1 := Lib.hid ch1
      have S1 := Lib.hid s1
      clear d1 ch1 s1
      have RW : Hid (Rd by1 1 wr A b) := by
        show Rd _ _ _ _ _
        by_cases hbe : b = []
        · exact .inl hbe
        · exact HR.out.chg C1.out (HN.out hbe)
      by_cases hlast : (k : Int) * 124 + 124 ≤ (b.length : Int)
      · go_wp2_with fail
        refine (page_calls' _ _ 124 _ (pieceL b k) (by unfold pieceL; simp; omega) (by omega) (byteL_take (byteL_drop HB.out _) _) (rd_piece RW.out _ _)).mono ?_
        rintro e w2 ⟨rfl, hb2⟩
        have st := run_stPg_new w2 (pageL (pieceL b k)) (pageL_len _)
        have hpg := blk_new w2 (.cells (u8c (pageL (pieceL b k))) 268)
        have hb3 := bl_then hb2 hb2.size (bl_alloc (Below.refl _ w2) (.cells (u8c (pageL (pieceL b k))) 268))
        have hz3 : (w2.alloc (.cells (u8c (pageL (pieceL b k))) 268)).heap.size = w2.heap.size + 1 := by simp
        have hz2 := hb2.size
        obtain ⟨pb, hpb⟩ : ∃ pb, w2.heap.size = pb := ⟨_, rfl⟩
        obtain ⟨w3, hw3⟩ : ∃ W, w2.alloc (.cells (u8c (pageL (pieceL b k))) 268) = W := ⟨_, rfl⟩
        rw [hw3] at hpg hb3 hz3 st
        rw [hpb] at hpg hz3 hz2 st
        have HPG := Lib.hid hpg
        have D3 := Lib.hid (D1'.out.below hb3)
        have C3 := Lib.hid (C1.out.trans (Below.chg hb3 F1) (fun i _ hi => (S1.out i hi).elim id (fun q => by omega)))
        clear hpg hb2 hw3
        go_wp2
        go_loopg [44] 4 (fun m i wi => ∃ (q : Nat) (D2 : Dv), i = .int .i64 q ∧ q + m = 4 ∧ Hid (Did F1 w3 wi g D2) ∧ Hid (writeT D start b = wrRun D2 ((start + k) * 4 + q) ((cut32 (pageL (pieceL b k))).drop q ++ restSecs b (k + 1) n')) ∧ Hid (D2.cache.length ≤ D1.cache.length + q))
        case atStart => exact ⟨0, D1, rfl, by omega, Did.refl D3.out, by show _ = _; rw [hrun.out, restSecs_succ]; simp, by show _ ≤ _; omega⟩
        case round =>
          obtain ⟨q, D2, rfl, hq, hdid2, hrun2, hcache2⟩ := hrel
          have hcb := hcache2.out
          have hca := hcache.out
          by_cases hq4 : q < 4
          · obtain ⟨m', hm'⟩ : ∃ m', gk = m' + 1 := ⟨gk - 1, by omega⟩
            subst hm'
            have hqi : (q : Int) < 4 := by omega
            have hsl := fun W => run_slicePg W pb q hq4
            have hqa : (q : Int) * 32 ≤ ((q : Int) + 1) * 32 := by omega
            have hqb : ((q : Int) + 1) * 32 ≤ 128 := by omega
            have hqc : (0 : Int) ≤ (q : Int) * 32 := by omega
            have hqd : (0 : Int) ≤ ((q : Int) + 1) * 32 := by omega
            obtain ⟨F2, d2, ch2, s2⟩ := hdid2.out
            have hnf : ¬ F1 pb := fun hf => by have := D1'.out.lt pb hf; omega
            have hnf2 : ¬ F2 pb := fun hf => (s2 pb hf).elim hnf (fun q => by omega)
            have hpi := ch2.blk HPG.out hnf
            have HS : Hid ((((pageL (pieceL b k)).drop (q * 32)).take 32).length = 32) := by show _ = _; rw [List.length_take, List.length_drop, pageL_len]; omega
            have HW := Lib.hid (fun c' (hc' : 32 ≤ c') => write_calls' d2 ((start + k) * 4 + q) (some ⟨pb, q * 32, none⟩) 32 c' (((pageL (pieceL b k)).drop (q * 32)).take 32) HS.out (rd_u8c hpi) (byteL_take (byteL_drop (pageL_byte (byteL_take (byteL_drop HB.out _) _)) _) _) hc' (fun _ a ha => by cases ha; exact hnf2) (by omega))
            have S2 := Lib.hid s2
            have C2 := Lib.hid ch2
            have hrun3 : Hid (writeT D start b = if (D2.write ((start + k) * 4 + q) (((pageL (pieceL b k)).drop (q * 32)).take 32)).1 ≠ 0 then D2.write ((start + k) * 4 + q) (((pageL (pieceL b k)).drop (q * 32)).take 32) else wrRun (D2.write ((start + k) * 4 + q) (((pageL (pieceL b k)).drop (q * 32)).take 32)).2 ((start + k) * 4 + q + 1) ((cut32 (pageL (pieceL b k))).drop (q + 1) ++ restSecs b (k + 1) n')) := by
              show _ = _
              rw [hrun2.out, cut32_drop _ q hq4, List.cons_append, wrRun_cons]
            have hwc := Lib.hid (write_cache D2 ((start + k) * 4 + q) (((pageL (pieceL b k)).drop (q * 32)).take 32))
            have hgl := d2.glt
            clear d2 ch2 s2 hpi hnf hnf2 HPG
            go_wp2_with fail
            refine (HW.out (128 - q * 32) (by omega)).mono ?_
            rintro e w5 ⟨rfl, hd5⟩
            have H5 := Lib.hid (hd5.after C2.out S2.out)
            clear hd5 HW
            generalize D2.write ((start + k) * 4 + q) (((pageL (pieceL b k)).drop (q * 32)).take 32) = R at *
            obtain ⟨er, D5⟩ := R
            simp only at hrun3 hwc H5 ⊢
            by_cases her : er = 0
            · subst her
              have hr5 := Lib.hid (hrun3.out.trans (if_neg (by simp)))
              go_wp2
              go_roundg m'
              case measure => omega
              case rel => exact ⟨q + 1, D5, by go_num, by omega, H5, by show _ = _; rw [hr5.out]; congr 1; omega, by show _ ≤ _; have := hwc.out; omega⟩
            · have hr5 := Lib.hid (hrun3.out.trans (if_pos her))
              have heb : (er != 0) = true := by simpa using her
              clear her
              go_wp2
              go_ret
              exact ⟨by rw [hr5.out]; rfl, by rw [hr5.out]; exact H5.out.after C3.out S1.out⟩
          · have hq' : q = 4 := by omega
            subst hq'
            go_wp2
            go_roundg n'
            case measure => omega
            case rel => exact ⟨k + 1, D2, by go_num, by omega, hdid2.out.after C3.out S1.out, by show _ = _; rw [hrun2.out]; congr 1; omega, by show _ ≤ _; omega⟩
      · have hlast' : (b.length : Int) < (k : Int) * 124 + 124 := by omega
        clear hlast
        by_cases hemp : b.length = k * 124
        · have hle : (b.length : Int) ≤ (k : Int) * 124 := by omega
          have Hemp := Lib.hid hemp
          have hpe : Hid (pieceL b k = []) := by show _ = _; unfold pieceL; rw [List.drop_of_length_le (by omega)]; rfl
          clear hemp
          go_wp2_with fail
          refine (page_calls' _ _ (b.length - k * 124) _ (pieceL b k) (by rw [hpe.out]; simp; have := Hemp.out; omega) (by omega) (byteL_take (byteL_drop HB.out _) _) (.inl hpe.out)).mono ?_
          rintro e w2 ⟨rfl, hb2⟩
          have st := run_stPg_new w2 (pageL (pieceL b k)) (pageL_len _)
          have hpg := blk_new w2 (.cells (u8c (pageL (pieceL b k))) 268)
          have hb3 := bl_then hb2 hb2.size (bl_alloc (Below.refl _ w2) (.cells (u8c (pageL (pieceL b k))) 268))
          have hz3 : (w2.alloc (.cells (u8c (pageL (pieceL b k))) 268)).heap.size = w2.heap.size + 1 := by simp
          have hz2 := hb2.size
          obtain ⟨pb, hpb⟩ : ∃ pb, w2.heap.size = pb := ⟨_, rfl⟩
          obtain ⟨w3, hw3⟩ : ∃ W, w2.alloc (.cells (u8c (pageL (pieceL b k))) 268) = W := ⟨_, rfl⟩
          rw [hw3] at hpg hb3 hz3 st
          rw [hpb] at hpg hz3 hz2 st
          have HPG := Lib.hid hpg
          have D3 := Lib.hid (D1'.out.below hb3)
          have C3 := Lib.hid (C1.out.trans (Below.chg hb3 F1) (fun i _ hi => (S1.out i hi).elim id (fun q => by omega)))
          clear hpg hb2 hw3
          go_wp2
          go_loopg [44] 4 (fun m i wi => ∃ (q : Nat) (D2 : Dv), i = .int .i64 q ∧ q + m = 4 ∧ Hid (Did F1 w3 wi g D2) ∧ Hid (writeT D start b = wrRun D2 ((start + k) * 4 + q) ((cut32 (pageL (pieceL b k))).drop q ++ restSecs b (k + 1) n')) ∧ Hid (D2.cache.length ≤ D1.cache.length + q))
          case atStart => exact ⟨0, D1, rfl, by omega, Did.refl D3.out, by show _ = _; rw [hrun.out, restSecs_succ]; simp, by show _ ≤ _; omega⟩
          case round =>
            obtain ⟨q, D2, rfl, hq, hdid2, hrun2, hcache2⟩ := hrel
            have hcb := hcache2.out
            have hca := hcache.out
            by_cases hq4 : q < 4
            · obtain ⟨m', hm'⟩ : ∃ m', gk = m' + 1 := ⟨gk - 1, by omega⟩
              subst hm'
              have hqi : (q : Int) < 4 := by omega
              have hsl := fun W => run_slicePg W pb q hq4
              have hqa : (q : Int) * 32 ≤ ((q : Int) + 1) * 32 := by omega
              have hqb : ((q : Int) + 1) * 32 ≤ 128 := by omega
              have hqc : (0 : Int) ≤ (q : Int) * 32 := by omega
              have hqd : (0 : Int) ≤ ((q : Int) + 1) * 32 := by omega
              obtain ⟨F2, d2, ch2, s2⟩ := hdid2.out
              have hnf : ¬ F1 pb := fun hf => by have := D1'.out.lt pb hf; omega
              have hnf2 : ¬ F2 pb := fun hf => (s2 pb hf).elim hnf (fun q => by omega)
              have hpi := ch2.blk HPG.out hnf
              have HS : Hid ((((pageL (pieceL b k)).drop (q * 32)).take 32).length = 32) := by show _ = _; rw [List.length_take, List.length_drop, pageL_len]; omega
              have HW := Lib.hid (fun c' (hc' : 32 ≤ c') => write_calls' d2 ((start + k) * 4 + q) (some ⟨pb, q * 32, none⟩) 32 c' (((pageL (pieceL b k)).drop (q * 32)).take 32) HS.out (rd_u8c hpi) (byteL_take (byteL_drop (pageL_byte (byteL_take (byteL_drop HB.out _) _)) _) _) hc' (fun _ a ha => by cases ha; exact hnf2) (by omega))
              have S2 := Lib.hid s2
              have C2 := Lib.hid ch2
              have hrun3 : Hid (writeT D start b = if (D2.write ((start + k) * 4 + q) (((pageL (pieceL b k)).drop (q * 32)).take 32)).1 ≠ 0 then D2.write ((start + k) * 4 + q) (((pageL (pieceL b k)).drop (q * 32)).take 32) else wrRun (D2.write ((start + k) * 4 + q) (((pageL (pieceL b k)).drop (q * 32)).take 32)).2 ((start + k) * 4 + q + 1) ((cut32 (pageL (pieceL b k))).drop (q + 1) ++ restSecs b (k + 1) n')) := by
                show _ = _
                rw [hrun2.out, cut32_drop _ q hq4, List.cons_append, wrRun_cons]
              have hwc := Lib.hid (write_cache D2 ((start + k) * 4 + q) (((pageL (pieceL b k)).drop (q * 32)).take 32))
              have hgl := d2.glt
              clear d2 ch2 s2 hpi hnf hnf2 HPG
              go_wp2_with fail
              refine (HW.out (128 - q * 32) (by omega)).mono ?_
              rintro e w5 ⟨rfl, hd5⟩
              have H5 := Lib.hid (hd5.after C2.out S2.out)
              clear hd5 HW
              generalize D2.write ((start + k) * 4 + q) (((pageL (pieceL b k)).drop (q * 32)).take 32) = R at *
              obtain ⟨er, D5⟩ := R
              simp only at hrun3 hwc H5 ⊢
              by_cases her : er = 0
              · subst her
                have hr5 := Lib.hid (hrun3.out.trans (if_neg (by simp)))
                go_wp2
                go_roundg m'
                case measure => omega
                case rel => exact ⟨q + 1, D5, by go_num, by omega, H5, by show _ = _; rw [hr5.out]; congr 1; omega, by show _ ≤ _; have := hwc.out; omega⟩
              · have hr5 := Lib.hid (hrun3.out.trans (if_pos her))
                have heb : (er != 0) = true := by simpa using her
                clear her
                go_wp2
                go_ret
                exact ⟨by rw [hr5.out]; rfl, by rw [hr5.out]; exact H5.out.after C3.out S1.out⟩
            · have hq' : q = 4 := by omega
              subst hq'
              go_wp2
              go_roundg n'
              case measure => omega
              case rel => exact ⟨k + 1, D2, by go_num, by omega, hdid2.out.after C3.out S1.out, by show _ = _; rw [hrun2.out]; congr 1; omega, by show _ ≤ _; omega⟩
        · have hne : (k : Int) * 124 < (b.length : Int) := by omega
          clear hemp
          go_wp2_with fail
          refine (page_calls' _ _ (b.length - k * 124) _ (pieceL b k) (by unfold pieceL; simp; omega) (by omega) (byteL_take (byteL_drop HB.out _) _) (rd_piece RW.out _ _)).mono ?_
          rintro e w2 ⟨rfl, hb2⟩
          have st := run_stPg_new w2 (pageL (pieceL b k)) (pageL_len _)
          have hpg := blk_new w2 (.cells (u8c (pageL (pieceL b k))) 268)
          have hb3 := bl_then hb2 hb2.size (bl_alloc (Below.refl _ w2) (.cells (u8c (pageL (pieceL b k))) 268))
          have hz3 : (w2.alloc (.cells (u8c (pageL (pieceL b k))) 268)).heap.size = w2.heap.size + 1 := by simp
          have hz2 := hb2.size
          obtain ⟨pb, hpb⟩ : ∃ pb, w2.heap.size = pb := ⟨_, rfl⟩
          obtain ⟨w3, hw3⟩ : ∃ W, w2.alloc (.cells (u8c (pageL (pieceL b k))) 268) = W := ⟨_, rfl⟩
          rw [hw3] at hpg hb3 hz3 st
          rw [hpb] at hpg hz3 hz2 st
          have HPG := Lib.hid hpg
          have D3 := Lib.hid (D1'.out.below hb3)
          have C3 := Lib.hid (C1.out.trans (Below.chg hb3 F1) (fun i _ hi => (S1.out i hi).elim id (fun q => by omega)))
          clear hpg hb2 hw3
          go_wp2
          go_loopg [44] 4 (fun m i wi => ∃ (q : Nat) (D2 : Dv), i = .int .i64 q ∧ q + m = 4 ∧ Hid (Did F1 w3 wi g D2) ∧ Hid (writeT D start b = wrRun D2 ((start + k) * 4 + q) ((cut32 (pageL (pieceL b k))).drop q ++ restSecs b (k + 1) n')) ∧ Hid (D2.cache.length ≤ D1.cache.length + q))
          case atStart => exact ⟨0, D1, rfl, by omega, Did.refl D3.out, by show _ = _; rw [hrun.out, restSecs_succ]; simp, by show _ ≤ _; omega⟩
          case round =>
            obtain ⟨q, D2, rfl, hq, hdid2, hrun2, hcache2⟩ := hrel
            have hcb := hcache2.out
            have hca := hcache.out
            by_cases hq4 : q < 4
            · obtain ⟨m', hm'⟩ : ∃ m', gk = m' + 1 := ⟨gk - 1, by omega⟩
              subst hm'
              have hqi : (q : Int) < 4 := by omega
              have hsl := fun W => run_slicePg W pb q hq4
              have hqa : (q : Int) * 32 ≤ ((q : Int) + 1) * 32 := by omega
              have hqb : ((q : Int) + 1) * 32 ≤ 128 := by omega
              have hqc : (0 : Int) ≤ (q : Int) * 32 := by omega
              have hqd : (0 : Int) ≤ ((q : Int) + 1) * 32 := by omega
              obtain ⟨F2, d2, ch2, s2⟩ := hdid2.out
              have hnf : ¬ F1 pb := fun hf => by have := D1'.out.lt pb hf; omega
              have hnf2 : ¬ F2 pb := fun hf => (s2 pb hf).elim hnf (fun q => by omega)
              have hpi := ch2.blk HPG.out hnf
              have HS : Hid ((((pageL (pieceL b k)).drop (q * 32)).take 32).length = 32) := by show _ = _; rw [List.length_take, List.length_drop, pageL_len]; omega
              have HW := Lib.hid (fun c' (hc' : 32 ≤ c') => write_calls' d2 ((start + k) * 4 + q) (some ⟨pb, q * 32, none⟩) 32 c' (((pageL (pieceL b k)).drop (q * 32)).take 32) HS.out (rd_u8c hpi) (byteL_take (byteL_drop (pageL_byte (byteL_take (byteL_drop HB.out _) _)) _) _) hc' (fun _ a ha => by cases ha; exact hnf2) (by omega))
              have S2 := Lib.hid s2
              have C2 := Lib.hid ch2
              have hrun3 : Hid (writeT D start b = if (D2.write ((start + k) * 4 + q) (((pageL (pieceL b k)).drop (q * 32)).take 32)).1 ≠ 0 then D2.write ((start + k) * 4 + q) (((pageL (pieceL b k)).drop (q * 32)).take 32) else wrRun (D2.write ((start + k) * 4 + q) (((pageL (pieceL b k)).drop (q * 32)).take 32)).2 ((start + k) * 4 + q + 1) ((cut32 (pageL (pieceL b k))).drop (q + 1) ++ restSecs b (k + 1) n')) := by
                show _ = _
                rw [hrun2.out, cut32_drop _ q hq4, List.cons_append, wrRun_cons]
              have hwc := Lib.hid (write_cache D2 ((start + k) * 4 + q) (((pageL (pieceL b k)).drop (q * 32)).take 32))
              have hgl := d2.glt
              clear d2 ch2 s2 hpi hnf hnf2 HPG
              go_wp2_with fail
              refine (HW.out (128 - q * 32) (by omega)).mono ?_
              rintro e w5 ⟨rfl, hd5⟩
              have H5 := Lib.hid (hd5.after C2.out S2.out)
              clear hd5 HW
              generalize D2.write ((start + k) * 4 + q) (((pageL (pieceL b k)).drop (q * 32)).take 32) = R at *
              obtain ⟨er, D5⟩ := R
              simp only at hrun3 hwc H5 ⊢
              by_cases her : er = 0
              · subst her
                have hr5 := Lib.hid (hrun3.out.trans (if_neg (by simp)))
                go_wp2
                go_roundg m'
                case measure => omega
                case rel => exact ⟨q + 1, D5, by go_num, by omega, H5, by show _ = _; rw [hr5.out]; congr 1; omega, by show _ ≤ _; have := hwc.out; omega⟩
              · have hr5 := Lib.hid (hrun3.out.trans (if_pos her))
                have heb : (er != 0) = true := by simpa using her
                clear her
                go_wp2
                go_ret
                exact ⟨by rw [hr5.out]; rfl, by rw [hr5.out]; exact H5.out.after C3.out S1.out⟩
            · have hq' : q = 4 := by omega
              subst hq'
              go_wp2
              go_roundg n'
              case measure => omega
              case rel => exact ⟨k + 1, D2, by go_num, by omega, hdid2.out.after C3.out S1.out, by show _ = _; rw [hrun2.out]; congr 1; omega, by show _ ≤ _; omega⟩
end
end Go.Proofs.YtikgplhcadomcaaGreat

namespace Go.Proofs.YtikgplhcadomcaaGreat
open Go.RowKit
set_option linter.unusedVariables false
set_option linter.unusedSimpArgs false

theorem infoBy : (Tryz.prog.info? 5).map (fun i => (i.zero, i.size, i.bytes)) = some (some (.int .u8 0), 1, 1) := by kernel_rfl
theorem zsz : (Value.int .u8 0).cells.size = 1 := rfl
theorem rdRun_byte (D : Dv) : ∀ (m : Nat) (p : Int), byteL (rdRun D p m).1
  | 0, p => fun x hx => by cases hx
  | m + 1, p => by
    have ih := rdRun_byte D m (p + 1)
    unfold rdRun consR
    split
    · intro x hx; cases hx
    · split
      · intro x hx; cases hx
      · intro x hx
        rcases List.mem_append.1 hx with hx | hx
        · exact readB_byte D p x hx
        · exact ih x hx
theorem rdRun_len (D : Dv) : ∀ (m : Nat) (p : Int), (rdRun D p m).2 = 0 → (rdRun D p m).1.length = m * 32
  | 0, p, _ => rfl
  | m + 1, p, h => by
    have ih := rdRun_len D m (p + 1)
    unfold rdRun at h ⊢
    by_cases h0 : D.readE p = 0
    · rw [if_neg (by simp [h0])] at h ⊢
      unfold consR at h ⊢
      by_cases h1 : (rdRun D (p + 1) m).2 = 0
      · rw [if_neg (by simp [h1])]
        simp only [List.length_append]
        rw [ih h1, readB_now h0, (D.now p).2.1]
        omega
      · rw [if_pos h1] at h
        exact absurd h h1
    · rw [if_pos h0] at h
      exact absurd h h0
theorem rdRun_succ (D : Dv) (p : Int) (m : Nat) : rdRun D p (m + 1) = if D.readE p ≠ 0 then ([], D.readE p) else consR (D.readB p) (rdRun D (p + 1) m) := rfl
theorem rdRun_none (D : Dv) : ∀ (m : Nat) (p : Int), (rdRun D p m).2 ≠ 0 → (rdRun D p m).1 = []
  | 0, p, h => absurd rfl h
  | m + 1, p, h => by
    unfold rdRun consR at h ⊢
    split
    · rfl
    · rename_i h0
      rw [if_neg h0] at h
      split
      · rfl
      · rename_i h1
        rw [if_neg h1] at h
        exact absurd rfl h
theorem bytes_ne {xs ys : List Int} (hx : byteL xs) (hy : byteL ys) : (!((strOfNums xs).toList == (strOfNums ys).toList)) = !decide (xs = ys) := by
  by_cases h : xs = ys
  · subst h; simp
  · rw [str_ne (fun e => h (str_inj hx hy e))]
    simp [h]
attribute [local go_sem ↓ high] fold_stPg
section
variable {w : World} {g : Nat} {F : Nat → Prop} {D : Dv}
set_option maxRecDepth 100000 in
set_option maxHeartbeats 2000000 in
theorem readPage_calls (h : DevAt w g F D) (pg : Int) (hs0 : -1000000 ≤ pg) (hs1 : pg ≤ 1000000) :
    Calls Tryz.prog 186 #[.pointer (some ⟨g, 0, none⟩), .int .i64 pg] w fun e w' => ReadR w w' (readPg D pg).1 (readPg D pg).2 e := by
  have HD := Lib.hid h
  have t1 := Lib.hid zsz
  clear h
  go_enter Tryz.func186, Tryz.ntmps186
  go_wp2
  go_loopg [6, 11] 4 (fun m s6 i wr => ∃ (k : Nat) (xs : List Int) (v : Value), v = s6 ∧ i = .int .i64 k ∧ k + m = 4 ∧ Hid (Own by1 1 5 w.heap.size wr v xs) ∧ Hid (Below w.heap.size w wr) ∧ Hid (rdRun D (pg * 4) 4 = consR xs (rdRun D (pg * 4 + k) m)) ∧ Hid (xs.length = k * 32))
  case atStart =>
    have e0 : Hid (rdRun D (pg * 4) 4 = consR [] (rdRun D (pg * 4 + ((0 : Nat) : Int)) 4)) := by
      show _ = _
      rw [show pg * 4 + ((0 : Nat) : Int) = pg * 4 from by omega, consR_nil (fun q => rdRun_none D 4 _ q)]
    exact ⟨0, [], _, rfl, rfl, by omega, Own.nil, Below.refl _ _, e0, by show _ = _; rfl⟩
  case round =>
    obtain ⟨k, xs, v, rfl, rfl, hk, ho, hb, hrun, hxl⟩ := hrel
    by_cases hk4 : k < 4
    · obtain ⟨m', hm'⟩ : ∃ m', gk = m' + 1 := ⟨gk - 1, by omega⟩
      subst hm'
      have hkn : (k : Int) < 4 := by omega
      have hxn := hxl.out
      have hrun2 : Hid (rdRun D (pg * 4) 4 = consR xs (if D.readE (pg * 4 + k) ≠ 0 then ([], D.readE (pg * 4 + k)) else consR (D.readB (pg * 4 + k)) (rdRun D (pg * 4 + k + 1) m'))) := by
        show _ = _
        rw [hrun.out, rdRun_succ]
      go_wp2_with fail
      refine (read_calls (HD.out.below hb.out) (pg * 4 + k)).mono ?_
      rintro e w2 ⟨A, c, rfl, hc, hrd, -, hb2⟩
      have B2 := Lib.hid (bl_then hb.out hb.out.size hb2)
      have O2 := Lib.hid (ho.out.below hb2)
      have z2 := Lib.hid B2.out.size
      clear hb2
      by_cases hE : D.readE (pg * 4 + k) = 0
      · have hbl : (D.readB (pg * 4 + k)).length = 32 := by rw [readB_now hE]; exact (D.now (pg * 4 + k)).2.1
        rw [hE] at hrun2 ⊢
        rw [hbl] at hc ⊢
        have hrun3 : Hid (rdRun D (pg * 4) 4 = consR (xs ++ D.readB (pg * 4 + k)) (rdRun D (pg * 4 + ((k + 1 : Nat) : Int)) m')) := by
          show _ = _
          rw [hrun2.out, if_neg (by simp), consR_app, show pg * 4 + (k : Int) + 1 = pg * 4 + ((k + 1 : Nat) : Int) from by omega]
        generalize D.readB (pg * 4 + k) = bs at *
        have HBL := Lib.hid hbl
        have hne : Hid (bs ≠ []) := by show _ ≠ _; intro q; subst q; simp at hbl
        have HR := Lib.hid hrd
        have l1 : Hid ((xs.length + 32) * 1 ≤ 140737488355328) := by show _ ≤ _; omega
        have l2 : Hid (xs.length + 32 ≤ 140737488355328) := by show _ ≤ _; omega
        clear hE hbl hrd hrun2 hxn
        go_wp2_with (at_builtin; go_loud (refine at_list rfl (fun K hK => op_ownN by1ok _ _ _ _ _ _ rfl Tryz.underlying51 infoBy t1.out w.heap.size _ xs A c bs 32 HBL.out hne.out rfl rfl O2.out HR.out z2.out l1.out l2.out (fun g2 cap w3 ho3 hg3 hat3 hlt3 => hK _ _ ?_)); have O3 := Lib.hid ho3; have B3 := Lib.hid (B2.out.grown hg3 z2.out (fun k e => (O2.out.lt _ e).1)); clear ho3 hg3 hat3 hlt3))
        go_roundg m'
        case measure => omega
        case rel => exact ⟨k + 1, xs ++ bs, _, rfl, by go_num, by omega, O3.out, B3.out, hrun3.out, by show _ = _; rw [List.length_append, HBL.out, hxl.out]; omega⟩
      · have hR : Hid (rdRun D (pg * 4) 4 = ([], D.readE (pg * 4 + k))) := by
          show _ = _
          rw [hrun2.out, if_pos hE]
          unfold consR
          rw [if_pos hE]
        have hb0 : D.readB (pg * 4 + k) = [] := readB_none hE
        have hP : Hid (readPg D pg = ([], D.readE (pg * 4 + k))) := by
          show _ = _
          unfold readPg
          rw [hR.out, if_pos hE]
        rw [hb0] at hc ⊢
        have heb : (D.readE (pg * 4 + k) != 0) = true := by simpa using hE
        generalize D.readE (pg * 4 + k) = E at *
        clear hE hb0 hrun hrun2
        go_wp2
        go_ret2
        rw [hP.out]
        exact ⟨none, 0, rfl, Nat.le_refl _, .inl rfl, (fun a ha => by cases ha), B2.out⟩
    · have hk' : k = 4 := by omega
      subst hk'
      have hg0 : gk = 0 := by omega
      subst hg0
      have hR : Hid (rdRun D (pg * 4) 4 = (xs, 0)) := by
        show _ = _
        rw [hrun.out]
        show consR xs ([], 0) = _
        unfold consR
        simp
      have hl : xs.length = 128 := hxl.out
      have HL := Lib.hid hl
      obtain ⟨A, c, hv, hc, -, hrd, hA⟩ := ho.out.rd by1ok
      rw [hl] at hv hc
      subst hv
      obtain ⟨b, rfl⟩ : ∃ b, A = some ⟨b, 0, none⟩ := by
        rcases ho.out.2 with ⟨q, h0⟩ | ⟨b, cap, cur, q, _⟩
        · omega
        · injection q with q1 q2 q3
          exact ⟨b, q1⟩
      have HR := Lib.hid hrd
      have HA := Lib.hid hA
      have hbx : Hid (byteL xs) := by
        have := rdRun_byte D 4 (pg * 4)
        rw [hR.out] at this
        exact this
      clear hl hrd hA
      have hd4 : Hid ((xs.drop 4).length = 124) := by show _ = _; rw [List.length_drop, HL.out]
      go_wp2_with fail
      refine (page_calls' _ _ 124 _ (xs.drop 4) hd4.out (Nat.le_refl _) (byteL_drop hbx.out _) ?_).mono ?_
      · have := rd_piece HR.out 4 124
        rwa [List.take_of_length_le (by rw [hd4.out]; exact Nat.le_refl _)] at this
      rintro e w2 ⟨rfl, hb2⟩
      have st := run_stPg_new w2 (pageL (xs.drop 4)) (pageL_len _)
      have hpg := blk_new w2 (.cells (u8c (pageL (xs.drop 4))) 268)
      have B3 := Lib.hid (bl_then hb.out hb.out.size (bl_then hb2 hb2.size (bl_alloc (Below.refl _ w2) (.cells (u8c (pageL (xs.drop 4))) 268))))
      have R3 := Lib.hid (HR.out.below (bl_then hb2 hb2.size (bl_alloc (Below.refl _ w2) (.cells (u8c (pageL (xs.drop 4))) 268))) (Nat.le_refl _))
      obtain ⟨pb, hpb⟩ : ∃ pb, w2.heap.size = pb := ⟨_, rfl⟩
      obtain ⟨w3, hw3⟩ : ∃ W, w2.alloc (.cells (u8c (pageL (xs.drop 4))) 268) = W := ⟨_, rfl⟩
      rw [hw3] at hpg B3 R3 st
      rw [hpb] at hpg st
      have cv1 := u8c_str (W := w3.drew) (o := 0) (n := 128) (c := 128) hpg (by rw [pageL_len]; exact Nat.le_refl _)
      rw [List.drop_zero, List.take_of_length_le (by rw [pageL_len]; exact Nat.le_refl _)] at cv1
      have cv2 := string_of_rd (W := w3.drew) c HL.out (rd_drew R3).out
      have hcmp := bytes_ne (pageL_byte (byteL_drop hbx.out 4)) hbx.out
      have R4 : Hid (Rd by1 1 w3 (some ⟨b, 4, none⟩) (xs.drop 4)) := by
        have := rd_piece R3.out 4 124
        rwa [List.take_of_length_le (by rw [hd4.out]; exact Nat.le_refl _)] at this
      clear hpg hb2 hw3
      by_cases hx : pageL (xs.drop 4) = xs
      · have hP : Hid (readPg D pg = (xs.drop 4, 0)) := by
          show _ = _
          unfold readPg
          rw [hR.out, if_neg (by simp), if_pos hx]
        have hcmp2 : (!((strOfNums (pageL (xs.drop 4))).toList == (strOfNums xs).toList)) = false := by rw [hcmp, hx]; simp
        clear hx hcmp
        generalize pageL (xs.drop 4) = pp at *
        go_wp2_with fail
        go_region_law (fail)
        all_goals
          go_wp2
          go_ret2
          rw [hP.out]
          exact ⟨some ⟨b, 4, none⟩, c - 4, by rw [hd4.out]; rfl, by rw [hd4.out]; omega, R4.out, (fun a ha => by cases ha; exact HA.out ⟨b, 0, none⟩ rfl), B3.out.drew⟩
      · have hP : Hid (readPg D pg = ([], 60)) := by
          show _ = _
          unfold readPg
          rw [hR.out, if_neg (by simp), if_neg hx]
        have hcmp2 : (!((strOfNums (pageL (xs.drop 4))).toList == (strOfNums xs).toList)) = true := by rw [hcmp]; simp [hx]
        clear hx hcmp
        generalize pageL (xs.drop 4) = pp at *
        go_wp2_with fail
        go_region_law (fail)
        all_goals
          go_wp2
          go_ret2
          rw [hP.out]
          exact ⟨none, 0, rfl, Nat.le_refl _, .inl rfl, (fun a ha => by cases ha), B3.out.drew⟩
theorem readPg_len (D : Dv) (pg : Int) (h : (readPg D pg).2 = 0) : (readPg D pg).1.length = 124 := by
  unfold readPg at h ⊢
  by_cases h0 : (rdRun D (pg * 4) 4).2 = 0
  · have hl := rdRun_len D 4 (pg * 4) h0
    rw [if_neg (by simp [h0])] at h ⊢
    split at h
    · rename_i h1
      rw [if_pos h1]
      show (List.drop 4 _).length = 124
      rw [List.length_drop, hl]
    · cases h
  · rw [if_pos h0] at h
    exact absurd h h0
theorem readPg_none (D : Dv) (pg : Int) (h : (readPg D pg).2 ≠ 0) : (readPg D pg).1 = [] := by
  unfold readPg at h ⊢
  split
  · rfl
  · rename_i h0
    rw [if_neg h0] at h
    split
    · rename_i h1
      rw [if_pos h1] at h
      exact absurd rfl h
    · rfl
theorem rdPages_none (D : Dv) : ∀ (m : Nat) (p : Int), (rdPages D p m).2 ≠ 0 → (rdPages D p m).1 = []
  | 0, p, h => absurd rfl h
  | m + 1, p, h => by
    unfold rdPages consR at h ⊢
    split
    · rfl
    · rename_i h0
      rw [if_neg h0] at h
      split
      · rfl
      · rename_i h1
        rw [if_neg h1] at h
        exact absurd rfl h
theorem rdPages_succ (D : Dv) (p : Int) (m : Nat) : rdPages D p (m + 1) = if (readPg D p).2 ≠ 0 then ([], (readPg D p).2) else consR (readPg D p).1 (rdPages D (p + 1) m) := rfl
theorem need_sz {size : Int} (h : needP size ≠ 0) : ∃ (n m : Nat), size = (m : Int) ∧ needP size = (n : Int) ∧ m ≤ 131072 ∧ 1 ≤ n ∧ n ≤ 1058 ∧ m ≤ n * 124 := by
  have h2 := needP_lo h
  exact ⟨(needP size).toNat, size.toNat, by omega, by omega, by omega, by omega, by omega, by omega⟩
set_option maxRecDepth 100000 in
set_option maxHeartbeats 2000000 in
theorem pgRead_calls (h : DevAt w g F D) (start size : Int) (hs0 : -500000 ≤ start) (hs1 : start ≤ 500000) (hz0 : -9223372036854775808 ≤ size) (hz1 : size ≤ 9223372036854775807) :
    Calls Tryz.prog 146 #[.pointer (some ⟨g, 0, none⟩), .int .i64 start, .int .i64 size] w fun e w' => ReadR w w' (readT D start size).1 (readT D start size).2 e := by
  have HD := Lib.hid h
  have t1 := Lib.hid zsz
  clear h
  by_cases hz : needP size = 0
  · have hv : Hid (readT D start size = ([], 1)) := if_pos hz
    go_enter Tryz.func146, Tryz.ntmps146
    go_wp2_with fail
    refine (need_calls _ size hz0 hz1).mono ?_
    rintro e w1 ⟨rfl, rfl⟩
    rw [hz]
    clear hz
    go_wp2
    go_ret2
    rw [hv.out]
    exact ⟨none, 0, rfl, Nat.le_refl _, .inl rfl, (fun a ha => by cases ha), Below.refl _ _⟩
  obtain ⟨n, m, rfl, hn, hm, hn1, hn2, hmn⟩ := need_sz hz
  have hv : Hid (readT D start m = if (rdPages D start n).2 ≠ 0 then ([], (rdPages D start n).2) else ((rdPages D start n).1.take m, 0)) := by
    show _ = _
    unfold readT
    rw [if_neg hz, hn]
    rfl
  have hnz : ((n : Int) == 0) = false := by rw [beq_eq_false_iff_ne]; omega
  go_enter Tryz.func146, Tryz.ntmps146
  go_wp2_with fail
  refine (need_calls _ (m : Int) hz0 hz1).mono ?_
  rintro e w1 ⟨rfl, rfl⟩
  rw [hn]
  clear hz hn
  go_wp2
  go_loopg [9, 18] n (fun j s9 i wr => ∃ (k : Nat) (xs : List Int) (v : Value), v = s9 ∧ i = .int .i64 k ∧ k + j = n ∧ Hid (Own by1 1 5 w.heap.size wr v xs) ∧ Hid (Below w.heap.size w wr) ∧ Hid (rdPages D start n = consR xs (rdPages D (start + k) j)) ∧ Hid (xs.length = k * 124))
  case atStart =>
    have e0 : Hid (rdPages D start n = consR [] (rdPages D (start + ((0 : Nat) : Int)) n)) := by
      show _ = _
      rw [show start + ((0 : Nat) : Int) = start from by omega, consR_nil (fun q => rdPages_none D n _ q)]
    exact ⟨0, [], _, rfl, rfl, by omega, Own.nil, Below.refl _ _, e0, by show _ = _; rfl⟩
  case round =>
    obtain ⟨k, xs, v, rfl, rfl, hk, ho, hb, hrun, hxl⟩ := hrel
    by_cases hk4 : k < n
    · obtain ⟨m', hm'⟩ : ∃ m', gk = m' + 1 := ⟨gk - 1, by omega⟩
      subst hm'
      have hkn : (k : Int) < n := by omega
      have hxn := hxl.out
      have hrun2 : Hid (rdPages D start n = consR xs (if (readPg D (start + k)).2 ≠ 0 then ([], (readPg D (start + k)).2) else consR (readPg D (start + k)).1 (rdPages D (start + k + 1) m'))) := by
        show _ = _
        rw [hrun.out, rdPages_succ]
      go_wp2_with fail
      refine (readPage_calls (HD.out.below hb.out) (start + k) (by omega) (by omega)).mono ?_
      rintro e w2 ⟨A, c, rfl, hc, hrd, -, hb2⟩
      have B2 := Lib.hid (bl_then hb.out hb.out.size hb2)
      have O2 := Lib.hid (ho.out.below hb2)
      have z2 := Lib.hid B2.out.size
      clear hb2
      have hrl := readPg_len D (start + k)
      have hrn := readPg_none D (start + k)
      generalize readPg D (start + k) = R at *
      obtain ⟨bs, E⟩ := R
      simp only at hrl hrn hrun2 hc hrd ⊢
      by_cases hE : E = 0
      · subst hE
        have hbl := hrl rfl
        rw [hbl] at hc ⊢
        have hrun3 : Hid (rdPages D start n = consR (xs ++ bs) (rdPages D (start + ((k + 1 : Nat) : Int)) m')) := by
          show _ = _
          rw [hrun2.out, if_neg (by simp), consR_app, show start + (k : Int) + 1 = start + ((k + 1 : Nat) : Int) from by omega]
        have HBL := Lib.hid hbl
        have hne : Hid (bs ≠ []) := by show _ ≠ _; intro q; subst q; simp at hbl
        have HR := Lib.hid hrd
        have l1 : Hid ((xs.length + 124) * 1 ≤ 140737488355328) := by show _ ≤ _; omega
        have l2 : Hid (xs.length + 124 ≤ 140737488355328) := by show _ ≤ _; omega
        clear hbl hrd hrun2 hxn hrl hrn
        go_wp2_with (at_builtin; refine at_list rfl (fun K hK => op_ownN by1ok _ _ _ _ _ _ rfl Tryz.underlying51 infoBy t1.out w.heap.size _ xs A c bs 124 HBL.out hne.out rfl rfl O2.out HR.out z2.out l1.out l2.out (fun g2 cap w3 ho3 hg3 hat3 hlt3 => hK _ _ ?_)); have O3 := Lib.hid ho3; have B3 := Lib.hid (B2.out.grown hg3 z2.out (fun k e => (O2.out.lt _ e).1)); clear ho3 hg3 hat3 hlt3)
        go_roundg m'
        case measure => omega
        case rel => exact ⟨k + 1, xs ++ bs, _, rfl, by go_num, by omega, O3.out, B3.out, hrun3.out, by show _ = _; rw [List.length_append, HBL.out, hxl.out]; omega⟩
      · have hP : Hid (readT D start m = ([], E)) := by
          show _ = _
          rw [hv.out, hrun2.out, if_pos hE]
          unfold consR
          rw [if_pos hE, if_pos hE]
        have hb0 : bs = [] := hrn hE
        subst hb0
        have heb : (E != 0) = true := by simpa using hE
        clear hE hrun hrun2 hrl hrn
        go_wp2
        go_ret2
        rw [hP.out]
        exact ⟨none, 0, rfl, Nat.le_refl _, .inl rfl, (fun a ha => by cases ha), B2.out⟩
    · have hk' : k = n := by omega
      subst hk'
      have hg0 : gk = 0 := by omega
      subst hg0
      have hP : Hid (readT D start m = (xs.take m, 0)) := by
        show _ = _
        rw [hv.out, hrun.out]
        show (if (consR xs ([], 0)).2 ≠ 0 then _ else ((consR xs ([], 0)).1.take m, 0)) = _
        unfold consR
        simp
      have hl : xs.length = k * 124 := hxl.out
      obtain ⟨A, c, hv2, hc, -, hrd, hA⟩ := ho.out.rd by1ok
      rw [hl] at hv2 hc
      subst hv2
      obtain ⟨b, rfl⟩ : ∃ b, A = some ⟨b, 0, none⟩ := by
        rcases ho.out.2 with ⟨q, h0⟩ | ⟨b, cap, cur, q, _⟩
        · omega
        · injection q with q1 q2 q3
          exact ⟨b, q1⟩
      have HA := Lib.hid hA
      have HL : Hid ((xs.take m).length = m) := by show _ = _; rw [List.length_take]; omega
      have R4 : Hid (Rd by1 1 wr (some ⟨b, 0, none⟩) (xs.take m)) := by
        have := rd_piece hrd 0 m
        rw [List.drop_zero] at this
        exact this
      have hmc : m ≤ c := by omega
      have hkk : ¬ (k : Int) < k := by omega
      clear hl hrd hA hk4
      go_wp2
      go_ret2
      rw [hP.out]
      exact ⟨some ⟨b, 0, none⟩, m, by rw [HL.out]; rfl, by rw [HL.out]; exact Nat.le_refl _, R4.out, HA.out, hb.out⟩
end
end Go.Proofs.YtikgplhcadomcaaGreat

namespace Go.Proofs.YtikgplhcadomcaaGreat
open Go.RowKit
set_option linter.unusedVariables false
set_option linter.unusedSimpArgs false
theorem pages_calls {w : World} {g : Nat} {F : Nat → Prop} {D : Dv} (h : DevAt w g F D) : Calls Tryz.prog 161 #[.pointer (some ⟨g, 0, none⟩)] w fun e w' => e = .returned (.int .i64 ((D.n : Int) / 4)) ∧ w = w' := by
  have hs := size_calls h
  have hn := h.n_le
  clear h
  have hq : ((D.n : Int)).tdiv 4 = (D.n : Int) / 4 := by rw [Int.tdiv_eq_ediv_of_nonneg (by omega)]
  go_enter Tryz.func161, Tryz.ntmps161
  go_wp2_with fail
  refine hs.mono ?_
  rintro e w1 ⟨rfl, rfl⟩
  go_wp2
  go_ret
  exact ⟨by first | rfl | (congr 2; omega), rfl⟩
section
variable {w : World} {p g : Nat} {F : Nat → Prop} {D : Dv} {P : Pg}
set_option maxRecDepth 100000 in
set_option maxHeartbeats 1000000 in
theorem pok_calls (h : PgAt w p g F D P) : Calls Tryz.prog 131 #[.pointer (some ⟨p, 0, none⟩)] w fun e w' => e = .returned (.bool (!P.ended)) ∧ w = w' := by
  obtain ⟨f, A, B, a, b, FD, FF, c0, c1, c2, c3, c4, c5, c6, c7, c8, fz, -, -, -, -, -, -, -, -⟩ := h.open
  clear c0 c1 c2 c3 c4 c6 c7
  go_enter Tryz.func131, Tryz.ntmps131
  go_wp2
  go_ret
  exact ⟨rfl, rfl⟩
def PRoot (w : World) (p : Nat) (P : Pg) (W : World) : Prop := W.cell? ⟨p, 2, none⟩ = some (.int .u32 P.s.start) ∧ W.cell? ⟨p, 3, none⟩ = some (.int .u32 P.s.pages) ∧ W.heap[w.heap.size]? = some (.cells #[.int .i64 0, .int .i64 0] 160 (0, 0)) ∧ Below w.heap.size w W
set_option maxRecDepth 100000 in
set_option maxHeartbeats 1000000 in
theorem proot_calls (h : PgAt w p g F D P) : Calls Tryz.prog 134 #[.pointer (some ⟨p, 0, none⟩)] w fun e w' => e = .returned P.s.span.v ∧ Below w.heap.size w w' := by
  have hpl := h.plt
  have hok := h.sok
  obtain ⟨f, A, B, a, b, FD, FF, c0, c1, c2, c3, c4, c5, c6, c7, c8, fz, -, -, -, -, -, -, -, -⟩ := h.open
  have hb1 : Below w.heap.size w (w.alloc (.cells #[.int .i64 0, .int .i64 0] 160)) := bl_alloc (Below.refl _ w) _
  obtain ⟨W1, hW1⟩ : ∃ W, (w.alloc (.cells #[.int .i64 0, .int .i64 0] 160)).drew = W := ⟨_, rfl⟩
  have hS0 : PRoot w p P W1 := by
    rw [← hW1]
    exact ⟨(hb1.cell hpl).trans c2, (hb1.cell hpl).trans c3, blk_new w _, hb1.drew⟩
  have r1 := hok.2.1
  have r2 := hok.2.2.1
  clear c0 c1 c2 c3 c5 c4 c6 c7 c8 hok hb1 h fz
  go_enter Tryz.func134, Tryz.ntmps134
  go_wp2
  refine wp_region_noPanic ?_
  refine wp_regionZ 13 (PRoot w p P) (by kernel_rfl) ?_
  rw [hW1]
  refine AnyZ.takeU [13] (i := 0) (oi := ⟨some 6, _, _, _, _, _⟩) (v := ?_) rfl (by kernel_rfl) (by kernel_rfl) (by kernel_rfl) (by kernel_rfl) (by kernel_rfl) (by kernel_rfl) (fun _ _ _ h => h) (Or.inl ⟨by rfl, ?_⟩) (by assumption) ?_
  rotate_left
  · (intro w hSw; (try dsimp only at hSw); obtain ⟨k2, k3, kz, kb⟩ := hSw; have kc0 := blk_cell kz 0; have kc1 := blk_cell kz 1; have kf0 := blk_free kz 0; have kf1 := blk_free kz 1; have kl := blk_lt kz; (go_simp <;> with_reducible rfl))
  try simp only [Act.put, List.setIfInBounds_toArray, List.set_cons_zero, List.set_cons_succ]
  refine AnyZ.takeU [13] (i := 1) (oi := ⟨some 7, _, _, _, _, _⟩) (v := ?_) rfl (by kernel_rfl) (by kernel_rfl) (by kernel_rfl) (by kernel_rfl) (by kernel_rfl) (by kernel_rfl) (fun _ _ _ h => h) (Or.inl ⟨by rfl, ?_⟩) (by assumption) ?_
  rotate_left
  · (intro w hSw; (try dsimp only at hSw); obtain ⟨k2, k3, kz, kb⟩ := hSw; have kc0 := blk_cell kz 0; have kc1 := blk_cell kz 1; have kf0 := blk_free kz 0; have kf1 := blk_free kz 1; have kl := blk_lt kz; (go_simp <;> with_reducible rfl))
  try simp only [Act.put, List.setIfInBounds_toArray, List.set_cons_zero, List.set_cons_succ]
  refine AnyZ.takeU [13] (i := 2) (oi := ⟨some 8, _, _, _, _, _⟩) (v := ?_) rfl (by kernel_rfl) (by kernel_rfl) (by kernel_rfl) (by kernel_rfl) (by kernel_rfl) (by kernel_rfl) (fun _ _ _ h => h) (Or.inl ⟨by rfl, ?_⟩) (by assumption) ?_
  rotate_left
  · (intro w hSw; (try dsimp only at hSw); obtain ⟨k2, k3, kz, kb⟩ := hSw; have kc0 := blk_cell kz 0; have kc1 := blk_cell kz 1; have kf0 := blk_free kz 0; have kf1 := blk_free kz 1; have kl := blk_lt kz; (go_simp <;> with_reducible rfl))
  try simp only [Act.put, List.setIfInBounds_toArray, List.set_cons_zero, List.set_cons_succ]
  refine AnyZ.takeU [13] (i := 3) (oi := ⟨some 9, _, _, _, _, _⟩) (v := ?_) rfl (by kernel_rfl) (by kernel_rfl) (by kernel_rfl) (by kernel_rfl) (by kernel_rfl) (by kernel_rfl) (fun _ _ _ h => h) (Or.inl ⟨by rfl, ?_⟩) (by assumption) ?_
  rotate_left
  · (intro w hSw; (try dsimp only at hSw); obtain ⟨k2, k3, kz, kb⟩ := hSw; have kc0 := blk_cell kz 0; have kc1 := blk_cell kz 1; have kf0 := blk_free kz 0; have kf1 := blk_free kz 1; have kl := blk_lt kz; (go_simp <;> with_reducible rfl))
  try simp only [Act.put, List.setIfInBounds_toArray, List.set_cons_zero, List.set_cons_succ]
  refine AnyZ.takeU [13] (i := 4) (oi := ⟨some 10, _, _, _, _, _⟩) (v := ?_) rfl (by kernel_rfl) (by kernel_rfl) (by kernel_rfl) (by kernel_rfl) (by kernel_rfl) (by kernel_rfl) (fun _ _ _ h => h) (Or.inl ⟨by rfl, ?_⟩) (by assumption) ?_
  rotate_left
  · (intro w hSw; (try dsimp only at hSw); obtain ⟨k2, k3, kz, kb⟩ := hSw; have kc0 := blk_cell kz 0; have kc1 := blk_cell kz 1; have kf0 := blk_free kz 0; have kf1 := blk_free kz 1; have kl := blk_lt kz; (go_simp <;> with_reducible rfl))
  try simp only [Act.put, List.setIfInBounds_toArray, List.set_cons_zero, List.set_cons_succ]
  refine AnyZ.takeU [13] (i := 5) (oi := ⟨some 11, _, _, _, _, _⟩) (v := ?_) rfl (by kernel_rfl) (by kernel_rfl) (by kernel_rfl) (by kernel_rfl) (by kernel_rfl) (by kernel_rfl) (fun _ _ _ h => h) (Or.inl ⟨by rfl, ?_⟩) (by assumption) ?_
  rotate_left
  · (intro w hSw; (try dsimp only at hSw); obtain ⟨k2, k3, kz, kb⟩ := hSw; have kc0 := blk_cell kz 0; have kc1 := blk_cell kz 1; have kf0 := blk_free kz 0; have kf1 := blk_free kz 1; have kl := blk_lt kz; (go_simp <;> with_reducible rfl))
  try simp only [Act.put, List.setIfInBounds_toArray, List.set_cons_zero, List.set_cons_succ]
  refine AnyZ.takeU [13] (i := 6) (oi := ⟨some 12, _, _, _, _, _⟩) (v := ?_) rfl (by kernel_rfl) (by kernel_rfl) (by kernel_rfl) (by kernel_rfl) (by kernel_rfl) (by kernel_rfl) (fun _ _ _ h => h) (Or.inl ⟨by rfl, ?_⟩) (by assumption) ?_
  rotate_left
  · (intro w hSw; (try dsimp only at hSw); obtain ⟨k2, k3, kz, kb⟩ := hSw; have kc0 := blk_cell kz 0; have kc1 := blk_cell kz 1; have kf0 := blk_free kz 0; have kf1 := blk_free kz 1; have kl := blk_lt kz; (go_simp <;> with_reducible rfl))
  try simp only [Act.put, List.setIfInBounds_toArray, List.set_cons_zero, List.set_cons_succ]
  refine AnyZ.takeU [13] (i := 7) (oi := ⟨some 13, _, _, _, _, _⟩) (v := ?_) rfl (by kernel_rfl) (by kernel_rfl) (by kernel_rfl) (by kernel_rfl) (by kernel_rfl) (by kernel_rfl) (fun _ _ _ h => h) (Or.inl ⟨by rfl, ?_⟩) (by assumption) ?_
  rotate_left
  · (intro w hSw; (try dsimp only at hSw); obtain ⟨k2, k3, kz, kb⟩ := hSw; have kc0 := blk_cell kz 0; have kc1 := blk_cell kz 1; have kf0 := blk_free kz 0; have kf1 := blk_free kz 1; have kl := blk_lt kz; (go_simp <;> with_reducible rfl))
  try simp only [Act.put, List.setIfInBounds_toArray, List.set_cons_zero, List.set_cons_succ]
  refine AnyZ.takeU [13] (i := 8) (oi := ⟨some 14, _, _, _, _, _⟩) (v := ?_) rfl (by kernel_rfl) (by kernel_rfl) (by kernel_rfl) (by kernel_rfl) (by kernel_rfl) (by kernel_rfl) (fun _ _ _ h => h) (Or.inl ⟨by rfl, ?_⟩) (by assumption) ?_
  rotate_left
  · (intro w hSw; (try dsimp only at hSw); obtain ⟨k2, k3, kz, kb⟩ := hSw; have kc0 := blk_cell kz 0; have kc1 := blk_cell kz 1; have kf0 := blk_free kz 0; have kf1 := blk_free kz 1; have kl := blk_lt kz; (go_simp <;> with_reducible rfl))
  try simp only [Act.put, List.setIfInBounds_toArray, List.set_cons_zero, List.set_cons_succ]
  refine AnyZ.takeU [13] (i := 9) (oi := ⟨some 15, _, _, _, _, _⟩) (v := ?_) rfl (by kernel_rfl) (by kernel_rfl) (by kernel_rfl) (by kernel_rfl) (by kernel_rfl) (by kernel_rfl) (fun _ _ _ h => h) (Or.inl ⟨by rfl, ?_⟩) (by assumption) ?_
  rotate_left
  · (intro w hSw; (try dsimp only at hSw); obtain ⟨k2, k3, kz, kb⟩ := hSw; have kc0 := blk_cell kz 0; have kc1 := blk_cell kz 1; have kf0 := blk_free kz 0; have kf1 := blk_free kz 1; have kl := blk_lt kz; (go_simp <;> with_reducible rfl))
  try simp only [Act.put, List.setIfInBounds_toArray, List.set_cons_zero, List.set_cons_succ]
  refine AnyZ.takeU [13] (i := 10) (oi := ⟨some 16, _, _, _, _, _⟩) (v := ?_) rfl (by kernel_rfl) (by kernel_rfl) (by kernel_rfl) (by kernel_rfl) (by kernel_rfl) (by kernel_rfl) (fun _ _ _ h => h) (Or.inl ⟨by rfl, ?_⟩) (by assumption) ?_
  rotate_left
  · (intro w hSw; (try dsimp only at hSw); obtain ⟨k2, k3, kz, kb⟩ := hSw; have kc0 := blk_cell kz 0; have kc1 := blk_cell kz 1; have kf0 := blk_free kz 0; have kf1 := blk_free kz 1; have kl := blk_lt kz; (go_simp <;> with_reducible rfl))
  try simp only [Act.put, List.setIfInBounds_toArray, List.set_cons_zero, List.set_cons_succ]
  refine AnyZ.takeU [13] (i := 11) (oi := ⟨some 17, _, _, _, _, _⟩) (v := ?_) rfl (by kernel_rfl) (by kernel_rfl) (by kernel_rfl) (by kernel_rfl) (by kernel_rfl) (by kernel_rfl) (fun _ _ _ h => h) (Or.inl ⟨by rfl, ?_⟩) (by assumption) ?_
  rotate_left
  · (intro w hSw; (try dsimp only at hSw); obtain ⟨k2, k3, kz, kb⟩ := hSw; have kc0 := blk_cell kz 0; have kc1 := blk_cell kz 1; have kf0 := blk_free kz 0; have kf1 := blk_free kz 1; have kl := blk_lt kz; (go_simp <;> with_reducible rfl))
  try simp only [Act.put, List.setIfInBounds_toArray, List.set_cons_zero, List.set_cons_succ]
  refine AnyZ.takeU [13] (i := 12) (oi := ⟨some 18, _, _, _, _, _⟩) (v := ?_) rfl (by kernel_rfl) (by kernel_rfl) (by kernel_rfl) (by kernel_rfl) (by kernel_rfl) (by kernel_rfl) (fun _ _ _ h => h) (Or.inl ⟨by rfl, ?_⟩) (by assumption) ?_
  rotate_left
  · (intro w hSw; (try dsimp only at hSw); obtain ⟨k2, k3, kz, kb⟩ := hSw; have kc0 := blk_cell kz 0; have kc1 := blk_cell kz 1; have kf0 := blk_free kz 0; have kf1 := blk_free kz 1; have kl := blk_lt kz; (go_simp <;> with_reducible rfl))
  try simp only [Act.put, List.setIfInBounds_toArray, List.set_cons_zero, List.set_cons_succ]
  obtain ⟨k2, k3, kz, kb⟩ := hS0
  have kc0 := blk_cell kz 0
  have kc1 := blk_cell kz 1
  have kf0 := blk_free kz 0
  have kf1 := blk_free kz 1
  have kl := blk_lt kz
  refine AnyZ.one (i := 13) (by kernel_rfl) rfl (fun K hK => ?_)
  go_simp
  refine hK.out _ _ (.inl rfl) ?_
  clear hK K
  try simp only [Act.put, List.setIfInBounds_toArray, List.set_cons_zero, List.set_cons_succ]
  refine AnyZ.done (by kernel_rfl) ?_ _
  refine NoPanic.normal ?_
  have ws : IntKind.i64.wrap P.s.start = P.s.start := wrapI (by omega)
  have wp : IntKind.i64.wrap P.s.pages = P.s.pages := wrapI (by omega)
  rw [ws, wp]
  have hz := blk_set' (blk_set' kz 0 (.int .i64 P.s.start) rfl) 1 (.int .i64 P.s.pages) rfl
  have hbz := bl_set (bl_set kb (Nat.le_refl _) (i := 0) (.int .i64 P.s.start)) (Nat.le_refl _) (i := 1) (.int .i64 P.s.pages)
  clear k2 k3 kz kb kc0 kc1 kf0 kf1 kl
  go_wp2
  refine ret_row #[.int .i64 P.s.start, .int .i64 P.s.pages] (g := w.heap.size) (by rfl) (by rfl) Tryz.underlying160 (by rfl) rfl (by kernel_rfl) (rowOf_blk hz) ?_
  exact ⟨rfl, hbz⟩
end
end Go.Proofs.YtikgplhcadomcaaGreat

namespace Go.Proofs.YtikgplhcadomcaaGreat
open Go.RowKit
set_option linter.unusedVariables false
set_option linter.unusedSimpArgs false

section
variable {w w3 w4 W1 : World} {p g r : Nat} {F : Nat → Prop} {D : Dv} {P : Pg}
/-- Behind what a call made: stores into a block of the caller's own. -/
theorem PgDid.box (k : PgDid F W1 w3 p g D P) (hF : ∀ i, F i → i < w.heap.size) (hb : Below w.heap.size w W1) (hr0 : w.heap.size ≤ r) (hr1 : r < W1.heap.size) (hc : Chg (fun i => i = r) w3 w4) : PgDid F w w4 p g D P := by
  obtain ⟨F', h, c, s⟩ := k
  have hn : ∀ i, F' i → ¬ i = r := fun i hi e => by
    subst e
    rcases s i hi with q | q
    · have := hF i q; omega
    · omega
  refine ⟨F', h.chg hc hn, ((Below.chg hb F).trans c (fun i _ q => q)).trans hc (fun i hi e => by omega), fun i hi => (s i hi).imp_right (fun q => by have := hb.size; omega)⟩
/-- A block of the caller's own stays. -/
theorem PgDid.keep (k : PgDid F W1 w3 p g D P) {o : Obj} (h : W1.heap[r]? = some o) (hr : ¬ F r) : w3.heap[r]? = some o := by
  obtain ⟨F', _, c, _⟩ := k
  exact c.blk h hr
theorem PgDid.plt (k : PgDid F W1 w3 p g D P) : p < w3.heap.size := by
  obtain ⟨F', h, c, s⟩ := k
  exact h.plt
theorem row2 {W : World} {r : Nat} {a b : Value} {t : TypeId} (h : W.heap[r]? = some (.cells #[a, b] t (0, 0))) (x y : Value) : ((W.setCell ⟨r, 0, none⟩ x).setCell ⟨r, 1, none⟩ y).heap[r]? = some (.cells #[x, y] t (0, 0)) := blk_set' (blk_set' h 0 x rfl) 1 y rfl
theorem chg_row2 (W : World) (r : Nat) (x y : Value) : Chg (fun i => i = r) W ((W.setCell ⟨r, 0, none⟩ x).setCell ⟨r, 1, none⟩ y) := (Chg.set (F := fun i => i = r) W x rfl).trans (Chg.set (F := fun i => i = r) _ y rfl) (fun _ _ h => h)
end
section
variable {w : World} {p g : Nat} {F : Nat → Prop} {D : Dv} {P : Pg}
def LayR (F : Nat → Prop) (w w' : World) (p g : Nat) (R : (Span × Int) × Dv × Pg) (e : Ending) : Prop := e = .returned (.tuple #[.agg #[.int .i64 R.1.1.start, .int .i64 R.1.1.pages], .int .i64 R.1.2]) ∧ PgDid F w w' p g R.2.1 R.2.2
set_option maxRecDepth 100000 in
set_option maxHeartbeats 2000000 in
theorem lay_calls (h : PgAt w p g F D P) (A : Option Addr) (c : Nat) (b : List Int) (hcap : b.length ≤ c) (hbl : b.length ≤ 1000000) (hbb : byteL b) (hr : Rd by1 1 w A b) (hA : b ≠ [] → ∀ a, A = some a → ¬ F a.block) (hcl : D.cache.length ≤ 1000000000) :
    Calls Tryz.prog 132 #[.pointer (some ⟨p, 0, none⟩), .slice A b.length c] w fun e w' => LayR F w w' p g (layR D P b) e := by
  obtain ⟨W1, hW1⟩ : ∃ W, w.alloc (.cells #[.int .i64 0, .int .i64 0] 160) = W := ⟨_, rfl⟩
  have hb1 : Below w.heap.size w W1 := by rw [← hW1]; exact bl_alloc (Below.refl _ w) _
  have hz1 : W1.heap[w.heap.size]? = some (.cells #[.int .i64 0, .int .i64 0] 160 (0, 0)) := by rw [← hW1]; exact blk_new w _
  have PA := Lib.hid (h.below hb1)
  have HB1 := Lib.hid hb1
  have HFl := Lib.hid h.lt
  have HR1 := Lib.hid (hr.below hb1 (Nat.le_refl _))
  have HN := Lib.hid hA
  have HBB := Lib.hid hbb
  have hrF : Hid (¬ F w.heap.size) := fun q => by have := h.lt _ q; omega
  have hrl : w.heap.size < W1.heap.size := blk_lt hz1
  have HRl : Hid (b ≠ [] → ∀ a, A = some a → a.block < w.heap.size) := fun hne a ha => by
    rcases hr with q | ⟨bb, off, rfl, hlt, _⟩
    · exact absurd q hne
    · cases ha; exact hlt
  obtain ⟨r, hre⟩ : ∃ r, w.heap.size = r := ⟨_, rfl⟩
  have fin : Hid (∀ (w3 : World) (D3 : Dv) (P3 : Pg) (x y : Int), PgDid F W1 w3 p g D3 P3 → ((w3.setCell ⟨r, 0, none⟩ (.int .i64 x)).setCell ⟨r, 1, none⟩ (.int .i64 y)).heap[r]? = some (.cells #[.int .i64 x, .int .i64 y] 160 (0, 0)) ∧ PgDid F w ((w3.setCell ⟨r, 0, none⟩ (.int .i64 x)).setCell ⟨r, 1, none⟩ (.int .i64 y)) p g D3 P3) := fun w3 D3 P3 x y k => by
    subst hre
    exact ⟨row2 (k.keep hz1 hrF.out) _ _, k.box HFl.out HB1.out (Nat.le_refl _) hrl (chg_row2 _ _ _ _)⟩
  have fin0 : Hid (∀ (w3 : World) (D3 : Dv) (P3 : Pg), PgDid F W1 w3 p g D3 P3 → w3.heap[r]? = some (.cells #[.int .i64 0, .int .i64 0] 160 (0, 0))) := fun w3 D3 P3 k => by
    subst hre
    exact k.keep hz1 hrF.out
  rw [hre] at hz1 hrl
  have z0 := blk_cell hz1 0
  have z1 := blk_cell hz1 1
  have f0 := blk_free hz1 0
  have f1 := blk_free hz1 1
  by_cases hz : needP b.length = 0
  · have hv : Hid (layR D P b = ((span0, 2), D, P)) := by show _ = _; unfold layR; simp only [if_pos hz]
    have hf := Lib.hid (fin.out W1 D P 0 0 (PgDid.refl PA.out))
    clear h hb1 hz1 hr hA hbb
    go_enter Tryz.func132, Tryz.ntmps132
    go_wp2_with fail
    refine (need_calls _ (b.length : Int) (by omega) (by omega)).mono ?_
    rintro e w1 ⟨rfl, rfl⟩
    rw [hz]
    clear hz
    go_wp2
    refine ret_row_tmp #[.int .i64 0, .int .i64 0] (g := r) (by rfl) (by rfl) Tryz.underlying160 (by rfl) rfl (by kernel_rfl) (rowOf_blk hf.out.1) ?_
    exact ⟨by rw [hv.out]; rfl, by rw [hv.out]; exact hf.out.2⟩
  obtain ⟨n, hn, hn1, hn2, -⟩ := need_pos hz
  have hlay : Hid (layR D P b = if (P.fr.take n).1.2 = false then ((span0, 70), D, P) else if (writeT D (P.fr.take n).1.1 b).1 ≠ 0 then ((span0, 40), (writeT D (P.fr.take n).1.1 b).2, { P with fr := (P.fr.take n).2, ended := true }) else ((⟨(P.fr.take n).1.1, n⟩, 0), (writeT D (P.fr.take n).1.1 b).2, { P with fr := (P.fr.take n).2 })) := by
    show _ = _
    unfold layR
    simp only [if_neg hz]
    rw [hn]
  have hnz : ((n : Int) == 0) = false := by rw [beq_eq_false_iff_ne]; omega
  obtain ⟨f, Ap, Ad, ap, ad, FD, FF, c0, c1, c2, c3, c4, c5, c6, c7, c8, fz, hd, hf, -, -, hs, -, dD, dF⟩ := PA.out.open
  have HT := Lib.hid (take_calls hf (n : Int))
  have DF := Lib.hid dF
  have hbig := h.frok.n1
  have htk := Lib.hid (fun hy => Fr.take_yes h.frok (n := (n : Int)) hy)
  have htn := Lib.hid (fun hy => (Fr.take_no h.frok (n := (n : Int)) hy).1)
  have hlo := h.frok.lo0
  have hpl1 := PA.out.plt
  have HS := Lib.hid (h.sok)
  have hFr := Lib.hid (h.lt)
  clear c0 c1 c2 c3 c4 c6 c7 c8 hd hf hs dD dF h hb1 hr hA hbb
  go_enter Tryz.func132, Tryz.ntmps132
  go_wp2_with fail
  refine (need_calls _ (b.length : Int) (by omega) (by omega)).mono ?_
  rintro e w1 ⟨rfl, rfl⟩
  rw [hn]
  clear hz hn
  go_wp2_with fail
  refine HT.out.mono ?_
  rintro e w2 ⟨rfl, hd2⟩
  have K2 := Lib.hid (DF.out _ _ hd2)
  clear hd2 HT DF fz c5
  generalize P.fr.take n = T at *
  obtain ⟨⟨st, ok⟩, fr2⟩ := T
  simp only at hlay htk htn K2 ⊢
  cases ok
  · have hfr : fr2 = P.fr := by have := htn.out (by simp); exact congrArg Prod.snd this
    subst hfr
    have hv : Hid (layR D P b = ((span0, 70), D, P)) := by show _ = _; rw [hlay.out]; rfl
    have hf := Lib.hid (fin.out w2 D P 0 0 K2.out)
    have y0 := blk_cell (fin0.out _ _ _ K2.out) 0
    have y1 := blk_cell (fin0.out _ _ _ K2.out) 1
    have g0 := blk_free (fin0.out _ _ _ K2.out) 0
    have g1 := blk_free (fin0.out _ _ _ K2.out) 1
    have hl2 := blk_lt (fin0.out _ _ _ K2.out)
    clear hlay htk htn hz1 z0 z1 f0 f1
    go_wp2
    refine ret_row_tmp #[.int .i64 0, .int .i64 0] (g := r) (by rfl) (by rfl) Tryz.underlying160 (by rfl) rfl (by kernel_rfl) (rowOf_blk hf.out.1) ?_
    exact ⟨by rw [hv.out]; rfl, by rw [hv.out]; exact hf.out.2⟩
  · have hlay2 : Hid (layR D P b = if (writeT D st b).1 ≠ 0 then ((span0, 40), (writeT D st b).2, { P with fr := fr2, ended := true }) else ((⟨st, n⟩, 0), (writeT D st b).2, { P with fr := fr2 })) := by show _ = _; rw [hlay.out]; rfl
    have ht := (htk.out rfl).2.1
    simp only [Fr.there, decide_eq_true_eq] at ht
    obtain ⟨F2, P2, ch2, s2⟩ := K2.out
    obtain ⟨f2, Ap2, Ad2, ap2, ad2, FD2, FF2, c0, c1, c2, c3, c4, c5, c6, c7, c8, fz, hd2, hf2, -, -, hs2, -, dD2, -⟩ := P2.open
    have HW := Lib.hid (pgWrite_calls hd2 st (by omega) (by omega) A c b hcap hbl HBB.out (by
      by_cases hbe : b = []
      · exact .inl hbe
      · exact HR1.out.chg ch2 (HN.out hbe)) (fun hne a ha hf => by
      rcases s2 _ (hs2.fd _ hf).1 with q | q
      · exact HN.out hne a ha q
      · have := HRl.out hne a ha; have := HB1.out.size; omega) hcl)
    have DD := Lib.hid dD2
    have C2 := Lib.hid ch2
    have S2 := Lib.hid s2
    clear c1 c2 c3 c4 c5 c6 c7 c8 hd2 hf2 hs2 dD2 P2 ch2 s2 fz htk htn hlay HR1 HN ht
    go_wp2_with fail
    refine HW.out.mono ?_
    rintro e w3 ⟨rfl, hd3⟩
    have K3 := Lib.hid ((DD.out _ _ hd3).after C2.out S2.out)
    have L3 := K3.out.plt
    clear hd3 HW DD c0
    generalize writeT D st b = T at *
    obtain ⟨er, D3⟩ := T
    simp only at hlay2 K3 ⊢
    by_cases her : er = 0
    · subst her
      have hv : Hid (layR D P b = ((⟨st, n⟩, 0), D3, { P with fr := fr2 })) := by show _ = _; rw [hlay2.out]; rfl
      have hf := Lib.hid (fin.out w3 D3 _ st n K3.out)
      have y0 := blk_cell (fin0.out _ _ _ K3.out) 0
      have y1 := blk_cell (fin0.out _ _ _ K3.out) 1
      have g0 := blk_free (fin0.out _ _ _ K3.out) 0
      have g1 := blk_free (fin0.out _ _ _ K3.out) 1
      have hl2 := blk_lt (fin0.out _ _ _ K3.out)
      clear hlay2 hz1 z0 z1 f0 f1
      go_wp2
      refine ret_row_tmp #[.int .i64 st, .int .i64 n] (g := r) (by rfl) (by rfl) Tryz.underlying160 (by rfl) rfl (by kernel_rfl) (rowOf_blk hf.out.1) ?_
      exact ⟨by rw [hv.out]; rfl, by rw [hv.out]; exact hf.out.2⟩
    · have hv : Hid (layR D P b = ((span0, 40), D3, { P with fr := fr2, ended := true })) := by show _ = _; rw [hlay2.out, if_pos her]
      have heb : (er != 0) = true := by simpa using her
      obtain ⟨F3, P3, ch3, s3⟩ := K3.out
      have K4 : Hid (PgDid F W1 (w3.setCell ⟨p, 8, none⟩ (.bool true)) p g D3 { P with fr := fr2, ended := true }) := by
        refine PgDid.after (P3.flat (grown_set w3 p 8 _) rfl HS.out (fun f vp vd h0 => .inl ⟨rfl, rfl, ?_⟩)) ch3 s3
        exact blk_set' h0 8 (.bool true) rfl
      obtain ⟨f3, Ap3, Ad3, ap3, ad3, FD3, FF3, -, -, -, -, -, -, -, -, c8, fz, -, -, -, -, -, -, -, -⟩ := P3.open
      have fz8 := fz 8
      have hf := Lib.hid (fin.out _ D3 _ 0 0 K4.out)
      have y0 := blk_cell (fin0.out _ _ _ K4.out) 0
      have y1 := blk_cell (fin0.out _ _ _ K4.out) 1
      have g0 := blk_free (fin0.out _ _ _ K4.out) 0
      have g1 := blk_free (fin0.out _ _ _ K4.out) 1
      have hl2 := blk_lt (fin0.out _ _ _ K4.out)
      clear hlay2 hz1 z0 z1 f0 f1 her P3 ch3 s3 fz
      go_wp2
      refine ret_row_tmp #[.int .i64 0, .int .i64 0] (g := r) (by rfl) (by rfl) Tryz.underlying160 (by rfl) rfl (by kernel_rfl) (rowOf_blk hf.out.1) ?_
      exact ⟨by rw [hv.out]; rfl, by rw [hv.out]; exact hf.out.2⟩
end
end Go.Proofs.YtikgplhcadomcaaGreat

namespace Go.Proofs.YtikgplhcadomcaaGreat
open Go.RowKit
set_option linter.unusedVariables false
set_option linter.unusedSimpArgs false

theorem layR_put (D : Dv) (P : Pg) (b : List Int) : (layR D P b).2.2.put = P.put ∧ (layR D P b).2.2.drop = P.drop ∧ (layR D P b).2.2.s = P.s := by
  unfold layR
  dsimp only
  split
  · exact ⟨rfl, rfl, rfl⟩
  · split
    · exact ⟨rfl, rfl, rfl⟩
    · split <;> exact ⟨rfl, rfl, rfl⟩
def PutS (p t : Nat) (v : Value) (sp : Span) (W : World) : Prop := W.cell? ⟨p, 6, none⟩ = some v ∧ W.heap[t]? = some (.cells #[.int .i64 sp.start, .int .i64 sp.pages] 160 (0, 0))
section
variable {w : World} {p g : Nat} {F : Nat → Prop} {D : Dv} {P : Pg}
set_option maxRecDepth 100000 in
set_option maxHeartbeats 2000000 in
theorem pgPut_calls (h : PgAt w p g F D P) (A : Option Addr) (c : Nat) (b : List Int) (hcap : b.length ≤ c) (hbl : b.length ≤ 1000000) (hbb : byteL b) (hr : Rd by1 1 w A b) (hA : b ≠ [] → ∀ a, A = some a → ¬ F a.block) (hcl : D.cache.length ≤ 1000000000) (hput : P.put.length ≤ 1000000) :
    Calls Tryz.prog 88 #[.pointer (some ⟨p, 0, none⟩), .slice A b.length c] w fun e w' => LayR F w w' p g (putR D P b) e := by
  obtain ⟨W1, hW1⟩ : ∃ W, w.alloc (.cells #[.int .i64 0, .int .i64 0] 160) = W := ⟨_, rfl⟩
  have hb1 : Below w.heap.size w W1 := by rw [← hW1]; exact bl_alloc (Below.refl _ w) _
  have hz1 : W1.heap[w.heap.size]? = some (.cells #[.int .i64 0, .int .i64 0] 160 (0, 0)) := by rw [← hW1]; exact blk_new w _
  have PA := Lib.hid (h.below hb1)
  have hpo := Lib.hid (pok_calls (h.below hb1))
  have HL := Lib.hid (lay_calls (h.below hb1) A c b hcap hbl hbb (hr.below hb1 (Nat.le_refl _)) hA hcl)
  have hrF : Hid (¬ F w.heap.size) := fun q => by have := h.lt _ q; omega
  have HFl := Lib.hid h.lt
  have HB1 := Lib.hid hb1
  have hrl : w.heap.size < W1.heap.size := blk_lt hz1
  obtain ⟨r, hre⟩ : ∃ r, w.heap.size = r := ⟨_, rfl⟩
  have fin : Hid (∀ (w3 : World) (D3 : Dv) (P3 : Pg) (x y : Int), PgDid F W1 w3 p g D3 P3 → ((w3.setCell ⟨r, 0, none⟩ (.int .i64 x)).setCell ⟨r, 1, none⟩ (.int .i64 y)).heap[r]? = some (.cells #[.int .i64 x, .int .i64 y] 160 (0, 0)) ∧ PgDid F w ((w3.setCell ⟨r, 0, none⟩ (.int .i64 x)).setCell ⟨r, 1, none⟩ (.int .i64 y)) p g D3 P3) := fun w3 D3 P3 x y k => by
    subst hre
    exact ⟨row2 (k.keep hz1 hrF.out) _ _, k.box HFl.out HB1.out (Nat.le_refl _) hrl (chg_row2 _ _ _ _)⟩
  have fin0 : Hid (∀ (w3 : World) (D3 : Dv) (P3 : Pg), PgDid F W1 w3 p g D3 P3 → w3.heap[r]? = some (.cells #[.int .i64 0, .int .i64 0] 160 (0, 0))) := fun w3 D3 P3 k => by
    subst hre
    exact k.keep hz1 hrF.out
  rw [hre] at hz1 hrl
  have z0 := blk_cell hz1 0
  have z1 := blk_cell hz1 1
  have f0 := blk_free hz1 0
  have f1 := blk_free hz1 1
  clear h hb1 hz1 hr hA hbb
  have hv0 : Hid (putR D P b = if P.ended then ((span0, 40), D, P) else if (layR D P b).1.2 = 0 then ((layR D P b).1, (layR D P b).2.1, { (layR D P b).2.2 with put := (layR D P b).2.2.put ++ [(layR D P b).1.1] }) else layR D P b) := rfl
  rcases he : P.ended with _ | _
  case' true =>
    have hv : Hid (putR D P b = ((span0, 40), D, P)) := by show _ = _; rw [hv0.out, if_pos he]
    rw [he] at hpo
    have hf := Lib.hid (fin.out W1 D P 0 0 (PgDid.refl PA.out))
    go_enter Tryz.func88, Tryz.ntmps88
    go_wp2_with fail
    refine hpo.out.mono ?_
    rintro e w1 ⟨rfl, rfl⟩
    go_wp2
    refine ret_row_tmp #[.int .i64 0, .int .i64 0] (g := r) (by rfl) (by rfl) Tryz.underlying160 (by rfl) rfl (by kernel_rfl) (rowOf_blk hf.out.1) ?_
    exact ⟨by rw [hv.out]; rfl, by rw [hv.out]; exact hf.out.2⟩
  have hv1 : Hid (putR D P b = if (layR D P b).1.2 = 0 then ((layR D P b).1, (layR D P b).2.1, { (layR D P b).2.2 with put := (layR D P b).2.2.put ++ [(layR D P b).1.1] }) else layR D P b) := by show _ = _; rw [hv0.out, he]; rfl
  rw [he] at hpo
  have hlp := Lib.hid (layR_put D P b).1
  clear hv0 he
  go_enter Tryz.func88, Tryz.ntmps88
  go_wp2_with fail
  refine hpo.out.mono ?_
  rintro e w1 ⟨rfl, rfl⟩
  go_wp2_with fail
  refine HL.out.mono ?_
  rintro e w2 ⟨rfl, k2⟩
  generalize layR D P b = R at *
  obtain ⟨⟨⟨st, pgs⟩, er⟩, D2, P2⟩ := R
  simp only at hv1 k2 hlp ⊢
  have K2 := Lib.hid k2
  clear k2 HL hpo
  have K3 := Lib.hid (K2.out.then_below (bl_alloc (Below.refl _ w2) (.cells #[.int .i64 st, .int .i64 pgs] 160)))
  have ht3 := blk_new w2 (.cells #[.int .i64 st, .int .i64 pgs] 160)
  obtain ⟨W2, hW2⟩ : ∃ W, w2.alloc (.cells #[.int .i64 st, .int .i64 pgs] 160) = W := ⟨_, rfl⟩
  rw [hW2] at K3 ht3
  obtain ⟨t, ht⟩ : ∃ t, w2.heap.size = t := ⟨_, rfl⟩
  rw [ht] at ht3
  by_cases her : er = 0
  case' neg =>
    have hv : Hid (putR D P b = ((⟨st, pgs⟩, er), D2, P2)) := by show _ = _; rw [hv1.out, if_neg her]
    have heb : (er == 0) = false := by rw [beq_eq_false_iff_ne]; exact her
    have hf := Lib.hid (fin.out W2 D2 P2 st pgs K3.out)
    have y0 := blk_cell (fin0.out _ _ _ K3.out) 0
    have y1 := blk_cell (fin0.out _ _ _ K3.out) 1
    have g0 := blk_free (fin0.out _ _ _ K3.out) 0
    have g1 := blk_free (fin0.out _ _ _ K3.out) 1
    have hl2 := blk_lt (fin0.out _ _ _ K3.out)
    have x0 := blk_cell ht3 0
    have x1 := blk_cell ht3 1
    have xl := blk_lt ht3
    clear hv1 z0 z1 f0 f1 ht3
    go_wp2
    refine ret_row_tmp #[.int .i64 st, .int .i64 pgs] (g := r) (by rfl) (by rfl) Tryz.underlying160 (by rfl) rfl (by kernel_rfl) (rowOf_blk hf.out.1) ?_
    exact ⟨by rw [hv.out]; rfl, by rw [hv.out]; exact hf.out.2⟩
  · subst her
    have hv : Hid (putR D P b = ((⟨st, pgs⟩, 0), D2, { P2 with put := P2.put ++ [⟨st, pgs⟩] })) := by show _ = _; rw [hv1.out]; rfl
    obtain ⟨F2, PA2', ch2', s2⟩ := K2.out
    have hb02 : Below w2.heap.size w2 W2 := by rw [← hW2]; exact bl_alloc (Below.refl _ w2) _
    have PA2 := PA2'.below hb02
    have ch2 : Chg F W1 W2 := ch2'.trans (Below.chg hb02 F) (fun i _ hi => hi)
    obtain ⟨W3, hW3⟩ : ∃ W, W2.drew = W := ⟨_, rfl⟩
    have hb23 : Below W2.heap.size W2 W3 := by rw [← hW3]; exact (Below.refl _ _).drew
    have PA3 := PA2.below hb23
    have ht3' : W3.heap[t]? = some (.cells #[.int .i64 st, .int .i64 pgs] 160 (0, 0)) := blk_below hb23 ht3 (blk_lt ht3)
    have htF : Hid (¬ F2 t) := fun q => by have := PA2'.lt t q; omega
    obtain ⟨f6, A6, B6, a6, d6, FD6, FF6, -, -, -, -, -, -, c6, -, -, fz6, -, -, op6, -, hs6, hc6, -, -⟩ := PA3.open
    have hown : ∀ k, (Value.slice A6 P2.put.length a6).ownBlock = some k → k ≠ p ∧ k ≠ t := fun k hk => ⟨(hs6.vp k hk).2.2.2.1, fun e => htF.out (e ▸ (hs6.vp k hk).1)⟩
    obtain ⟨W5, hW5⟩ : ∃ W, W3.alloc (.cells #[.int .i64 st, .int .i64 pgs] 160) = W := ⟨_, rfl⟩
    have hb35 : Below W3.heap.size W3 W5 := by rw [← hW5]; exact bl_alloc (Below.refl _ W3) _
    have PA5 := PA3.below hb35
    have hc5 := blk_below hb35 hc6 PA3.plt
    have ht5 := blk_below hb35 ht3' (blk_lt ht3')
    have hS0 : PutS p t (.slice A6 P2.put.length a6) ⟨st, pgs⟩ W3 := ⟨c6, ht3'⟩
    have hS5 : PutS p t (.slice A6 P2.put.length a6) ⟨st, pgs⟩ W5 := ⟨(hb35.cell PA3.plt).trans c6, ht5⟩
    have HO5 := Lib.hid (op6.below hb35)
    have HR5 : Hid (Rd Span.enc 2 W5 (some ⟨W3.heap.size, 0, none⟩) [(⟨st, pgs⟩ : Span)]) := by rw [← hW5]; exact Rd.lit (blk_new _ _) rfl
    have l1 : Hid ((P2.put.length + 1) * 16 ≤ 140737488355328) := by show _ ≤ _; rw [hlp.out]; omega
    have l2 : Hid (P2.put.length + 1 ≤ 140737488355328) := by show _ ≤ _; rw [hlp.out]; omega
    have nn : Hid ([(⟨st, pgs⟩ : Span)] ≠ []) := by show _ ≠ _; simp
    have t1 : Hid ((Value.agg #[.int .i64 0, .int .i64 0]).cells.size = 2) := rfl
    have HS7 : Hid (∀ w7, W5.grownBy w7 (Value.slice A6 P2.put.length a6).ownBlock → PutS p t (.slice A6 P2.put.length a6) ⟨st, pgs⟩ w7) := fun w7 hg => by
      have e1 := hg.block p (blk_lt hc5) (fun e => (hown p e.symm).1 rfl)
      have e2 := hg.block t (blk_lt ht5) (fun e => (hown t e.symm).2 rfl)
      exact ⟨(World.cell?_of_block e1).trans hS5.1, e2.trans ht5⟩
    have HF7 : Hid (∀ w7, W5.grownBy w7 (Value.slice A6 P2.put.length a6).ownBlock → w7.frozen? ⟨p, 6, none⟩ = false ∧ p < w7.heap.size) := fun w7 hg => by
      have e1 := hg.block p (blk_lt hc5) (fun e => (hown p e.symm).1 rfl)
      exact ⟨(World.frozen?_of_block e1).trans (blk_free hc5 6), Nat.lt_of_lt_of_le (blk_lt hc5) hg.size⟩
    have HD7 : Hid (∀ w7 v, OwnS w7 v (P2.put ++ [⟨st, pgs⟩]) → W5.grownBy w7 (Value.slice A6 P2.put.length a6).ownBlock → (∀ k, v.ownBlock = some k → (Value.slice A6 P2.put.length a6).ownBlock = some k ∨ W5.heap.size ≤ k) → PgDid F W1 (w7.setCell ⟨p, 6, none⟩ v) p g D2 { P2 with put := P2.put ++ [⟨st, pgs⟩] }) := fun w7 v ho hg hv =>
      ((PA5.puts hc5 hg ho hv).behind (bl_then hb23 hb23.size hb35) (fun i hi => hi)).after ch2 s2
    obtain ⟨sp, hsp⟩ : ∃ sp : Span, (⟨st, pgs⟩ : Span) = sp := ⟨_, rfl⟩
    have hs1 : st = sp.start := by rw [← hsp]
    have hs2 : pgs = sp.pages := by rw [← hsp]
    subst hs1 hs2
    have k60 := c6
    have y60 := blk_cell ht3' 0
    have y61 := blk_cell ht3' 1
    have hpt : p ≠ t := fun e => htF.out (e ▸ PA2.fp)
    clear hv1 PA3 PA2 PA2' PA5 op6 hs6 hc6 hown hc5 ht5 hb23 hb35 ht3 ch2 ch2' hb02 s2 c6 hsp fz6 z0 z1 f0 f1
    go_wp2
    refine wp_region_noPanic ?_
    refine wp_regionZ 10 (PutS p t (.slice A6 P2.put.length a6) sp) (by kernel_rfl) ?_
    rw [hW3]
    refine AnyZ.takeU [10] (i := 0) (oi := ⟨some 20, _, _, _, _, _⟩) (v := ?_) rfl (by kernel_rfl) (by kernel_rfl) (by kernel_rfl) (by kernel_rfl) (by kernel_rfl) (by kernel_rfl) (fun _ _ _ h => h) (Or.inl ⟨by rfl, ?_⟩) (by assumption) ?_
    rotate_left
    · (intro w hSw; (try dsimp only at hSw); obtain ⟨k6, kr⟩ := hSw; have kc0 := blk_cell kr 0; have kc1 := blk_cell kr 1; have klr := blk_lt kr; (go_simp <;> with_reducible rfl))
    try simp only [Act.put, List.setIfInBounds_toArray, List.set_cons_zero, List.set_cons_succ]
    refine AnyZ.takeU [10] (i := 1) (oi := ⟨some 21, _, _, _, _, _⟩) (v := ?_) rfl (by kernel_rfl) (by kernel_rfl) (by kernel_rfl) (by kernel_rfl) (by kernel_rfl) (by kernel_rfl) (fun _ _ _ h => h) (Or.inl ⟨by rfl, ?_⟩) (by assumption) ?_
    rotate_left
    · (intro w hSw; (try dsimp only at hSw); obtain ⟨k6, kr⟩ := hSw; have kc0 := blk_cell kr 0; have kc1 := blk_cell kr 1; have klr := blk_lt kr; (go_simp <;> with_reducible rfl))
    try simp only [Act.put, List.setIfInBounds_toArray, List.set_cons_zero, List.set_cons_succ]
    refine AnyZ.takeU [10] (i := 2) (oi := ⟨some 22, _, _, _, _, _⟩) (v := ?_) rfl (by kernel_rfl) (by kernel_rfl) (by kernel_rfl) (by kernel_rfl) (by kernel_rfl) (by kernel_rfl) (fun _ _ _ h => h) (Or.inl ⟨by rfl, ?_⟩) (by assumption) ?_
    rotate_left
    · (intro w hSw; (try dsimp only at hSw); obtain ⟨k6, kr⟩ := hSw; have kc0 := blk_cell kr 0; have kc1 := blk_cell kr 1; have klr := blk_lt kr; (go_simp <;> with_reducible rfl))
    try simp only [Act.put, List.setIfInBounds_toArray, List.set_cons_zero, List.set_cons_succ]
    refine AnyZ.takeU [10] (i := 3) (oi := ⟨some 23, _, _, _, _, _⟩) (v := ?_) rfl (by kernel_rfl) (by kernel_rfl) (by kernel_rfl) (by kernel_rfl) (by kernel_rfl) (by kernel_rfl) (fun _ _ _ h => h) (Or.inl ⟨by rfl, ?_⟩) (by assumption) ?_
    rotate_left
    · (intro w hSw; (try dsimp only at hSw); obtain ⟨k6, kr⟩ := hSw; have kc0 := blk_cell kr 0; have kc1 := blk_cell kr 1; have klr := blk_lt kr; (go_simp <;> with_reducible rfl))
    try simp only [Act.put, List.setIfInBounds_toArray, List.set_cons_zero, List.set_cons_succ]
    refine AnyZ.takeU [10] (i := 4) (oi := ⟨some 24, _, _, _, _, _⟩) (v := ?_) rfl (by kernel_rfl) (by kernel_rfl) (by kernel_rfl) (by kernel_rfl) (by kernel_rfl) (by kernel_rfl) (fun _ _ _ h => h) (Or.inl ⟨by rfl, ?_⟩) (by assumption) ?_
    rotate_left
    · (intro w hSw; (try dsimp only at hSw); obtain ⟨k6, kr⟩ := hSw; have kc0 := blk_cell kr 0; have kc1 := blk_cell kr 1; have klr := blk_lt kr; (go_simp <;> with_reducible rfl))
    try simp only [Act.put, List.setIfInBounds_toArray, List.set_cons_zero, List.set_cons_succ]
    refine AnyZ.takeU [10] (i := 5) (oi := ⟨some 25, _, _, _, _, _⟩) (v := ?_) rfl (by kernel_rfl) (by kernel_rfl) (by kernel_rfl) (by kernel_rfl) (by kernel_rfl) (by kernel_rfl) (fun _ _ _ h => h) (Or.inl ⟨by rfl, ?_⟩) (by assumption) ?_
    rotate_left
    · (intro w hSw; (try dsimp only at hSw); obtain ⟨k6, kr⟩ := hSw; have kc0 := blk_cell kr 0; have kc1 := blk_cell kr 1; have klr := blk_lt kr; (go_simp <;> with_reducible rfl))
    try simp only [Act.put, List.setIfInBounds_toArray, List.set_cons_zero, List.set_cons_succ]
    refine AnyZ.one (i := 6) (by kernel_rfl) rfl (fun K hK => ?_)
    clear k60 y60 y61
    go_simp
    refine hK.out _ _ (.inr (by assumption)) ?_
    clear hK K
    try simp only [Act.put, List.setIfInBounds_toArray, List.set_cons_zero, List.set_cons_succ]
    refine AnyZ.one (i := 7) (by kernel_rfl) rfl (fun K hK => ?_)
    refine at_step rfl (op_ownN Span.ok (.tmp 24) (.tmp 26) _ _ _ _ rfl Tryz.underlying90 infoSpan t1.out 0 (.slice A6 P2.put.length a6) P2.put (some ⟨W3.heap.size, 0, none⟩) 1 [sp] 1 rfl nn.out rfl rfl HO5.out HR5.out (Nat.zero_le _) l1.out l2.out ?_)
    intro g7 cap7 w7 ho7 hg7 hat7 hlt7
    have D7 := HD7.out w7 _ ho7 hg7 (fun k e => by cases e; exact hat7)
    have S7 := HS7.out w7 hg7
    have k76 := S7.1
    have f76 := HF7.out w7 hg7
    clear ho7 hg7 hat7 hlt7
    refine hK.out _ _ (.inr (by assumption)) ?_
    clear hK K
    try simp only [Act.put, List.setIfInBounds_toArray, List.set_cons_zero, List.set_cons_succ]
    refine AnyZ.takeU [10, 9] (i := 8) (oi := ⟨some 28, _, _, _, _, _⟩) (v := ?_) rfl (by kernel_rfl) (by kernel_rfl) (by kernel_rfl) (by kernel_rfl) (by kernel_rfl) (by kernel_rfl) (fun _ _ _ h => h) (Or.inl ⟨by rfl, ?_⟩) (by assumption) ?_
    rotate_left
    · (intro w hSw; (try dsimp only at hSw); obtain ⟨k6, kr⟩ := hSw; have kc0 := blk_cell kr 0; have kc1 := blk_cell kr 1; have klr := blk_lt kr; (go_simp <;> with_reducible rfl))
    try simp only [Act.put, List.setIfInBounds_toArray, List.set_cons_zero, List.set_cons_succ]
    refine AnyZ.takeU [10] (i := 9) (oi := ⟨some 29, _, _, _, _, _⟩) (v := ?_) rfl (by kernel_rfl) (by kernel_rfl) (by kernel_rfl) (by kernel_rfl) (by kernel_rfl) (by kernel_rfl) (fun _ _ _ h => h) (Or.inl ⟨by rfl, ?_⟩) (by assumption) ?_
    rotate_left
    · (intro w hSw; (try dsimp only at hSw); obtain ⟨k6, kr⟩ := hSw; have kc0 := blk_cell kr 0; have kc1 := blk_cell kr 1; have klr := blk_lt kr; (go_simp <;> with_reducible rfl))
    try simp only [Act.put, List.setIfInBounds_toArray, List.set_cons_zero, List.set_cons_succ]
    refine AnyZ.one (i := 10) (by kernel_rfl) rfl (fun K hK => ?_)
    go_simp
    refine hK.out _ _ (.inl rfl) ?_
    clear hK K
    try simp only [Act.put, List.setIfInBounds_toArray, List.set_cons_zero, List.set_cons_succ]
    refine AnyZ.done (by kernel_rfl) ?_ _
    refine NoPanic.normal ?_
    have K8 := Lib.hid D7
    obtain ⟨k86, k8t⟩ := S7
    have x8 := blk_far k8t (p := ⟨p, 6, none⟩) (fun e => hpt e.symm) (.slice (some ⟨g7, 0, none⟩) (P2.put.length + 1) cap7)
    have x0 := blk_cell x8 0
    have x1 := blk_cell x8 1
    have xl := blk_lt x8
    have hf := Lib.hid (fin.out _ D2 _ sp.start sp.pages K8.out)
    have y0 := blk_cell (fin0.out _ _ _ K8.out) 0
    have y1 := blk_cell (fin0.out _ _ _ K8.out) 1
    have g0 := blk_free (fin0.out _ _ _ K8.out) 0
    have g1 := blk_free (fin0.out _ _ _ K8.out) 1
    have hl2 := blk_lt (fin0.out _ _ _ K8.out)
    clear k86 k8t x8 D7 k76 f76 HS7 HF7 HD7
    go_wp2
    refine ret_row_tmp #[.int .i64 sp.start, .int .i64 sp.pages] (g := r) (by rfl) (by rfl) Tryz.underlying160 (by rfl) rfl (by kernel_rfl) (rowOf_blk hf.out.1) ?_
    exact ⟨by rw [hv.out]; rfl, by rw [hv.out]; exact hf.out.2⟩
end
end Go.Proofs.YtikgplhcadomcaaGreat

namespace Go.Proofs.YtikgplhcadomcaaGreat
open Go.RowKit
set_option linter.unusedVariables false
set_option linter.unusedSimpArgs false

def getR (D : Dv) (P : Pg) (s : Span) (size : Int) : List Int × Int := if P.ended then ([], 40) else if needP size = 0 ∨ needP size ≠ s.pages then ([], 1) else readT D s.start size
def GetS (p g q : Nat) (s : Span) (W : World) : Prop := W.cell? ⟨p, 0, none⟩ = some (.pointer (some ⟨g, 0, none⟩)) ∧ W.heap[q]? = some (.cells #[.int .i64 s.start, .int .i64 s.pages] 160 (0, 0))
section
variable {w : World} {p g : Nat} {F : Nat → Prop} {D : Dv} {P : Pg}
set_option maxRecDepth 100000 in
set_option maxHeartbeats 1000000 in
theorem pgGet_calls (h : PgAt w p g F D P) (s : Span) (size : Int) (hs0 : -500000 ≤ s.start) (hs1 : s.start ≤ 500000) (hz0 : -9223372036854775808 ≤ size) (hz1 : size ≤ 9223372036854775807) :
    Calls Tryz.prog 99 #[.pointer (some ⟨p, 0, none⟩), .agg #[.int .i64 s.start, .int .i64 s.pages], .int .i64 size] w fun e w' => ReadR w w' (getR D P s size).1 (getR D P s size).2 e := by
  obtain ⟨W1, hW1⟩ : ∃ W, w.alloc (.cells #[.int .i64 s.start, .int .i64 s.pages] 160) = W := ⟨_, rfl⟩
  have hb1 : Below w.heap.size w W1 := by rw [← hW1]; exact bl_alloc (Below.refl _ w) _
  have hz1' : W1.heap[w.heap.size]? = some (.cells #[.int .i64 s.start, .int .i64 s.pages] 160 (0, 0)) := by rw [← hW1]; exact blk_new w _
  have hpo := Lib.hid (pok_calls (h.below hb1))
  have hpl : p < W1.heap.size := (h.below hb1).plt
  obtain ⟨f, Ap, Ad, ap, ad, FD, FF, c0, -, -, -, -, -, -, -, -, -, hd, -, -, -, -, -, -, -⟩ := (h.below hb1).open
  obtain ⟨q, hq⟩ : ∃ q, w.heap.size = q := ⟨_, rfl⟩
  have hv0 : Hid (getR D P s size = if P.ended then ([], 40) else if needP size = 0 ∨ needP size ≠ s.pages then ([], 1) else readT D s.start size) := rfl
  have hS1 : GetS p g q s W1 := ⟨c0, by rw [← hq]; exact hz1'⟩
  have hS0 : GetS p g q s W1.drew := hS1
  have HR := Lib.hid (pgRead_calls (hd.drew) s.start size hs0 hs1 hz0 hz1)
  have HB := Lib.hid hb1
  have y0 := blk_cell hS1.2 0
  have y1 := blk_cell hS1.2 1
  have yl := blk_lt hS1.2
  clear hz1' hb1 c0 hd h
  rcases he : P.ended with _ | _
  case' true =>
    have hv : Hid (getR D P s size = ([], 40)) := by show _ = _; rw [hv0.out, if_pos he]
    rw [he] at hpo
    go_enter Tryz.func99, Tryz.ntmps99
    go_wp2_with fail
    refine hpo.out.mono ?_
    rintro e w1 ⟨rfl, rfl⟩
    go_wp2
    go_ret2
    rw [hv.out]
    exact ⟨none, 0, rfl, Nat.le_refl _, .inl rfl, (fun a ha => by cases ha), HB.out⟩
  have hv1 : Hid (getR D P s size = if needP size = 0 ∨ needP size ≠ s.pages then ([], 1) else readT D s.start size) := by show _ = _; rw [hv0.out, he]; rfl
  rw [he] at hpo
  clear hv0 he
  by_cases hn : needP size = 0
  case' pos =>
    have hv : Hid (getR D P s size = ([], 1)) := by show _ = _; rw [hv1.out, if_pos (.inl hn)]
    go_enter Tryz.func99, Tryz.ntmps99
    go_wp2_with fail
    refine hpo.out.mono ?_
    rintro e w1 ⟨rfl, rfl⟩
    go_wp2_with fail
    refine (need_calls _ size hz0 hz1).mono ?_
    rintro e w1 ⟨rfl, rfl⟩
    rw [hn]
    clear hn
    go_wp2
    go_ret2
    rw [hv.out]
    exact ⟨none, 0, rfl, Nat.le_refl _, .inl rfl, (fun a ha => by cases ha), HB.out⟩
  have hnb : (needP size == 0) = false := by rw [beq_eq_false_iff_ne]; exact hn
  by_cases hm : needP size ≠ s.pages
  case' pos =>
    have hv : Hid (getR D P s size = ([], 1)) := by show _ = _; rw [hv1.out, if_pos (.inr hm)]
    have hmb : (needP size != s.pages) = true := by simpa using hm
    clear hn hm
    go_enter Tryz.func99, Tryz.ntmps99
    go_wp2_with fail
    refine hpo.out.mono ?_
    rintro e w1 ⟨rfl, rfl⟩
    go_wp2_with fail
    refine (need_calls _ size hz0 hz1).mono ?_
    rintro e w1 ⟨rfl, rfl⟩
    go_wp2
    go_ret2
    rw [hv.out]
    exact ⟨none, 0, rfl, Nat.le_refl _, .inl rfl, (fun a ha => by cases ha), HB.out⟩
  have hm' : needP size = s.pages := by omega
  have hv : Hid (getR D P s size = readT D s.start size) := by show _ = _; rw [hv1.out, if_neg (by rintro (q | q); exact hn q; exact hm q)]
  have hmb : (needP size != s.pages) = false := by rw [hm']; simp
  clear hn hm hm' hv1
  go_enter Tryz.func99, Tryz.ntmps99
  go_wp2_with fail
  refine hpo.out.mono ?_
  rintro e w1 ⟨rfl, rfl⟩
  go_wp2_with fail
  refine (need_calls _ size hz0 hz1).mono ?_
  rintro e w1 ⟨rfl, rfl⟩
  go_wp2
  refine wp_region_noPanic ?_
  refine wp_region_held_drew (S := GetS p g q s) (by kernel_rfl) (hS0) (fun hHeld => ?_)
  refine wpAnyH_take (i := 0) (oi := ⟨some 22, _, _, _, _, _⟩) (v := ?_) rfl (by kernel_rfl) (by kernel_rfl) (by kernel_rfl) (fun _ _ _ h => h) (Or.inl ⟨by rfl, ?_⟩) (by assumption) ?_
  rotate_left
  · (intro w hSw; (try dsimp only at hSw); obtain ⟨k0, kr⟩ := hSw; have kc0 := blk_cell kr 0; have kc1 := blk_cell kr 1; have klr := blk_lt kr; (go_simp <;> with_reducible rfl))
  try simp only [Act.put, List.setIfInBounds_toArray, List.set_cons_zero, List.set_cons_succ]
  refine wpAnyH_take (i := 1) (oi := ⟨some 23, _, _, _, _, _⟩) (v := ?_) rfl (by kernel_rfl) (by kernel_rfl) (by kernel_rfl) (fun _ _ _ h => h) (Or.inl ⟨by rfl, ?_⟩) (by assumption) ?_
  rotate_left
  · (intro w hSw; (try dsimp only at hSw); obtain ⟨k0, kr⟩ := hSw; have kc0 := blk_cell kr 0; have kc1 := blk_cell kr 1; have klr := blk_lt kr; (go_simp <;> with_reducible rfl))
  try simp only [Act.put, List.setIfInBounds_toArray, List.set_cons_zero, List.set_cons_succ]
  refine wpAnyH_take (i := 2) (oi := ⟨some 24, _, _, _, _, _⟩) (v := ?_) rfl (by kernel_rfl) (by kernel_rfl) (by kernel_rfl) (fun _ _ _ h => h) (Or.inl ⟨by rfl, ?_⟩) (by assumption) ?_
  rotate_left
  · (intro w hSw; (try dsimp only at hSw); obtain ⟨k0, kr⟩ := hSw; have kc0 := blk_cell kr 0; have kc1 := blk_cell kr 1; have klr := blk_lt kr; (go_simp <;> with_reducible rfl))
  try simp only [Act.put, List.setIfInBounds_toArray, List.set_cons_zero, List.set_cons_succ]
  refine wpAnyH_take (i := 3) (oi := ⟨some 25, _, _, _, _, _⟩) (v := ?_) rfl (by kernel_rfl) (by kernel_rfl) (by kernel_rfl) (fun _ _ _ h => h) (Or.inl ⟨by rfl, ?_⟩) (by assumption) ?_
  rotate_left
  · (intro w hSw; (try dsimp only at hSw); obtain ⟨k0, kr⟩ := hSw; have kc0 := blk_cell kr 0; have kc1 := blk_cell kr 1; have klr := blk_lt kr; (go_simp <;> with_reducible rfl))
  try simp only [Act.put, List.setIfInBounds_toArray, List.set_cons_zero, List.set_cons_succ]
  refine wpAnyH_take (i := 4) (oi := ⟨some 26, _, _, _, _, _⟩) (v := ?_) rfl (by kernel_rfl) (by kernel_rfl) (by kernel_rfl) (fun _ _ _ h => h) (Or.inl ⟨by rfl, ?_⟩) (by assumption) ?_
  rotate_left
  · (intro w hSw; (try dsimp only at hSw); obtain ⟨k0, kr⟩ := hSw; have kc0 := blk_cell kr 0; have kc1 := blk_cell kr 1; have klr := blk_lt kr; (go_simp <;> with_reducible rfl))
  try simp only [Act.put, List.setIfInBounds_toArray, List.set_cons_zero, List.set_cons_succ]
  refine wpAnyH_take (i := 5) (oi := ⟨some 27, _, _, _, _, _⟩) (v := ?_) rfl (by kernel_rfl) (by kernel_rfl) (by kernel_rfl) (fun _ _ _ h => h) (Or.inl ⟨by rfl, ?_⟩) (by assumption) ?_
  rotate_left
  · (intro w hSw; (try dsimp only at hSw); obtain ⟨k0, kr⟩ := hSw; have kc0 := blk_cell kr 0; have kc1 := blk_cell kr 1; have klr := blk_lt kr; (go_simp <;> with_reducible rfl))
  try simp only [Act.put, List.setIfInBounds_toArray, List.set_cons_zero, List.set_cons_succ]
  refine wpAnyH_take (i := 6) (oi := ⟨some 28, _, _, _, _, _⟩) (v := ?_) rfl (by kernel_rfl) (by kernel_rfl) (by kernel_rfl) (fun _ _ _ h => h) (Or.inl ⟨by rfl, ?_⟩) (by assumption) ?_
  rotate_left
  · (intro w hSw; (try dsimp only at hSw); obtain ⟨k0, kr⟩ := hSw; have kc0 := blk_cell kr 0; have kc1 := blk_cell kr 1; have klr := blk_lt kr; (go_simp <;> with_reducible rfl))
  try simp only [Act.put, List.setIfInBounds_toArray, List.set_cons_zero, List.set_cons_succ]
  refine wpAnyH_ready (rs := [7]) (by kernel_rfl) (by simp) ?_
  refine AllReadyH.cons rfl (fun K hK => ?_) AllReadyH.nil
  go_simp
  go_at_call 146
  refine HR.out.mono ?_
  rintro e w9 ⟨A9, c9, rfl, hc9, hrd9, hA9, hb9⟩
  have S9 : GetS p g q s w9 := ⟨(hb9.cell hpl).trans hS0.1, blk_below hb9 hS0.2 (blk_lt hS0.2)⟩
  refine hK.out _ _ (by assumption) (fun _ => ?_)
  clear hK K
  try simp only [Act.put, List.setIfInBounds_toArray, List.set_cons_zero, List.set_cons_succ]
  refine wpAnyH_take (i := 8) (oi := ⟨some 30, _, _, _, _, _⟩) (v := ?_) rfl (by kernel_rfl) (by kernel_rfl) (by kernel_rfl) (fun _ _ _ h => h) (Or.inl ⟨by rfl, ?_⟩) (by assumption) ?_
  rotate_left
  · (intro w hSw; (try dsimp only at hSw); obtain ⟨k0, kr⟩ := hSw; have kc0 := blk_cell kr 0; have kc1 := blk_cell kr 1; have klr := blk_lt kr; (go_simp <;> with_reducible rfl))
  try simp only [Act.put, List.setIfInBounds_toArray, List.set_cons_zero, List.set_cons_succ]
  refine wpAnyH_take (i := 9) (oi := ⟨some 31, _, _, _, _, _⟩) (v := ?_) rfl (by kernel_rfl) (by kernel_rfl) (by kernel_rfl) (fun _ _ _ h => h) (Or.inl ⟨by rfl, ?_⟩) (by assumption) ?_
  rotate_left
  · (intro w hSw; (try dsimp only at hSw); obtain ⟨k0, kr⟩ := hSw; have kc0 := blk_cell kr 0; have kc1 := blk_cell kr 1; have klr := blk_lt kr; (go_simp <;> with_reducible rfl))
  try simp only [Act.put, List.setIfInBounds_toArray, List.set_cons_zero, List.set_cons_succ]
  refine wpAnyH_take (i := 10) (oi := ⟨some 6, _, _, _, _, _⟩) (v := ?_) rfl (by kernel_rfl) (by kernel_rfl) (by kernel_rfl) (fun _ _ _ h => h) (Or.inl ⟨by rfl, ?_⟩) (by assumption) ?_
  rotate_left
  · (intro w hSw; (try dsimp only at hSw); obtain ⟨k0, kr⟩ := hSw; have kc0 := blk_cell kr 0; have kc1 := blk_cell kr 1; have klr := blk_lt kr; (go_simp <;> with_reducible rfl))
  try simp only [Act.put, List.setIfInBounds_toArray, List.set_cons_zero, List.set_cons_succ]
  refine wpAnyH_take (i := 11) (oi := ⟨some 7, _, _, _, _, _⟩) (v := ?_) rfl (by kernel_rfl) (by kernel_rfl) (by kernel_rfl) (fun _ _ _ h => h) (Or.inl ⟨by rfl, ?_⟩) (by assumption) ?_
  rotate_left
  · (intro w hSw; (try dsimp only at hSw); obtain ⟨k0, kr⟩ := hSw; have kc0 := blk_cell kr 0; have kc1 := blk_cell kr 1; have klr := blk_lt kr; (go_simp <;> with_reducible rfl))
  try simp only [Act.put, List.setIfInBounds_toArray, List.set_cons_zero, List.set_cons_succ]
  refine wpAnyH_done (by kernel_rfl) ?_ _
  refine NoPanic.normal ?_
  go_wp2
  go_ret2
  rw [hv.out]
  exact ⟨A9, c9, rfl, hc9, hrd9, (fun a ha => by have := hA9 a ha; have := HB.out.size; have e : W1.drew.heap.size = W1.heap.size := rfl; omega), bl_then HB.out.drew HB.out.drew.size hb9⟩
end
end Go.Proofs.YtikgplhcadomcaaGreat

namespace Go.Proofs.YtikgplhcadomcaaGreat
open Go.RowKit
set_option linter.unusedVariables false
set_option linter.unusedSimpArgs false

theorem layR_ok {D : Dv} {P : Pg} {b : List Int} (hok : P.fr.Ok) (h : (layR D P b).1.2 = 0) : 0 ≤ (layR D P b).1.1.start ∧ (layR D P b).1.1.start ≤ 16384 ∧ 1 ≤ (layR D P b).1.1.pages ∧ (layR D P b).1.1.pages ≤ 1058 := by
  unfold layR at h ⊢
  dsimp only at h ⊢
  by_cases hz : needP b.length = 0
  · rw [if_pos hz] at h; cases h
  · rw [if_neg hz] at h ⊢
    have hn := needP_lo hz
    by_cases ht : (P.fr.take (needP b.length)).1.2 = false
    · rw [if_pos ht] at h; cases h
    · rw [if_neg ht] at h ⊢
      by_cases hw : (writeT D (P.fr.take (needP b.length)).1.1 b).1 ≠ 0
      · rw [if_pos hw] at h; cases h
      · rw [if_neg hw] at h ⊢
        have ht2 := (Fr.take_yes hok (by simpa using ht)).2.1
        simp only [Fr.there, decide_eq_true_eq] at ht2
        have h0 := hok.lo0
        have h1 := hok.n1
        dsimp only
        omega
section
variable {w : World} {p g : Nat} {F : Nat → Prop} {D : Dv} {P : Pg}
end
end Go.Proofs.YtikgplhcadomcaaGreat
