/- ref01.Leb -/
import Derived.Test.YtofdmkglhjpbcaaLebOf
import Derived.Deep.Cut
import Derived.Deep.RegionHeld3
namespace Go.Proofs.Ytofdmkglhjpbcaa
open Go.RowKit
set_option linter.unusedVariables false
set_option linter.unusedSimpArgs false

theorem nums_inj {xs ys : List Int} (hx : bytesL xs) (hy : bytesL ys) (h : strOfNums xs = strOfNums ys) : xs = ys := by
  have h2 : xs.map (fun n => n.toNat.toUInt8) = ys.map (fun n => n.toNat.toUInt8) := by
    have := congrArg (fun s : Str => s.data.toList) h
    simpa [strOfNums] using this
  clear h
  induction xs generalizing ys with
  | nil => cases ys with
    | nil => rfl
    | cons y ys => simp at h2
  | cons x xs ih => cases ys with
    | nil => simp at h2
    | cons y ys =>
      simp only [List.map_cons, List.cons.injEq] at h2
      obtain ⟨h3, h4⟩ := h2
      rw [ih (fun a ha => hx a (List.mem_cons_of_mem _ ha)) (fun a ha => hy a (List.mem_cons_of_mem _ ha)) h4]
      obtain ⟨a1, a2⟩ := hx x (by simp)
      obtain ⟨b1, b2⟩ := hy y (by simp)
      have h5 := congrArg UInt8.toNat h3
      rw [UInt8.toNat_ofNat', UInt8.toNat_ofNat', Nat.mod_eq_of_lt (by omega), Nat.mod_eq_of_lt (by omega)] at h5
      have : x = y := by omega
      rw [this]
theorem nums_beq {xs ys : List Int} (hx : bytesL xs) (hy : bytesL ys) : ((strOfNums xs).toList == (strOfNums ys).toList) = decide (xs = ys) := by
  rw [toList_beq]
  by_cases h : xs = ys
  · subst h; simp
  · rw [decide_eq_false h, decide_eq_false (fun e => h (nums_inj hx hy e))]
theorem bytesL_take {xs : List Int} (h : bytesL xs) (k : Nat) : bytesL (xs.take k) := fun x hx => h x (List.mem_of_mem_take hx)
theorem rd_str {W W' : World} {b off : Nat} {bs : List Int} {k c : Nat} (hk : k ≤ bs.length) (hb : b < W.heap.size) (hc : ∀ (i : Nat) (x : Int), bs[i]? = some x → ∀ (j : Nat) (v : Value), (u8e x)[j]? = some v → W.cell? ⟨b, off + i * 1 + j, none⟩ = some v)
    (hB : Below W.heap.size W W') : (convert 57 9 (.slice (some ⟨b, off, none⟩) k c)).run Try.prog W' = .ok (.string (strOfNums (bs.take k))) W' := by
  refine run_convert_bytes_arg W' 57 5 Try.underlying57 Try.underlying5 b off k c (bs.take k) (by simp; omega) (fun i hi => ?_) 9 Try.underlying9
  have hlt : i < bs.length := by omega
  have h1 := hc i bs[i] (List.getElem?_eq_getElem hlt) 0 _ rfl
  rw [hB.cell (by show b < _; exact hb)]
  simp only [Nat.mul_one, Nat.add_zero] at h1
  rw [h1, List.getD_eq_getElem?_getD, List.getElem?_take_of_lt hi, List.getElem?_eq_getElem hlt]
  rfl

/-! ### Plain: the prefix of bytes of 128 and more is that of the number's own bytes -/
theorem lebI_step {x m : Nat} (hx : x < 128) (h : 0 < m) : lebI (x + m * 128) = ((x + 128 : Nat) : Int) :: lebI m := by
  rw [lebI_ge (by omega)]
  have e1 : (x + m * 128) % 128 = x := by omega
  have e2 : (x + m * 128) / 128 = m := by omega
  rw [e1, e2]
def Pre (k acc : Nat) (l : List Int) : Prop := acc < 128 ^ k ∧ ∀ m, 0 < m → lebI (acc + m * 128 ^ k) = l ++ lebI m
theorem Pre.nil : Pre 0 0 [] := ⟨by simp, fun m h => by simp⟩
theorem Pre.next {k acc : Nat} {l : List Int} {x : Int} (h : Pre k acc l) (hx : 128 ≤ x) (hx2 : x ≤ 255) : Pre (k + 1) (acc + (x % 128).toNat * 128 ^ k) (l ++ [x]) := by
  refine ⟨acc_next h.1, fun m hm => ?_⟩
  have e : acc + (x % 128).toNat * 128 ^ k + m * 128 ^ (k + 1) = acc + ((x % 128).toNat + m * 128) * 128 ^ k := by
    rw [Nat.pow_succ, Nat.add_mul, Nat.mul_assoc, Nat.mul_comm 128, Nat.add_assoc]
  rw [e, h.2 _ (by omega), lebI_step (by omega) hm]
  have e2 : (((x % 128).toNat + 128 : Nat) : Int) = x := by omega
  rw [e2]
  simp
theorem lebI_short {k n : Nat} (h : n < 128 ^ k) (hk : 0 < k) : (lebI n).length ≤ k := by
  have key : ∀ (k : Nat) (n : Nat), n < 128 ^ (k + 1) → (lebI n).length ≤ k + 1 := by
    intro k
    induction k with
    | zero => intro n hn; rw [lebI_lt (by simpa using hn)]; simp
    | succ k ih =>
      intro n hn
      by_cases h : n < 128
      · rw [lebI_lt h]; simp
      · rw [lebI_ge h]
        have := ih (n / 128) (Nat.div_lt_of_lt_mul (by rw [Nat.pow_succ] at hn; omega))
        simp only [List.length_cons]
        omega
  have := key (k - 1) n (by rwa [show k - 1 + 1 = k by omega])
  omega
theorem Pre.last {k acc : Nat} {l : List Int} {x : Int} (h : Pre k acc l) (hl : l.length = k) (h0 : 0 ≤ x) (hx : x < 128) : (lebI (acc + (x % 128).toNat * 128 ^ k) = l ++ [x]) ↔ ¬ (x = 0 ∧ 0 < k) := by
  constructor
  · rintro h1 ⟨rfl, h2⟩
    have h3 := lebI_short h.1 h2
    simp only [Int.zero_emod, Int.toNat_zero, Nat.zero_mul, Nat.add_zero] at h1
    rw [h1] at h3
    simp at h3
    omega
  · intro h1
    by_cases hx0 : x = 0
    · subst hx0
      have hk : k = 0 := by omega
      subst hk
      have ha := h.1
      simp at ha
      subst ha
      have : l = [] := List.eq_nil_of_length_eq_zero hl
      subst this
      simp [lebI_lt]
    · rw [h.2 _ (by omega), lebI_lt (by omega)]
      have e2 : (((x % 128).toNat : Nat) : Int) = x := by omega
      rw [e2]

set_option maxRecDepth 100000 in
set_option maxHeartbeats 1000000 in
theorem rLeb_calls (w : World) (A : Option Addr) (c : Nat) (bs : List Int) (hl : bs.length ≤ 1000000) (hcap : bs.length ≤ c) (hb : bytesL bs) (h : Rd u8e 1 w A bs) :
    Calls Try.prog 93 #[.slice A bs.length c] w fun e w' => e = .returned (lebV (lebP bs)) ∧ Below w.heap.size w w' := by
  have HA := Lib.hid h
  have HB := Lib.hid hb
  clear h hb
  go_enter Try.func93, Try.ntmps93
  go_wp2
  go_loopg [5, 6, 7] bs.length (fun n v u i wr => ∃ k acc : Nat, ∃ un : Int, v = .int .u64 acc ∧ u = .int .u64 un ∧ i = .int .i64 k ∧ k + n = bs.length ∧ k ≤ 10 ∧ Hid (lebP bs = lebGo k acc (bs.drop k)) ∧ Hid (Pre k acc (bs.take k)) ∧ Hid (k ≤ 9 → un = ((128 ^ k : Nat) : Int)) ∧ w = wr)
  case atStart => exact ⟨0, 0, 1, rfl, rfl, rfl, by omega, by omega, rfl, Pre.nil, fun _ => rfl, rfl⟩
  case round =>
    obtain ⟨k, acc, un, rfl, rfl, rfl, hk, hk10, hg, ha, hun, rfl⟩ := hrel
    by_cases hlt : k < bs.length
    · by_cases hk9 : k < 10
      · obtain ⟨n', hn'⟩ : ∃ n', gk = n' + 1 := ⟨gk - 1, by omega⟩
        subst hn'
        rcases HA.out with h0 | ⟨b, off, rfl, hbl, hc⟩
        · simp [h0] at hlt
        have hx := List.getElem?_eq_getElem hlt
        have c0 : w.cell? ⟨b, off + k, none⟩ = some (.int .u8 bs[k]) := by have := hc k bs[k] hx 0 _ rfl; simpa using this
        have HC : Hid (∀ W c', Below w.heap.size w W → (convert 57 9 (.slice (some ⟨b, off, none⟩) (k + 1) c')).run Try.prog W = .ok (.string (strOfNums (bs.take (k + 1)))) W) := fun W c' hW => rd_str (by omega) hbl hc hW
        have hd : bs.drop k = bs[k] :: bs.drop (k + 1) := by simp
        have ht : Hid (bs.take (k + 1) = bs.take k ++ [bs[k]]) := by show _ = _; rw [List.take_add_one, hx]; rfl
        have hg2 : Hid (lebP bs = lebGo k acc (bs[k] :: bs.drop (k + 1))) := by show _ = _; rw [hg.out, hd]
        obtain ⟨r0, r1⟩ := HB.out bs[k] (List.getElem_mem hlt)
        generalize bs[k] = x at *
        clear hc hx hd hg
        by_cases hbad : 10 ≤ k ∨ (k = 9 ∧ 1 < x)
        · have hv : Hid (lebP bs = none) := by show _ = _; rw [hg2.out]; exact lebGo_bad hbad
          obtain ⟨h, h2⟩ : k = 9 ∧ 1 < x := by omega
          have hk9 : ((k : Int) == 9) = true := by rw [beq_iff_eq]; omega
          clear h hbad
          go_wp2
          refine bodyPost_ret (results_tmp3 rfl _ _ _) rfl ?_
          exact ⟨by rw [hv.out]; rfl, Below.refl _ _⟩
        · have hu := Lib.hid (acc_u64 (x := x) r0 ha.out.1 hbad)
          have hmul : IntKind.u64.wrap (x % 128 * un) = (((x % 128).toNat * 128 ^ k : Nat) : Int) := by
            have := hu.out
            rw [hun.out (by omega), IntKind.wrap_u64]
            obtain ⟨y, hy⟩ : ∃ y : Nat, x % 128 = (y : Int) := ⟨(x % 128).toNat, by omega⟩
            have hyt : (x % 128).toNat = y := by omega
            rw [hyt] at this ⊢
            rw [hy]
            have e : (y : Int) * ((128 ^ k : Nat) : Int) = ((y * 128 ^ k : Nat) : Int) := by simp
            rw [e]
            omega
          obtain ⟨nn, hnn⟩ : ∃ nn, nn = acc + (x % 128).toNat * 128 ^ k := ⟨_, rfl⟩
          have Hnn := Lib.hid hnn
          rw [← hnn] at hu
          have hadd : IntKind.u64.wrap ((acc : Int) + (((x % 128).toNat * 128 ^ k : Nat) : Int)) = (nn : Int) := by
            have := hu.out
            rw [IntKind.wrap_u64]
            omega
          obtain ⟨mm, hmm⟩ : ∃ mm : Int, mm = (((x % 128).toNat * 128 ^ k : Nat) : Int) := ⟨_, rfl⟩
          rw [← hmm] at hadd hmul
          obtain ⟨un', hun'⟩ : ∃ un' : Int, un' = IntKind.u64.wrap (un * 128) := ⟨_, rfl⟩
          have Hun : Hid (k + 1 ≤ 9 → un' = ((128 ^ (k + 1) : Nat) : Int)) := by
            intro h9
            rw [hun', hun.out (by omega), IntKind.wrap_u64]
            have h3 : 128 ^ (k + 1) ≤ 128 ^ 9 := Nat.pow_le_pow_right (by omega) (by omega)
            rw [Nat.pow_succ] at h3 ⊢
            omega
          have hun2 := hun'.symm
          clear hun' hnn hmm hun
          have q9 : (k : Int) < 10 := by omega
          by_cases hx : x < 128
          · obtain ⟨kk, hkk⟩ : ∃ kk, kk = k + 1 := ⟨_, rfl⟩
            have hwk : IntKind.i64.wrap ((k : Int) + 1) = (kk : Int) := by rw [IntKind.wrap_i64]; omega
            have hkc : kk ≤ c := by omega
            have Hkk := Lib.hid hkk
            rw [← hkk] at HC ht
            obtain ⟨r, hr, hr2⟩ : ∃ r, ((strOfNums (lebI nn)).toList == (strOfNums (bs.take kk)).toList) = r ∧ Hid (r = true ↔ ¬ (x = 0 ∧ 0 < k)) := by
              refine ⟨_, rfl, ?_⟩
              show _ ↔ _
              rw [nums_beq (lebI_bytes _) (bytesL_take HB.out _), decide_eq_true_iff, Hnn.out, ht.out]
              exact ha.out.last (by simp; omega) r0 hx
            have hv : Hid (lebP bs = if r = true then some (nn, kk) else none) := by
              show _ = _
              rw [hg2.out, Hnn.out, Hkk.out]
              by_cases hz : x = 0 ∧ 0 < k
              · rw [if_neg (fun e => hr2.out.1 e hz)]; exact lebGo_zero hbad hx hz
              · rw [if_pos (hr2.out.2 hz)]; exact lebGo_end hbad hx hz
            clear hr2 hkk
            by_cases hk9 : k = 9
            · have hx1 : x ≤ 1 := by omega
              clear hbad
              have hk9' : ((k : Int) == 9) = true := by rw [beq_iff_eq]; omega
              clear hk9
              go_upto_region 11 with fail
              refine wp_region_noPanic ?_
              refine wp_region_held_drew (S := (fun W' => Hid (Below w.heap.size w W'))) (by kernel_rfl) ((Below.refl _ _).drew) (fun hHeld => ?_)
              refine wpAnyH_take (i := 0) (oi := ⟨some 46, _, _, _, _, _⟩) (v := ?_) rfl (by kernel_rfl) (by kernel_rfl) (by kernel_rfl) (fun _ _ _ h => h) (Or.inl ⟨by rfl, ?_⟩) (by assumption) ?_
              rotate_left
              · (intro w hSw; (try dsimp only at hSw); have cv := fun c' => HC.out _ c' hSw.out; (go_simp <;> with_reducible rfl))
              try simp only [Act.put, List.setIfInBounds_toArray, List.set_cons_zero, List.set_cons_succ]
              refine wpAnyH_take (i := 3) (oi := ⟨some 49, _, _, _, _, _⟩) (v := ?_) rfl (by kernel_rfl) (by kernel_rfl) (by kernel_rfl) (fun _ _ _ h => h) (Or.inl ⟨by rfl, ?_⟩) (by assumption) ?_
              rotate_left
              · (intro w hSw; (try dsimp only at hSw); have cv := fun c' => HC.out _ c' hSw.out; (go_simp <;> with_reducible rfl))
              try simp only [Act.put, List.setIfInBounds_toArray, List.set_cons_zero, List.set_cons_succ]
              refine wpAnyH_take (i := 4) (oi := ⟨some 50, _, _, _, _, _⟩) (v := ?_) rfl (by kernel_rfl) (by kernel_rfl) (by kernel_rfl) (fun _ _ _ h => h) (Or.inl ⟨by rfl, ?_⟩) (by assumption) ?_
              rotate_left
              · (intro w hSw; (try dsimp only at hSw); have cv := fun c' => HC.out _ c' hSw.out; (go_simp <;> with_reducible rfl))
              try simp only [Act.put, List.setIfInBounds_toArray, List.set_cons_zero, List.set_cons_succ]
              refine wpAnyH_take (i := 5) (oi := ⟨some 51, _, _, _, _, _⟩) (v := ?_) rfl (by kernel_rfl) (by kernel_rfl) (by kernel_rfl) (fun _ _ _ h => h) (Or.inl ⟨by rfl, ?_⟩) (by assumption) ?_
              rotate_left
              · (intro w hSw; (try dsimp only at hSw); have cv := fun c' => HC.out _ c' hSw.out; (go_simp <;> with_reducible rfl))
              try simp only [Act.put, List.setIfInBounds_toArray, List.set_cons_zero, List.set_cons_succ]
              refine wpAnyH_take (i := 6) (oi := ⟨some 52, _, _, _, _, _⟩) (v := ?_) rfl (by kernel_rfl) (by kernel_rfl) (by kernel_rfl) (fun _ _ _ h => h) (Or.inl ⟨by rfl, ?_⟩) (by assumption) ?_
              rotate_left
              · (intro w hSw; (try dsimp only at hSw); have cv := fun c' => HC.out _ c' hSw.out; (go_simp <;> with_reducible rfl))
              try simp only [Act.put, List.setIfInBounds_toArray, List.set_cons_zero, List.set_cons_succ]
              refine wpAnyH_take (i := 7) (oi := ⟨some 53, _, _, _, _, _⟩) (v := ?_) rfl (by kernel_rfl) (by kernel_rfl) (by kernel_rfl) (fun _ _ _ h => h) (Or.inl ⟨by rfl, ?_⟩) (by assumption) ?_
              rotate_left
              · (intro w hSw; (try dsimp only at hSw); have cv := fun c' => HC.out _ c' hSw.out; (go_simp <;> with_reducible rfl))
              try simp only [Act.put, List.setIfInBounds_toArray, List.set_cons_zero, List.set_cons_succ]
              refine wpAnyH_ready (rs := [1]) (by kernel_rfl) (by simp) ?_
              refine AllReadyH.cons rfl (fun K hK => ?_) AllReadyH.nil
              go_simp
              go_at_call 59
              with_reducible refine (rNum_calls w.drew (.slice none 0 0) [] nn hu.out (by simp) w.heap.size ((Below.refl w.heap.size w).drew.size : w.heap.size ≤ w.drew.heap.size) Own.nil).mono ?_
              rintro e w3 ⟨v3, rfl, ho3, hb3, -⟩
              have S3 : Hid (Below w.heap.size w w3) := (Below.refl _ _).drew.trans hb3
              have cv3 := own_str ho3
              clear hb3 ho3
              refine hK.out _ _ (by assumption) (fun _ => ?_)
              clear hK K
              try simp only [Act.put, List.setIfInBounds_toArray, List.set_cons_zero, List.set_cons_succ]
              refine wpAnyH_ready (rs := [2]) (by kernel_rfl) (by simp) ?_
              refine AllReadyH.cons rfl (fun K hK => ?_) AllReadyH.nil
              go_simp
              refine hK.out _ _ (by assumption) (fun _ => ?_)
              clear hK K
              try simp only [Act.put, List.setIfInBounds_toArray, List.set_cons_zero, List.set_cons_succ]
              refine wpAnyH_take (i := 8) (oi := ⟨some 54, _, _, _, _, _⟩) (v := ?_) rfl (by kernel_rfl) (by kernel_rfl) (by kernel_rfl) (fun _ _ _ h => h) (Or.inl ⟨by rfl, ?_⟩) (by assumption) ?_
              rotate_left
              · (intro w hSw; (try dsimp only at hSw); have cv := fun c' => HC.out _ c' hSw.out; (go_simp <;> with_reducible rfl))
              try simp only [Act.put, List.setIfInBounds_toArray, List.set_cons_zero, List.set_cons_succ]
              refine wpAnyH_done (by kernel_rfl) ?_ _
              refine NoPanic.normal ?_
              cases r
              · go_wp2
                refine bodyPost_ret (results_tmp3 rfl _ _ _) rfl ?_
                exact ⟨by rw [hv.out]; rfl, S3.out⟩
              · go_wp2
                refine bodyPost_ret (results_tmp3 rfl _ _ _) rfl ?_
                exact ⟨by rw [hv.out]; rfl, S3.out⟩
            · have hk9' : ((k : Int) == 9) = false := by rw [beq_eq_false_iff_ne]; omega
              clear hk9 hbad
              go_upto_region 11 with fail
              refine wp_region_noPanic ?_
              refine wp_region_held_drew (S := (fun W' => Hid (Below w.heap.size w W'))) (by kernel_rfl) ((Below.refl _ _).drew) (fun hHeld => ?_)
              refine wpAnyH_take (i := 0) (oi := ⟨some 46, _, _, _, _, _⟩) (v := ?_) rfl (by kernel_rfl) (by kernel_rfl) (by kernel_rfl) (fun _ _ _ h => h) (Or.inl ⟨by rfl, ?_⟩) (by assumption) ?_
              rotate_left
              · (intro w hSw; (try dsimp only at hSw); have cv := fun c' => HC.out _ c' hSw.out; (go_simp <;> with_reducible rfl))
              try simp only [Act.put, List.setIfInBounds_toArray, List.set_cons_zero, List.set_cons_succ]
              refine wpAnyH_take (i := 3) (oi := ⟨some 49, _, _, _, _, _⟩) (v := ?_) rfl (by kernel_rfl) (by kernel_rfl) (by kernel_rfl) (fun _ _ _ h => h) (Or.inl ⟨by rfl, ?_⟩) (by assumption) ?_
              rotate_left
              · (intro w hSw; (try dsimp only at hSw); have cv := fun c' => HC.out _ c' hSw.out; (go_simp <;> with_reducible rfl))
              try simp only [Act.put, List.setIfInBounds_toArray, List.set_cons_zero, List.set_cons_succ]
              refine wpAnyH_take (i := 4) (oi := ⟨some 50, _, _, _, _, _⟩) (v := ?_) rfl (by kernel_rfl) (by kernel_rfl) (by kernel_rfl) (fun _ _ _ h => h) (Or.inl ⟨by rfl, ?_⟩) (by assumption) ?_
              rotate_left
              · (intro w hSw; (try dsimp only at hSw); have cv := fun c' => HC.out _ c' hSw.out; (go_simp <;> with_reducible rfl))
              try simp only [Act.put, List.setIfInBounds_toArray, List.set_cons_zero, List.set_cons_succ]
              refine wpAnyH_take (i := 5) (oi := ⟨some 51, _, _, _, _, _⟩) (v := ?_) rfl (by kernel_rfl) (by kernel_rfl) (by kernel_rfl) (fun _ _ _ h => h) (Or.inl ⟨by rfl, ?_⟩) (by assumption) ?_
              rotate_left
              · (intro w hSw; (try dsimp only at hSw); have cv := fun c' => HC.out _ c' hSw.out; (go_simp <;> with_reducible rfl))
              try simp only [Act.put, List.setIfInBounds_toArray, List.set_cons_zero, List.set_cons_succ]
              refine wpAnyH_take (i := 6) (oi := ⟨some 52, _, _, _, _, _⟩) (v := ?_) rfl (by kernel_rfl) (by kernel_rfl) (by kernel_rfl) (fun _ _ _ h => h) (Or.inl ⟨by rfl, ?_⟩) (by assumption) ?_
              rotate_left
              · (intro w hSw; (try dsimp only at hSw); have cv := fun c' => HC.out _ c' hSw.out; (go_simp <;> with_reducible rfl))
              try simp only [Act.put, List.setIfInBounds_toArray, List.set_cons_zero, List.set_cons_succ]
              refine wpAnyH_take (i := 7) (oi := ⟨some 53, _, _, _, _, _⟩) (v := ?_) rfl (by kernel_rfl) (by kernel_rfl) (by kernel_rfl) (fun _ _ _ h => h) (Or.inl ⟨by rfl, ?_⟩) (by assumption) ?_
              rotate_left
              · (intro w hSw; (try dsimp only at hSw); have cv := fun c' => HC.out _ c' hSw.out; (go_simp <;> with_reducible rfl))
              try simp only [Act.put, List.setIfInBounds_toArray, List.set_cons_zero, List.set_cons_succ]
              refine wpAnyH_ready (rs := [1]) (by kernel_rfl) (by simp) ?_
              refine AllReadyH.cons rfl (fun K hK => ?_) AllReadyH.nil
              go_simp
              go_at_call 59
              with_reducible refine (rNum_calls w.drew (.slice none 0 0) [] nn hu.out (by simp) w.heap.size ((Below.refl w.heap.size w).drew.size : w.heap.size ≤ w.drew.heap.size) Own.nil).mono ?_
              rintro e w3 ⟨v3, rfl, ho3, hb3, -⟩
              have S3 : Hid (Below w.heap.size w w3) := (Below.refl _ _).drew.trans hb3
              have cv3 := own_str ho3
              clear hb3 ho3
              refine hK.out _ _ (by assumption) (fun _ => ?_)
              clear hK K
              try simp only [Act.put, List.setIfInBounds_toArray, List.set_cons_zero, List.set_cons_succ]
              refine wpAnyH_ready (rs := [2]) (by kernel_rfl) (by simp) ?_
              refine AllReadyH.cons rfl (fun K hK => ?_) AllReadyH.nil
              go_simp
              refine hK.out _ _ (by assumption) (fun _ => ?_)
              clear hK K
              try simp only [Act.put, List.setIfInBounds_toArray, List.set_cons_zero, List.set_cons_succ]
              refine wpAnyH_take (i := 8) (oi := ⟨some 54, _, _, _, _, _⟩) (v := ?_) rfl (by kernel_rfl) (by kernel_rfl) (by kernel_rfl) (fun _ _ _ h => h) (Or.inl ⟨by rfl, ?_⟩) (by assumption) ?_
              rotate_left
              · (intro w hSw; (try dsimp only at hSw); have cv := fun c' => HC.out _ c' hSw.out; (go_simp <;> with_reducible rfl))
              try simp only [Act.put, List.setIfInBounds_toArray, List.set_cons_zero, List.set_cons_succ]
              refine wpAnyH_done (by kernel_rfl) ?_ _
              refine NoPanic.normal ?_
              cases r
              · go_wp2
                refine bodyPost_ret (results_tmp3 rfl _ _ _) rfl ?_
                exact ⟨by rw [hv.out]; rfl, S3.out⟩
              · go_wp2
                refine bodyPost_ret (results_tmp3 rfl _ _ _) rfl ?_
                exact ⟨by rw [hv.out]; rfl, S3.out⟩
          · have hv : Hid (lebP bs = lebGo (k + 1) nn (bs.drop (k + 1))) := by show _ = _; rw [hg2.out, Hnn.out]; exact lebGo_on hbad hx
            have hx' : (128 : Int) ≤ x := by omega
            have hP : Hid (Pre (k + 1) nn (bs.take (k + 1))) := by show Pre _ _ _; rw [ht.out, Hnn.out]; exact ha.out.next hx' r1
            by_cases hk9 : k = 9
            · have hx1 : x ≤ 1 := by omega
              omega
            · have hk9' : ((k : Int) == 9) = false := by rw [beq_eq_false_iff_ne]; omega
              clear hbad hk9 hx
              go_wp2
              go_roundg n'
              case measure => omega
              case rel => exact ⟨k + 1, nn, un', rfl, rfl, by go_num, by omega, by omega, hv, hP, Hun, rfl⟩
      · have hv : Hid (lebP bs = none) := by
          show _ = _
          rw [hg.out]
          rw [show bs.drop k = bs[k] :: bs.drop (k + 1) by simp]
          exact lebGo_bad (.inl (by omega))
        have q9 : (10 : Int) ≤ (k : Int) := by omega
        go_wp2
        refine bodyPost_ret (results_tmp3 rfl _ _ _) rfl ?_
        exact ⟨by rw [hv.out]; rfl, Below.refl _ _⟩
    · have hv : Hid (lebP bs = none) := by show _ = _; rw [hg.out, List.drop_of_length_le (by omega)]; rfl
      go_wp2
      refine bodyPost_ret (results_tmp3 rfl _ _ _) rfl ?_
      exact ⟨by rw [hv.out]; rfl, Below.refl _ _⟩
end Go.Proofs.Ytofdmkglhjpbcaa
