/- Bytes as whole numbers, one cell each; texts of bytes; numbers in seven bits a byte. ref01.Num, leb.Put of one number. leb.Of. ref01.Leb. ref01.Text, Flag; pack.Writer: Num, Text, Flag, Bytes; slices.Clone of bytes. pack.Reader, ref01.Reader. ref01.Reader.Text; Flag, Done of both; pack.Read. leb.Put and pack.Writer.Num of a row of numbers. -/
import Derived.Test.YtikgplhcadomcaaGreatProg
import Derived.Test.YtikgplhcadomcaaGreatKA
import Derived.Laws.BytesArg
import Derived.Laws.Bits128
import Derived.Laws.Bits64b
import Derived.OwnWalk
import Derived.Deep.Cut
import Derived.Deep.RegionHeld3
import Derived.Lib.SliceRun
namespace Go.Proofs.YtikgplhcadomcaaGreat
open Go.RowKit
set_option linter.unusedVariables false
set_option linter.unusedSimpArgs false

def u8e (n : Int) : List Value := [.int .u8 n]
theorem u8ok : Enc u8e 1 := ⟨fun _ => rfl, fun x u hu => by simp [u8e] at hu; subst hu; rfl, by omega⟩
def bytesL (xs : List Int) : Prop := ∀ x ∈ xs, 0 ≤ x ∧ x ≤ 255
theorem infoU8 : (Tryz.prog.info? 5).map (fun i => (i.zero, i.size, i.bytes)) = some (some (.int .u8 0), 1, 1) := by kernel_rfl
def strBs (s : Str) : List Int := s.data.toList.map fun b => (b.toNat : Int)
theorem strBs_len (s : Str) : (strBs s).length = s.size := by unfold strBs; rw [List.length_map]; rfl
theorem strBs_cells (s : Str) : (strBs s).flatMap u8e = byteCells s := by
  unfold strBs byteCells
  rw [List.flatMap_map]
  induction s.data.toList with
  | nil => rfl
  | cons x l ih => rw [List.flatMap_cons, ih]; rfl
theorem strBs_src {P : Program} {tx : TypeId} {w : World} (hk : P.underlying tx = some .string) (s : Str) : Src P 1 tx (.string s) (strBs s).length ((strBs s).flatMap u8e) w := by
  rw [strBs_len, strBs_cells]
  exact Src.ofString w hk s
theorem strBs_bytes (s : Str) : bytesL (strBs s) := by
  intro x hx
  obtain ⟨b, _, rfl⟩ := List.mem_map.1 hx
  have := b.toNat_lt
  omega
/-- Blocks of other kinds than bytes and writers stay. -/
def KeptT (W W' : World) : Prop := ∀ t : TypeId, t ≠ 5 → t ≠ 216 → ∀ (i : Nat) (cs : Array Value) (fr : Nat × Nat), W.heap[i]? = some (.cells cs t fr) → W'.heap[i]? = some (.cells cs t fr)
theorem KeptT.trans {W W1 W2 : World} (h : KeptT W W1) (k : KeptT W1 W2) : KeptT W W2 := fun t h1 h2 i cs fr hi => k t h1 h2 i cs fr (h t h1 h2 i cs fr hi)
theorem KeptT.below {W W' : World} (hb : Below W.heap.size W W') : KeptT W W' := fun t _ _ i cs fr hi => blk_below hb hi (blk_lt hi)
theorem KeptT.set {W : World} {g : Nat} {u v : Value} (hg : W.heap[g]? = some (.cells #[u] 216 (0, 0))) : KeptT W (W.setCell ⟨g, 0, none⟩ v) := fun t _ h2 i cs fr hi => blk_far hi (fun e => by
  have e' : i = g := e
  subst e'
  rw [hg] at hi
  injection hi with hi
  injection hi with _ hi _
  exact h2 hi.symm) v
theorem KeptT.grown {B : Nat} {W W' : World} {v : Value} {bs : List Int} (ho : Own u8e 1 5 B W v bs) (hg : W.grownBy W' v.ownBlock) : KeptT W W' := fun t h1 _ i cs fr hi => (hg.block i (blk_lt hi) (fun e => by
  rcases ho.2 with ⟨rfl, h0⟩ | ⟨g', cap, cur, rfl, hb, hh, k1, k2, k3, k4⟩
  · cases e
  · have e' : i = g' := by injection e
    subst e'
    rw [hi] at hh
    injection hh with hh
    injection hh with _ hh _
    exact h1 hh)).trans hi
theorem KeptT.refl (W : World) : KeptT W W := fun _ _ _ _ _ _ h => h
/-- A number, seven bits a byte, the lowest first. -/
def lebI (n : Nat) : List Int := if n < 128 then [(n : Int)] else ((n % 128 + 128 : Nat) : Int) :: lebI (n / 128)
termination_by n
theorem lebI_lt {n : Nat} (h : n < 128) : lebI n = [(n : Int)] := by rw [lebI, if_pos h]
theorem lebI_ge {n : Nat} (h : ¬ n < 128) : lebI n = ((n % 128 + 128 : Nat) : Int) :: lebI (n / 128) := by rw [lebI, if_neg h]
theorem lebI_bytes (n : Nat) : bytesL (lebI n) := by
  induction n using Nat.strongRecOn with
  | _ n ih =>
    by_cases h : n < 128
    · rw [lebI_lt h]
      intro x hx
      simp only [List.mem_singleton] at hx
      subst hx
      omega
    · rw [lebI_ge h]
      intro x hx
      rcases List.mem_cons.1 hx with rfl | hx
      · have := Nat.mod_lt n (show 0 < 128 by omega)
        omega
      · exact ih (n / 128) (Nat.div_lt_self (by omega) (by omega)) x hx
theorem lebI_len10 (n : Nat) (h : n < 18446744073709551616) : (lebI n).length ≤ 10 := by
  have key : ∀ (k : Nat) (n : Nat), n < 128 ^ (k + 1) → (lebI n).length ≤ k + 1 := by
    intro k
    induction k with
    | zero => intro n hn; rw [lebI_lt (by simpa using hn)]; simp
    | succ k ih =>
      intro n hn
      by_cases h : n < 128
      · rw [lebI_lt h]; simp
      · rw [lebI_ge h]
        have := ih (n / 128) (Nat.div_lt_of_lt_mul (by rw [Nat.pow_succ] at hn; omega))
        simp only [List.length_cons]
        omega
  exact key 9 n (by omega)
end Go.Proofs.YtikgplhcadomcaaGreat

namespace Go.Proofs.YtikgplhcadomcaaGreat
open Go.RowKit
set_option linter.unusedVariables false
set_option linter.unusedSimpArgs false

set_option maxRecDepth 100000 in
set_option maxHeartbeats 1000000 in
theorem lebPut_calls (w : World) (A : Option Addr) (c : Nat) (bs : List Int) (g n : Nat) (hn : n < 18446744073709551616) (hl : bs.length ≤ 1000000) (h : Rd u8e 1 w A bs) (hg : w.cell? ⟨g, 0, none⟩ = some (.int .u64 n)) (hgl : g < w.heap.size) :
    Calls Tryz.prog 179 #[.slice A bs.length c, .slice (some ⟨g, 0, none⟩) 1 1] w fun e w' => ∃ v', e = .returned v' ∧ Own u8e 1 5 w.heap.size w' v' (bs ++ lebI n) ∧ Below w.heap.size w w' := by
  have h10 := Lib.hid (lebI_len10 n hn)
  have SA : Hid (Src Tryz.prog 1 51 (.slice A bs.length c) bs.length (bs.flatMap u8e) w) := Rd.src u8ok Tryz.underlying51 c h
  have t1 : Hid ((Value.int .u8 0).cells.size = 1) := rfl
  have l1 : Hid (([] : List Int).length + bs.length ≤ 140737488355328) := by show _ ≤ _; simp; omega
  have l2 : Hid ((([] : List Int).length + bs.length) * 1 ≤ 140737488355328) := by show _ ≤ _; simp; omega
  have HG := Lib.hid hg
  clear h hg
  go_enter Tryz.func179, Tryz.ntmps179
  go_wp2_with (at_builtin; refine at_list rfl (fun K hK => op_ownS u8ok _ _ _ _ _ _ _ rfl Tryz.underlying51 infoU8 t1.out w.heap.size (.slice none 0 0) (.slice A bs.length c) [] bs rfl rfl Own.nil SA.out (Nat.le_refl _) l2.out l1.out (fun v1 w1 ho1 hg1 => hK _ _ ?_)))
  have O1 : Hid (Own u8e 1 5 w.heap.size w1 v1 bs) := by show Own _ _ _ _ _ _ _; simpa using ho1
  have B1 : Hid (Below w.heap.size w w1) := Below.grown (Below.refl _ _) hg1 (Nat.le_refl _) (fun k e => by cases e)
  clear ho1 hg1 SA
  go_loopg [5, 12] 1 (fun m v' u wr => ∃ k : Nat, u = .int .i64 k ∧ k + m = 1 ∧ Hid (Own u8e 1 5 w.heap.size wr v' (if k = 0 then bs else bs ++ lebI n)) ∧ Hid (Below w.heap.size w wr))
  case atStart => exact ⟨0, rfl, rfl, O1.out, B1.out⟩
  case round =>
    obtain ⟨k0, rfl, hk, ho, hb⟩ := hrel
    by_cases hlt0 : k0 < 1
    · have hk0 : k0 = 0 := by omega
      subst hk0
      have ho0 : Hid (Own u8e 1 5 w.heap.size wr u5 bs) := ho.out
      have cg : wr.cell? ⟨g, 0, none⟩ = some (.int .u64 n) := (hb.out.cell (p := ⟨g, 0, none⟩) hgl).trans HG.out
      obtain ⟨G, hG⟩ : ∃ G, G = gk := ⟨_, rfl⟩
      clear ho
      go_wp2
      go_loopg [5, 7] n (fun m v' u wr => ∃ (k : Nat) (done : List Int), u = .int .u64 k ∧ k ≤ m ∧ k < 18446744073709551616 ∧ Hid (done ++ lebI k = bs ++ lebI n) ∧ Hid (Own u8e 1 5 w.heap.size wr v' done) ∧ Hid (Below w.heap.size w wr))
      case atStart => exact ⟨n, bs, rfl, Nat.le_refl _, hn, rfl, ho0.out, hb.out⟩
      case round =>
        obtain ⟨k, done, rfl, hkm, hk2, hd, ho, hb⟩ := hrel
        have hdl : Hid (done.length ≤ 1000010) := by
          show _ ≤ _
          have := congrArg List.length hd.out
          simp only [List.length_append] at this
          have := h10.out
          omega
        by_cases hlt : 128 ≤ k
        · have hs : Hid (done ++ [((k % 128 + 128 : Nat) : Int)] ++ lebI (k / 128) = bs ++ lebI n) := by
            show _ = _
            rw [← hd.out, lebI_ge (n := k) (by omega), List.append_assoc]; rfl
          have hz := Lib.hid hb.out.size
          have hob := Lib.hid ho.out.lt
          have HC2 : Hid ((done.length + 1) * 1 ≤ 140737488355328) := by show _ ≤ _; have := hdl.out; omega
          have HC3 : Hid (done.length + 1 ≤ 140737488355328) := by show _ ≤ _; have := hdl.out; omega
          have hor : bits .or .u8 ((k : Int) % 128) 128 = (k : Int) % 128 + 128 := u8_or128_right _ (by omega) (by omega)
          go_wp2_with (at_builtin; refine ap_own u8ok rfl _ _ _ _ _ _ rfl Tryz.underlying51 infoU8 rfl w.heap.size u5 done ((k : Int) % 128 + 128) #[_] rfl rfl wr.heap.size rfl rfl ho.out hz.out HC2.out HC3.out ?_; intro gg cap w5 o5 hg5 hat5 hlt5)
          go_roundg (k / 128)
          case measure => omega
          case rel =>
            refine ⟨k / 128, done ++ [(k : Int) % 128 + 128], by simp, Nat.le_refl _, by omega, ?_, by show Own _ _ _ _ _ _ _; simpa using o5, hb.out.grown hg5 hz.out (fun k e => (hob.out _ e).1)⟩
            show _ = _
            rw [← hs.out]
            simp
        · have hs : Hid (done ++ [(k : Int)] = bs ++ lebI n) := by
            show _ = _
            rw [← hd.out, lebI_lt (n := k) (by omega)]
          have hz := Lib.hid hb.out.size
          have hob := Lib.hid ho.out.lt
          have HC2 : Hid ((done.length + 1) * 1 ≤ 140737488355328) := by show _ ≤ _; have := hdl.out; omega
          have HC3 : Hid (done.length + 1 ≤ 140737488355328) := by show _ ≤ _; have := hdl.out; omega
          have hk8 : IntKind.u8.wrap (k : Int) = (k : Int) := by rw [IntKind.wrap_u8]; omega
          go_wp2_with (at_builtin; refine ap_own u8ok rfl _ _ _ _ _ _ rfl Tryz.underlying51 infoU8 rfl w.heap.size u5 done (k : Int) #[_] rfl rfl wr.heap.size rfl rfl ho.out hz.out HC2.out HC3.out ?_; intro gg cap w5 o5 hg5 hat5 hlt5)
          go_roundg 0
          case measure => omega
          case rel =>
            refine ⟨1, rfl, rfl, ?_, hb.out.grown hg5 hz.out (fun k e => (hob.out _ e).1)⟩
            show Own _ _ _ _ _ _ _
            rw [if_neg (by omega), ← hs.out]
            simpa using o5
    · have hk1 : k0 = 1 := by omega
      subst hk1
      have ho1 : Hid (Own u8e 1 5 w.heap.size wr u5 (bs ++ lebI n)) := ho.out
      clear ho
      go_wp2
      go_ret
      exact ⟨_, rfl, ho1.out, hb.out⟩
end Go.Proofs.YtikgplhcadomcaaGreat

namespace Go.Proofs.YtikgplhcadomcaaGreat
open Go.RowKit
set_option linter.unusedVariables false
set_option linter.unusedSimpArgs false

/-- The number with which bytes begin, and its size. -/
def lebGo (i acc : Nat) : List Int → Option (Nat × Nat)
  | [] => none
  | x :: bs => if 10 ≤ i ∨ (i = 9 ∧ 1 < x) then none else if x < 128 then (if x = 0 ∧ 0 < i then none else some (acc + (x % 128).toNat * 128 ^ i, i + 1)) else lebGo (i + 1) (acc + (x % 128).toNat * 128 ^ i) bs
def lebP (bs : List Int) : Option (Nat × Nat) := lebGo 0 0 bs
def lebV (o : Option (Nat × Nat)) : Value := match o with
  | some (n, k) => .tuple #[.int .u64 (n : Int), .int .i64 (k : Int), .int .i64 0]
  | none => .tuple #[.int .u64 0, .int .i64 0, .int .i64 20]
theorem lebGo_bad {i acc : Nat} {x : Int} {bs : List Int} (h : 10 ≤ i ∨ (i = 9 ∧ 1 < x)) : lebGo i acc (x :: bs) = none := by rw [lebGo, if_pos h]
theorem lebGo_zero {i acc : Nat} {x : Int} {bs : List Int} (h : ¬ (10 ≤ i ∨ (i = 9 ∧ 1 < x))) (hx : x < 128) (hz : x = 0 ∧ 0 < i) : lebGo i acc (x :: bs) = none := by rw [lebGo, if_neg h, if_pos hx, if_pos hz]
theorem lebGo_end {i acc : Nat} {x : Int} {bs : List Int} (h : ¬ (10 ≤ i ∨ (i = 9 ∧ 1 < x))) (hx : x < 128) (hz : ¬ (x = 0 ∧ 0 < i)) : lebGo i acc (x :: bs) = some (acc + (x % 128).toNat * 128 ^ i, i + 1) := by rw [lebGo, if_neg h, if_pos hx, if_neg hz]
theorem lebGo_on {i acc : Nat} {x : Int} {bs : List Int} (h : ¬ (10 ≤ i ∨ (i = 9 ∧ 1 < x))) (hx : ¬ x < 128) : lebGo i acc (x :: bs) = lebGo (i + 1) (acc + (x % 128).toNat * 128 ^ i) bs := by rw [lebGo, if_neg h, if_neg hx]
theorem acc_next {acc k : Nat} {x : Int} (h : acc < 128 ^ k) : acc + (x % 128).toNat * 128 ^ k < 128 ^ (k + 1) := by
  have h1 : (x % 128).toNat ≤ 127 := by omega
  have h2 : (x % 128).toNat * 128 ^ k ≤ 127 * 128 ^ k := Nat.mul_le_mul_right _ h1
  rw [Nat.pow_succ]
  omega
theorem acc_u64 {acc k : Nat} {x : Int} (hx : 0 ≤ x) (h : acc < 128 ^ k) (hk : ¬ (10 ≤ k ∨ (k = 9 ∧ 1 < x))) : acc + (x % 128).toNat * 128 ^ k < 18446744073709551616 := by
  have h1 : k ≤ 9 := by omega
  by_cases h9 : k = 9
  · subst h9
    have : (x % 128).toNat ≤ 1 := by omega
    have : (x % 128).toNat * 128 ^ 9 ≤ 1 * 128 ^ 9 := Nat.mul_le_mul_right _ this
    omega
  · have h2 := acc_next (x := x) h
    have h3 : 128 ^ (k + 1) ≤ 128 ^ 9 := Nat.pow_le_pow_right (by omega) (by omega)
    omega

set_option maxRecDepth 100000 in
set_option maxHeartbeats 1000000 in
theorem lebOf_calls (w : World) (A : Option Addr) (c : Nat) (bs : List Int) (hl : bs.length ≤ 1000000) (hb : bytesL bs) (h : Rd u8e 1 w A bs) :
    Calls Tryz.prog 164 #[.slice A bs.length c] w fun e w' => e = .returned (lebV (lebP bs)) ∧ w = w' := by
  have HA := Lib.hid h
  have HB := Lib.hid hb
  clear h hb
  go_enter Tryz.func164, Tryz.ntmps164
  go_wp2
  go_loopg [2, 10] bs.length (fun n v i wr => ∃ k acc : Nat, v = .int .u64 acc ∧ i = .int .i64 k ∧ k + n = bs.length ∧ Hid (lebP bs = lebGo k acc (bs.drop k)) ∧ Hid (acc < 128 ^ k) ∧ w = wr)
  case atStart => exact ⟨0, 0, rfl, rfl, by omega, rfl, by show _ < _; simp, rfl⟩
  case round =>
    obtain ⟨k, acc, rfl, rfl, hk, hg, ha, rfl⟩ := hrel
    by_cases hlt : k < bs.length
    · obtain ⟨n', hn'⟩ : ∃ n', gk = n' + 1 := ⟨gk - 1, by omega⟩
      subst hn'
      rcases HA.out with h0 | ⟨b, off, rfl, hbl, hc⟩
      · simp [h0] at hlt
      have hx := List.getElem?_eq_getElem hlt
      have c0 : w.cell? ⟨b, off + k, none⟩ = some (.int .u8 bs[k]) := by have := hc k bs[k] hx 0 _ rfl; simpa using this
      have hd : bs.drop k = bs[k] :: bs.drop (k + 1) := by simp
      have hg2 : Hid (lebP bs = lebGo k acc (bs[k] :: bs.drop (k + 1))) := by show _ = _; rw [hg.out, hd]
      obtain ⟨r0, r1⟩ := HB.out bs[k] (List.getElem_mem hlt)
      generalize bs[k] = x at *
      clear hc hx hd hg
      have hi0 : (0 : Int) ≤ (k : Int) := by omega
      by_cases hbad : 10 ≤ k ∨ (k = 9 ∧ 1 < x)
      · have hv : Hid (lebP bs = none) := by show _ = _; rw [hg2.out]; exact lebGo_bad hbad
        rcases hbad with h | ⟨h, h2⟩
        · have h1 : (10 : Int) ≤ (k : Int) := by omega
          have hk9 : ((k : Int) == 9) = false := by rw [beq_eq_false_iff_ne]; omega
          clear h
          go_wp2
          refine bodyPost_ret (results_tmp3 rfl _ _ _) rfl ?_
          exact ⟨by rw [hv.out]; rfl, rfl⟩
        · have h1 : (k : Int) < 10 := by omega
          have hk9 : ((k : Int) == 9) = true := by rw [beq_iff_eq]; omega
          clear h
          go_wp2
          refine bodyPost_ret (results_tmp3 rfl _ _ _) rfl ?_
          exact ⟨by rw [hv.out]; rfl, rfl⟩
      · have h9 : k ≤ 9 := by omega
        have hu := Lib.hid (acc_u64 (x := x) r0 ha.out hbad)
        have hnx := Lib.hid (acc_next (x := x) ha.out)
        have h1 : (k : Int) < 10 := by omega
        have hw7 : (0 : Int) ≤ 7 * (k : Int) := by omega
        by_cases hk9 : k = 9
        · have hx1 : x = 0 ∨ x = 1 := by omega
          subst hk9
          rcases hx1 with rfl | rfl
          · have hv : Hid (lebP bs = none) := by show _ = _; rw [hg2.out]; exact lebGo_zero hbad (by omega) ⟨rfl, by omega⟩
            clear hbad
            go_wp2
            refine bodyPost_ret (results_tmp3 rfl _ _ _) rfl ?_
            exact ⟨by rw [hv.out]; rfl, rfl⟩
          · have hv : Hid (lebP bs = some (acc + 9223372036854775808, 10)) := by show _ = _; rw [hg2.out, lebGo_end hbad (by omega) (by omega)]; rfl
            have ha9 : acc < 9223372036854775808 := by have := ha.out; omega
            have hor : bits .or .u64 (acc : Int) 9223372036854775808 = ((acc + 9223372036854775808 : Nat) : Int) := by
              have e : (9223372036854775808 : Int) = ((9223372036854775808 : Nat) : Int) := rfl
              rw [e, bits_or_u64_nat _ _ (by omega) (by omega), Nat.or_comm]
              have := Nat.shiftLeft_add_eq_or_of_lt (i := 63) (b := acc) (by omega) 1
              rw [Nat.shiftLeft_eq] at this
              have e2 : (9223372036854775808 : Nat) = 1 * 2 ^ 63 := by omega
              rw [e2, ← this, Nat.add_comm]
            clear hbad
            go_wp2
            refine bodyPost_ret (results_tmp3 rfl _ _ _) rfl ?_
            exact ⟨by rw [hv.out]; rfl, rfl⟩
        · have hk9' : ((k : Int) == 9) = false := by rw [beq_eq_false_iff_ne]; omega
          have hor : bits .or .u64 (acc : Int) (IntKind.u64.wrap (x % 128 * 2 ^ (7 * k))) = ((acc + (x % 128).toNat * 128 ^ k : Nat) : Int) := by
            obtain ⟨y, hy⟩ : ∃ y : Nat, x % 128 = (y : Int) := ⟨(x % 128).toNat, by omega⟩
            have hyt : (x % 128).toNat = y := by omega
            have hu' := hu.out
            rw [hyt] at hu' ⊢
            have e1 : (x % 128 * 2 ^ (7 * k) : Int) = ((y * 2 ^ (7 * k) : Nat) : Int) := by rw [hy]; simp
            have e2 : 128 ^ k = 2 ^ (7 * k) := by rw [Nat.pow_mul]
            have ha' := ha.out
            rw [e2] at hu' ha' ⊢
            rw [e1, IntKind.wrap_u64]
            have e3 : (((y * 2 ^ (7 * k) : Nat) : Int) % 18446744073709551616) = ((y * 2 ^ (7 * k) : Nat) : Int) := by omega
            rw [e3, bits_or_u64_nat _ _ (by omega) (by omega), Nat.or_comm]
            have := Nat.shiftLeft_add_eq_or_of_lt (i := 7 * k) (b := acc) ha' y
            rw [Nat.shiftLeft_eq] at this
            rw [← this, Nat.add_comm]
          by_cases hx : x < 128
          · by_cases hz : x = 0 ∧ 0 < k
            · have hv : Hid (lebP bs = none) := by show _ = _; rw [hg2.out]; exact lebGo_zero hbad hx hz
              obtain ⟨hz1, hz2⟩ := hz
              have hz3 : (x == 0) = true := by simpa using hz1
              have hz4 : (0 : Int) < (k : Int) := by omega
              clear hbad hz1 hk9
              go_wp2
              refine bodyPost_ret (results_tmp3 rfl _ _ _) rfl ?_
              exact ⟨by rw [hv.out]; rfl, rfl⟩
            · have hv : Hid (lebP bs = some (acc + (x % 128).toNat * 128 ^ k, k + 1)) := by show _ = _; rw [hg2.out]; exact lebGo_end hbad hx hz
              obtain ⟨nn, hnn⟩ : ∃ nn, nn = acc + (x % 128).toNat * 128 ^ k := ⟨_, rfl⟩
              rw [← hnn] at hv hor
              clear hnn hu hnx
              by_cases hx0 : x = 0
              · have hz3 : (x == 0) = true := by simpa using hx0
                have hz4 : (k : Int) ≤ 0 := by omega
                clear hbad hx0 hk9 hz
                go_wp2
                refine bodyPost_ret (results_tmp3 rfl _ _ _) rfl ?_
                exact ⟨by rw [hv.out]; rfl, rfl⟩
              · have hz3 : (x == 0) = false := by simpa using hx0
                clear hbad hx0 hk9 hz
                go_wp2
                refine bodyPost_ret (results_tmp3 rfl _ _ _) rfl ?_
                exact ⟨by rw [hv.out]; rfl, rfl⟩
          · have hv : Hid (lebP bs = lebGo (k + 1) (acc + (x % 128).toNat * 128 ^ k) (bs.drop (k + 1))) := by show _ = _; rw [hg2.out]; exact lebGo_on hbad hx
            obtain ⟨nn, hnn⟩ : ∃ nn, nn = acc + (x % 128).toNat * 128 ^ k := ⟨_, rfl⟩
            rw [← hnn] at hv hor hnx
            have hx' : (128 : Int) ≤ x := by omega
            clear hbad hk9 hnn hu hx
            go_wp2
            go_roundg n'
            case measure => omega
            case rel => exact ⟨k + 1, nn, rfl, by go_num, by omega, hv, hnx, rfl⟩
    · have hv : Hid (lebP bs = none) := by show _ = _; rw [hg.out, List.drop_of_length_le (by omega)]; rfl
      go_wp2
      refine bodyPost_ret (results_tmp3 rfl _ _ _) rfl ?_
      exact ⟨by rw [hv.out]; rfl, rfl⟩
end Go.Proofs.YtikgplhcadomcaaGreat

namespace Go.Proofs.YtikgplhcadomcaaGreat
open Go.RowKit
set_option linter.unusedVariables false
set_option linter.unusedSimpArgs false

theorem rd_str {W W' : World} {b off : Nat} {bs : List Int} {k c : Nat} (hk : k ≤ bs.length) (hb : b < W.heap.size) (hc : ∀ (i : Nat) (x : Int), bs[i]? = some x → ∀ (j : Nat) (v : Value), (u8e x)[j]? = some v → W.cell? ⟨b, off + i * 1 + j, none⟩ = some v)
    (hB : Below W.heap.size W W') : (convert 51 9 (.slice (some ⟨b, off, none⟩) k c)).run Tryz.prog W' = .ok (.string (strOfNums (bs.take k))) W' := by
  refine run_convert_bytes_arg W' 51 5 Tryz.underlying51 Tryz.underlying5 b off k c (bs.take k) (by simp; omega) (fun i hi => ?_) 9 Tryz.underlying9
  have hlt : i < bs.length := by omega
  have h1 := hc i bs[i] (List.getElem?_eq_getElem hlt) 0 _ rfl
  rw [hB.cell (by show b < _; exact hb)]
  simp only [Nat.mul_one, Nat.add_zero] at h1
  rw [h1, List.getD_eq_getElem?_getD, List.getElem?_take_of_lt hi, List.getElem?_eq_getElem hlt]
  rfl

/-! ### Plain: the prefix of bytes of 128 and more is that of the number's own bytes -/
theorem lebI_step {x m : Nat} (hx : x < 128) (h : 0 < m) : lebI (x + m * 128) = ((x + 128 : Nat) : Int) :: lebI m := by
  rw [lebI_ge (by omega)]
  have e1 : (x + m * 128) % 128 = x := by omega
  have e2 : (x + m * 128) / 128 = m := by omega
  rw [e1, e2]
def Pre (k acc : Nat) (l : List Int) : Prop := acc < 128 ^ k ∧ ∀ m, 0 < m → lebI (acc + m * 128 ^ k) = l ++ lebI m
theorem Pre.nil : Pre 0 0 [] := ⟨by simp, fun m h => by simp⟩
theorem Pre.next {k acc : Nat} {l : List Int} {x : Int} (h : Pre k acc l) (hx : 128 ≤ x) (hx2 : x ≤ 255) : Pre (k + 1) (acc + (x % 128).toNat * 128 ^ k) (l ++ [x]) := by
  refine ⟨acc_next h.1, fun m hm => ?_⟩
  have e : acc + (x % 128).toNat * 128 ^ k + m * 128 ^ (k + 1) = acc + ((x % 128).toNat + m * 128) * 128 ^ k := by
    rw [Nat.pow_succ, Nat.add_mul, Nat.mul_assoc, Nat.mul_comm 128, Nat.add_assoc]
  rw [e, h.2 _ (by omega), lebI_step (by omega) hm]
  have e2 : (((x % 128).toNat + 128 : Nat) : Int) = x := by omega
  rw [e2]
  simp
theorem lebI_short {k n : Nat} (h : n < 128 ^ k) (hk : 0 < k) : (lebI n).length ≤ k := by
  have key : ∀ (k : Nat) (n : Nat), n < 128 ^ (k + 1) → (lebI n).length ≤ k + 1 := by
    intro k
    induction k with
    | zero => intro n hn; rw [lebI_lt (by simpa using hn)]; simp
    | succ k ih =>
      intro n hn
      by_cases h : n < 128
      · rw [lebI_lt h]; simp
      · rw [lebI_ge h]
        have := ih (n / 128) (Nat.div_lt_of_lt_mul (by rw [Nat.pow_succ] at hn; omega))
        simp only [List.length_cons]
        omega
  have := key (k - 1) n (by rwa [show k - 1 + 1 = k by omega])
  omega
theorem Pre.last {k acc : Nat} {l : List Int} {x : Int} (h : Pre k acc l) (hl : l.length = k) (h0 : 0 ≤ x) (hx : x < 128) : (lebI (acc + (x % 128).toNat * 128 ^ k) = l ++ [x]) ↔ ¬ (x = 0 ∧ 0 < k) := by
  constructor
  · rintro h1 ⟨rfl, h2⟩
    have h3 := lebI_short h.1 h2
    simp only [Int.zero_emod, Int.toNat_zero, Nat.zero_mul, Nat.add_zero] at h1
    rw [h1] at h3
    simp at h3
    omega
  · intro h1
    by_cases hx0 : x = 0
    · subst hx0
      have hk : k = 0 := by omega
      subst hk
      have ha := h.1
      simp at ha
      subst ha
      have : l = [] := List.eq_nil_of_length_eq_zero hl
      subst this
      simp [lebI_lt]
    · rw [h.2 _ (by omega), lebI_lt (by omega)]
      have e2 : (((x % 128).toNat : Nat) : Int) = x := by omega
      rw [e2]

end Go.Proofs.YtikgplhcadomcaaGreat

namespace Go.Proofs.YtikgplhcadomcaaGreat
open Go.RowKit
set_option linter.unusedVariables false
set_option linter.unusedSimpArgs false

def textI (s : Str) : List Int := lebI s.size ++ strBs s
/-- A writer at block g: it holds bs. -/
def WrAt (B : Nat) (W : World) (g : Nat) (bs : List Int) : Prop := B ≤ g ∧ ∃ v, W.heap[g]? = some (.cells #[v] 216 (0, 0)) ∧ Own u8e 1 5 B W v bs
theorem wr_cell {W : World} {g : Nat} {v : Value} {t : TypeId} {fr : Nat × Nat} (h : W.heap[g]? = some (.cells #[v] t fr)) : W.cell? ⟨g, 0, none⟩ = some v := by rw [blk_cell h]; rfl
theorem WrAt.below {B g : Nat} {W W' : World} {bs : List Int} (h : WrAt B W g bs) (hb : Below W.heap.size W W') : WrAt B W' g bs := by
  obtain ⟨h1, v, h2, h3⟩ := h
  exact ⟨h1, v, blk_below hb h2 (blk_lt h2), h3.below hb⟩
theorem WrAt.lt {B g : Nat} {W : World} {bs : List Int} (h : WrAt B W g bs) : g < W.heap.size := by
  obtain ⟨_, v, h2, _⟩ := h
  exact blk_lt h2
theorem own_not {B g : Nat} {W : World} {v u : Value} {bs : List Int} (h : Own u8e 1 5 B W v bs) (hg : W.heap[g]? = some (.cells #[u] 216 (0, 0))) : v.ownBlock ≠ some g := by
  rcases h.2 with ⟨rfl, h0⟩ | ⟨g', cap, cur, rfl, hb, hh, h1, h2, h3, h4⟩
  · intro e; cases e
  · intro e
    have e' : g' = g := by injection e
    subst e'
    rw [hg] at hh
    injection hh with hh
    injection hh with _ hh _
    revert hh
    decide
theorem WrAt.put {B g : Nat} {W : World} {bs' : List Int} {v u : Value} (h1 : B ≤ g) (h2 : W.heap[g]? = some (.cells #[u] 216 (0, 0))) (ho : Own u8e 1 5 B W v bs') (hv : v.ownBlock ≠ some g) : WrAt B (W.setCell ⟨g, 0, none⟩ v) g bs' :=
  ⟨h1, v, blk_set' h2 0 v rfl, ho.far hv v⟩
theorem WrAt.set {B g : Nat} {W : World} {bs bs' : List Int} {v : Value} (h : WrAt B W g bs) (ho : Own u8e 1 5 B W v bs') (hv : v.ownBlock ≠ some g) : WrAt B (W.setCell ⟨g, 0, none⟩ v) g bs' := by
  obtain ⟨h1, u, h2, h3⟩ := h
  exact ⟨h1, v, blk_set' h2 0 v rfl, ho.far hv v⟩

set_option maxRecDepth 100000 in
set_option maxHeartbeats 1000000 in
theorem wNum_calls (B : Nat) (w : World) (g : Nat) (bs : List Int) (p n : Nat) (hn : n < 18446744073709551616) (hl : bs.length ≤ 1000000) (h : WrAt B w g bs) (hp : w.cell? ⟨p, 0, none⟩ = some (.int .u64 n)) (hpl : p < w.heap.size) :
    Calls Tryz.prog 136 #[.pointer (some ⟨g, 0, none⟩), .slice (some ⟨p, 0, none⟩) 1 1] w fun e w' => e = .returned (.tuple #[]) ∧ WrAt B w' g (bs ++ lebI n) ∧ Below B w w' ∧ KeptT w w' := by
  have HW := Lib.hid h
  have HP := Lib.hid hp
  obtain ⟨h1, v, h2, h3⟩ := h
  obtain ⟨A, c, rfl, k1, k2, kr, -⟩ := h3.rd u8ok
  have KR := Lib.hid kr
  have HG := Lib.hid h2
  have c0 : w.cell? ⟨g, 0, none⟩ = some (.slice A bs.length c) := by rw [blk_cell h2]; rfl
  have hBw : Hid (B ≤ w.heap.size) := by show _ ≤ _; have := blk_lt h2; omega
  clear hp h2 h3 kr
  go_enter Tryz.func136, Tryz.ntmps136
  go_wp2_with fail
  refine (lebPut_calls _ A c bs p n hn hl KR.out HP.out hpl).mono ?_
  rintro e w1 ⟨v1, rfl, ho1, hb1⟩
  have W1 := Lib.hid (HW.out.below hb1)
  have O1 := Lib.hid (ho1.mono hBw.out)
  have hgl := Lib.hid HW.out.lt
  have hv1 : Hid (v1.ownBlock ≠ some g) := fun e => by have := (ho1.lt _ e).1; have := hgl.out; omega
  have T1 := Lib.hid (KeptT.below hb1)
  have B1 : Hid (Below B w w1) := ⟨hb1.os, hb1.tape, hb1.output, hb1.size, fun i hi => hb1.block i (Nat.lt_of_lt_of_le hi hBw.out)⟩
  have G1 := Lib.hid (blk_below hb1 HG.out hgl.out)
  have c1 : w1.cell? ⟨g, 0, none⟩ = some (.slice A bs.length c) := by rw [blk_cell G1.out]; rfl
  have f1 := blk_free G1.out 0
  have hgl1 := blk_lt G1.out
  obtain ⟨bs', hbs'⟩ : ∃ x, x = bs ++ lebI n := ⟨_, rfl⟩
  rw [← hbs'] at ho1 O1
  have HB' := Lib.hid hbs'
  obtain ⟨A1, c1', rfl, -, -, -, -⟩ := ho1.rd u8ok
  clear c0 ho1 hb1 hbs'
  go_wp2
  go_end0
  rw [← HB'.out]
  exact ⟨rfl, W1.out.set O1.out hv1.out, bl_set B1.out h1 _, T1.out.trans (KeptT.set G1.out)⟩

set_option maxRecDepth 100000 in
set_option maxHeartbeats 1000000 in
theorem wText_calls (B : Nat) (w : World) (g : Nat) (bs : List Int) (s : Str) (hs : s.size ≤ 1000000) (hl : bs.length ≤ 1000000) (h : WrAt B w g bs) :
    Calls Tryz.prog 137 #[.pointer (some ⟨g, 0, none⟩), .string s] w fun e w' => e = .returned (.tuple #[]) ∧ WrAt B w' g (bs ++ textI s) ∧ Below B w w' ∧ KeptT w w' := by
  have HW := Lib.hid h
  have h1 := h.1
  have hgl := h.lt
  have h10 := Lib.hid (lebI_len10 s.size (by omega))
  have hw : IntKind.u64.wrap (s.size : Int) = (s.size : Int) := by rw [IntKind.wrap_u64]; omega
  have t1 : Hid ((Value.int .u8 0).cells.size = 1) := rfl
  have hsl := Lib.hid (strBs_len s)
  have W0 : Hid (WrAt B (w.alloc (.cells #[.int .u64 (s.size : Int)] 28)) g bs) := h.below (bl_alloc (Below.refl _ _) _)
  have p0 : Hid ((w.alloc (.cells #[.int .u64 (s.size : Int)] 28)).cell? ⟨w.heap.size, 0, none⟩ = some (.int .u64 (s.size : Int))) := by show _ = _; rw [blk_cell (blk_new w _)]; rfl
  have z0 : Hid (w.heap.size < (w.alloc (.cells #[.int .u64 (s.size : Int)] 28)).heap.size) := by show _ < _; simp
  have B0 : Hid (Below B w (w.alloc (.cells #[.int .u64 (s.size : Int)] 28))) := (Below.refl _ _).alloc (by omega) _
  clear h
  go_enter Tryz.func137, Tryz.ntmps137
  go_wp2_with fail
  refine (wNum_calls B _ g bs w.heap.size s.size (by omega) hl W0.out p0.out z0.out).mono ?_
  rintro e w1 ⟨rfl, hW1, hb1, ht1⟩
  have T1 : Hid (KeptT w w1) := KeptT.trans (KeptT.below (bl_alloc (Below.refl _ _) _)) ht1
  have W1 := Lib.hid hW1
  have B1 : Hid (Below B w w1) := B0.out.trans hb1
  obtain ⟨h2, v, h3, ho⟩ := hW1
  have HO := Lib.hid ho
  have HG := Lib.hid h3
  obtain ⟨A1, c1, rfl, -, -, -, -⟩ := ho.rd u8ok
  have c0 : w1.cell? ⟨g, 0, none⟩ = some (.slice A1 (bs ++ lebI s.size).length c1) := by rw [blk_cell h3]; rfl
  have hz1 : Hid (B ≤ w1.heap.size) := by show _ ≤ _; have := blk_lt h3; omega
  have l1 : Hid ((bs ++ lebI s.size).length + (strBs s).length ≤ 140737488355328) := by show _ ≤ _; rw [hsl.out]; have := h10.out; simp; omega
  have l2 : Hid (((bs ++ lebI s.size).length + (strBs s).length) * 1 ≤ 140737488355328) := by show _ ≤ _; have := l1.out; omega
  have hob := Lib.hid ho.lt
  have hng := Lib.hid (own_not ho h3)
  have SS : Hid (Src Tryz.prog 1 9 (.string s) (strBs s).length ((strBs s).flatMap u8e) w1) := strBs_src Tryz.underlying9 s
  obtain ⟨bs2, hbs2⟩ : ∃ x, x = bs ++ lebI s.size := ⟨_, rfl⟩
  rw [← hbs2] at HO c0 l1 l2 W1 hob hng HG
  have HB2 := Lib.hid hbs2
  clear h3 ho hb1 W0 p0 z0 B0 hbs2 h10
  go_wp2_with (at_builtin; refine at_list rfl (fun K hK => op_ownS u8ok _ _ _ _ _ _ _ rfl Tryz.underlying51 infoU8 t1.out B (.slice A1 bs2.length c1) (.string s) bs2 (strBs s) rfl rfl HO.out SS.out hz1.out l2.out l1.out (fun v2 w2 ho2 hg2 => hK _ _ ?_)); obtain ⟨bs3, hbs3⟩ : ∃ x, x = bs2 ++ strBs s := ⟨_, rfl⟩; rw [← hbs3] at ho2; have HB3 := Lib.hid hbs3; have G2 := Lib.hid ((hg2.block _ (blk_lt HG.out) (fun e => hng.out e.symm)).trans HG.out); have B2 := Lib.hid (Below.grown B1.out hg2 hz1.out (fun k e => (hob.out _ e).1)); have O2 := Lib.hid ho2; have N2 := Lib.hid (own_not ho2 G2.out); have T2 := Lib.hid (T1.out.trans (KeptT.grown HO.out hg2)); have cg2 := wr_cell G2.out; have f2 := blk_free G2.out 0; have lg2 := blk_lt G2.out; clear hbs3 hg2; obtain ⟨A2, c2, rfl, -, -, -, -⟩ := Own.rd u8ok ho2; clear ho2)
  go_end0
  have e3 : bs3 = bs ++ textI s := by rw [HB3.out, HB2.out, List.append_assoc]; rfl
  rw [← e3]
  exact ⟨rfl, WrAt.put h1 G2.out O2.out N2.out, bl_set B2.out h1 _, T2.out.trans (KeptT.set G2.out)⟩
set_option maxRecDepth 100000 in
set_option maxHeartbeats 1000000 in
theorem cloneB_calls (w : World) (A : Option Addr) (c : Nat) (bs : List Int) (hl : bs.length ≤ 1000000) (h : Rd u8e 1 w A bs) :
    Calls Tryz.prog 84 #[.slice A bs.length c] w fun e w' => ∃ v', e = .returned v' ∧ Own u8e 1 5 w.heap.size w' v' bs ∧ Below w.heap.size w w' := by
  have t1 : Hid ((Value.int .u8 0).cells.size = 1) := rfl
  have q24 : ∀ (w : World) (a : Option Addr) (n c n' c' : Nat), (binOp .eql 51 (.slice a n c) (.slice none n' c')).run Tryz.prog w = .ok (.bool a.isNone) w := fun w a n c n' c' => Lib.run_eql_slice_nil w _ _ a n c n' c' Tryz.underlying51
  cases A with
  | none =>
    have hb0 : bs = [] := by
      rcases h with h | ⟨_, _, h, _⟩
      · exact h
      · cases h
    subst hb0
    clear h
    go_enter Tryz.func84, Tryz.ntmps84
    go_wp2
    go_ret
    exact ⟨_, rfl, Own.nil, Below.refl _ _⟩
  | some a =>
    have hb1 : Hid (Below w.heap.size w (w.alloc (.cells #[] 5))) := bl_alloc (Below.refl _ w) _
    have HS : Hid (Src Tryz.prog 1 51 (.slice (some a) bs.length c) bs.length (bs.flatMap u8e) (w.alloc (.cells #[] 5))) := Rd.src u8ok Tryz.underlying51 c (h.below hb1.out (Nat.le_refl _))
    have HO : Hid (Own u8e 1 5 w.heap.size (w.alloc (.cells #[] 5)) (.slice (some ⟨w.heap.size, 0, none⟩) 0 0) []) :=
      ⟨rfl, .inr ⟨w.heap.size, 0, #[], rfl, Nat.le_refl _, blk_new w _, Nat.le_refl _, Nat.zero_le _, rfl, rfl⟩⟩
    have hz : Hid (w.heap.size ≤ (w.alloc (.cells #[] 5)).heap.size) := by show _ ≤ _; simp
    have l1 : Hid ((([] : List Int).length + bs.length) * 1 ≤ 140737488355328) := by show _ ≤ _; simp; omega
    have l2 : Hid (([] : List Int).length + bs.length ≤ 140737488355328) := by show _ ≤ _; simp; omega
    clear h
    go_enter Tryz.func84, Tryz.ntmps84
    go_wp2_with (at_builtin; refine at_list rfl (fun K hK => op_ownS u8ok _ _ _ _ _ _ _ rfl Tryz.underlying51 infoU8 t1.out w.heap.size (.slice (some ⟨w.heap.size, 0, none⟩) 0 0) (.slice (some a) bs.length c) [] bs rfl rfl HO.out HS.out hz.out l1.out l2.out (fun v' w' ho hg => hK _ _ ?_)))
    go_ret
    exact ⟨_, rfl, by simpa using ho, hb1.out.grown hg hz.out (fun k e => by cases e; exact Nat.le_refl _)⟩
set_option maxRecDepth 100000 in
set_option maxHeartbeats 1000000 in
theorem wBytes_calls (B : Nat) (w : World) (g : Nat) (bs : List Int) (hl : bs.length ≤ 1000000) (h : WrAt B w g bs) :
    Calls Tryz.prog 138 #[.pointer (some ⟨g, 0, none⟩)] w fun e w' => ∃ v', e = .returned v' ∧ Own u8e 1 5 w.heap.size w' v' bs ∧ Below w.heap.size w w' := by
  obtain ⟨h1, v, h2, h3⟩ := h
  obtain ⟨A, c, rfl, k1, k2, kr, -⟩ := h3.rd u8ok
  have KR := Lib.hid kr
  have c0 : w.cell? ⟨g, 0, none⟩ = some (.slice A bs.length c) := by rw [blk_cell h2]; rfl
  clear h3 kr h2
  go_enter Tryz.func138, Tryz.ntmps138
  go_wp2_with fail
  refine (cloneB_calls _ A c bs hl KR.out).mono ?_
  rintro e w1 ⟨v1, rfl, ho1, hb1⟩
  have O1 := Lib.hid ho1
  clear ho1
  go_wp2
  go_ret
  exact ⟨_, rfl, O1.out, hb1⟩
end Go.Proofs.YtikgplhcadomcaaGreat

namespace Go.Proofs.YtikgplhcadomcaaGreat
open Go.RowKit
set_option linter.unusedVariables false
set_option linter.unusedSimpArgs false

/-! ### Plain: what a reader takes -/
def rdNum (lim : Nat) (bs : List Int) (bad : Bool) : Nat × List Int × Bool :=
  if bad then (0, [], true) else match lebP bs with
    | none => (0, [], true)
    | some (n, k) => if lim < n then (0, [], true) else (n, bs.drop k, false)
def rdText (lim : Nat) (bs : List Int) (bad : Bool) : Str × List Int × Bool :=
  if (rdNum lim bs bad).2.1.length < (rdNum lim bs bad).1 ∨ (rdNum lim bs bad).2.2 = true then (⟨#[]⟩, [], true)
  else (strOfNums ((rdNum lim bs bad).2.1.take (rdNum lim bs bad).1), (rdNum lim bs bad).2.1.drop (rdNum lim bs bad).1, false)
theorem lebGo_size : ∀ (bs : List Int) (i acc n k : Nat), bytesL bs → acc < 128 ^ i → lebGo i acc bs = some (n, k) → k ≤ i + bs.length ∧ n < 18446744073709551616 ∧ bs ≠ [] := by
  intro bs
  induction bs with
  | nil => intro i acc n k _ _ h; simp [lebGo] at h
  | cons x bs ih =>
    intro i acc n k hb ha h
    obtain ⟨x0, x1⟩ := hb x (by simp)
    refine ⟨?_, ?_, by simp⟩ <;>
    · by_cases hbad : 10 ≤ i ∨ (i = 9 ∧ 1 < x)
      · rw [lebGo_bad hbad] at h; cases h
      · by_cases hx : x < 128
        · by_cases hz : x = 0 ∧ 0 < i
          · rw [lebGo_zero hbad hx hz] at h; cases h
          · rw [lebGo_end hbad hx hz] at h
            have := acc_u64 (x := x) x0 ha hbad
            cases h
            simp
            try omega
        · rw [lebGo_on hbad hx] at h
          have := ih (i + 1) _ n k (fun y hy => hb y (by simp [hy])) (acc_next ha) h
          simp
          omega
theorem lebP_size {bs : List Int} {n k : Nat} (hb : bytesL bs) (h : lebP bs = some (n, k)) : k ≤ bs.length ∧ n < 18446744073709551616 ∧ bs ≠ [] := by
  have := lebGo_size bs 0 0 n k hb (by simp) h
  simpa using this
theorem bytesL_drop {xs : List Int} (h : bytesL xs) (k : Nat) : bytesL (xs.drop k) := fun x hx => h x (List.mem_of_mem_drop hx)
theorem rdNum_bad (lim : Nat) (bs : List Int) : rdNum lim bs true = (0, [], true) := by simp [rdNum]
theorem rdNum_none {lim : Nat} {bs : List Int} (h : lebP bs = none) (bad : Bool) : rdNum lim bs bad = (0, [], true) := by cases bad <;> simp [rdNum, h]
theorem rdNum_big {lim : Nat} {bs : List Int} {n k : Nat} (h : lebP bs = some (n, k)) (hl : lim < n) (bad : Bool) : rdNum lim bs bad = (0, [], true) := by cases bad <;> simp [rdNum, h, hl]
theorem rdNum_some {lim : Nat} {bs : List Int} {n k : Nat} (h : lebP bs = some (n, k)) (hl : n ≤ lim) : rdNum lim bs false = (n, bs.drop k, false) := by simp [rdNum, h, Nat.not_lt.2 hl]
theorem rdText_bad {lim : Nat} {bs bs1 : List Int} {bad bad1 : Bool} {n : Nat} (h : rdNum lim bs bad = (n, bs1, bad1)) (hb : bs1.length < n ∨ bad1 = true) : rdText lim bs bad = (⟨#[]⟩, [], true) := by
  unfold rdText; rw [h, if_pos hb]
theorem rdText_ok {lim : Nat} {bs bs1 : List Int} {bad bad1 : Bool} {n : Nat} (h : rdNum lim bs bad = (n, bs1, bad1)) (hb : n ≤ bs1.length) (h2 : bad1 = false) : rdText lim bs bad = (strOfNums (bs1.take n), bs1.drop n, false) := by
  unfold rdText; rw [h, if_neg (by subst h2; simp; omega)]
theorem rdNum_true {lim : Nat} {bs bs1 : List Int} {bad : Bool} {n : Nat} (h : rdNum lim bs bad = (n, bs1, true)) : n = 0 := by
  unfold rdNum at h
  split at h
  · cases h; rfl
  · split at h
    · cases h; rfl
    · split at h
      · cases h; rfl
      · cases h
theorem rdNum_le (lim : Nat) (bs : List Int) (bad : Bool) : (rdNum lim bs bad).1 ≤ lim ∧ (rdNum lim bs bad).2.1.length ≤ bs.length := by
  unfold rdNum
  cases bad
  · simp only [Bool.false_eq_true, if_false]
    split
    · simp
    · split
      · simp
      · simp; omega
  · simp

theorem lebOf_some {w : World} {A : Option Addr} {c : Nat} {bs : List Int} (hl : bs.length ≤ 1000000) (hb : bytesL bs) (h : Rd u8e 1 w A bs) {n k : Nat} (e : lebP bs = some (n, k)) :
    Calls Tryz.prog 164 #[.slice A bs.length c] w fun e w' => e = .returned (.tuple #[.int .u64 (n : Int), .int .i64 (k : Int), .int .i64 0]) ∧ w = w' := by
  have := lebOf_calls w A c bs hl hb h
  rw [e] at this
  exact this
theorem lebOf_none {w : World} {A : Option Addr} {c : Nat} {bs : List Int} (hl : bs.length ≤ 1000000) (hb : bytesL bs) (h : Rd u8e 1 w A bs) (e : lebP bs = none) :
    Calls Tryz.prog 164 #[.slice A bs.length c] w fun e w' => e = .returned (.tuple #[.int .u64 0, .int .i64 0, .int .i64 20]) ∧ w = w' := by
  have := lebOf_calls w A c bs hl hb h
  rw [e] at this
  exact this
/-! ### A reader in memory: at block g, its bytes and all else that it needs below B -/
def RAt (t : TypeId) (pl : Prop) (B g : Nat) (W : World) (bs : List Int) (bad : Bool) : Prop :=
  g < B ∧ B ≤ W.heap.size ∧ bytesL bs ∧ bs.length ≤ 1000000 ∧ ∃ A c, W.heap[g]? = some (.cells #[.slice A bs.length c, .bool bad] t (0, 0)) ∧ bs.length ≤ c ∧ Rd u8e 1 W A bs ∧
    (bs ≠ [] → ∀ a, A = some a → a.block ≠ g ∧ a.block < B) ∧ (pl → A = none ∨ ∃ b off, A = some ⟨b, off, none⟩) ∧ (bad = true → bs = [] ∧ A = none)
section
variable {t : TypeId} {pl : Prop} {B g : Nat} {W W' : World} {bs : List Int} {bad : Bool}
theorem RAt.grown {g' : Nat} (h : RAt t pl B g W bs bad) (hg : W.grownBy W' (some g')) (hB : B ≤ g') : RAt t pl B g W' bs bad := by
  obtain ⟨h1, h2, h3, h4, A, c, k1, k2, k3, k4, k5, k6⟩ := h
  refine ⟨h1, Nat.le_trans h2 hg.size, h3, h4, A, c, (hg.block g (blk_lt k1) (fun e => by injection e; omega)).trans k1, k2, k3.grown' hg (fun hn a ha e => ?_), k4, k5, k6⟩
  have := (k4 hn a ha).2
  injection e
  omega
theorem RAt.below (h : RAt t pl B g W bs bad) (hb : Below B W W') : RAt t pl B g W' bs bad := by
  obtain ⟨h1, h2, h3, h4, A, c, k1, k2, k3, k4, k5, k6⟩ := h
  refine ⟨h1, Nat.le_trans h2 hb.size, h3, h4, A, c, (hb.block g h1).trans k1, k2, ?_, k4, k5, k6⟩
  rcases k3 with k3 | ⟨b, off, rfl, hlt, hc⟩
  · exact .inl k3
  · by_cases hn : bs = []
    · exact .inl hn
    · refine .inr ⟨b, off, rfl, Nat.lt_of_lt_of_le hlt hb.size, fun i x hx j v hv => ?_⟩
      rw [hb.cell (p := ⟨b, off + i * 1 + j, none⟩) (k4 hn _ rfl).2]
      exact hc i x hx j v hv
theorem RAt.fails {u v : Value} (h1 : g < B) (h2 : B ≤ W.heap.size) (h : W.heap[g]? = some (.cells #[u, v] t (0, 0))) : RAt t True B g ((W.setCell ⟨g, 0, none⟩ (.slice none 0 0)).setCell ⟨g, 1, none⟩ (.bool true)) [] true := by
  refine ⟨h1, by simpa using h2, (fun x hx => by cases hx), by simp, none, 0, blk_set' (blk_set' h 0 (.slice none 0 0) rfl) 1 (.bool true) rfl, by simp, .inl rfl, fun hn => absurd rfl hn, fun _ => .inl rfl, fun _ => ⟨rfl, rfl⟩⟩
theorem fails_grown (W : World) (g : Nat) (u v : Value) : W.grownBy ((W.setCell ⟨g, 0, none⟩ u).setCell ⟨g, 1, none⟩ v) (some g) := grown_trans (grown_set _ _ _ _) (grown_set _ _ _ _)
theorem RAt.cut {b off c k off' n' c' : Nat} (h1 : g < B) (h2 : B ≤ W.heap.size) (h3 : bytesL bs) (h4 : bs.length ≤ 1000000) (h : W.heap[g]? = some (.cells #[.slice (some ⟨b, off, none⟩) bs.length c, .bool false] t (0, 0)))
    (hc : bs.length ≤ c) (hr : Rd u8e 1 W (some ⟨b, off, none⟩) bs) (hn : bs ≠ [] → b ≠ g ∧ b < B) (hk : k ≤ bs.length) (hn' : n' = bs.length - k) (ho : k < bs.length → off' = off + k) (hc' : n' ≤ c') :
    RAt t True B g (W.setCell ⟨g, 0, none⟩ (.slice (some ⟨b, off', none⟩) n' c')) (bs.drop k) false := by
  refine ⟨h1, by simpa using h2, bytesL_drop h3 k, by simp; omega, some ⟨b, off', none⟩, c', ?_, by simp; omega, ?_, ?_, fun _ => .inr ⟨b, off', rfl⟩, fun e => by cases e⟩
  · rw [List.length_drop, ← hn']
    exact blk_set' h 0 _ rfl
  · rcases hr with hr | ⟨b', off', e, hlt, hcc⟩
    · subst hr; exact .inl (by simp)
    · cases e
      refine .inr ⟨b, off', rfl, by simpa using hlt, fun i x hx j v hv => ?_⟩
      have hbs : bs ≠ [] := fun e => by subst e; simp at hx
      rw [World.cell?_of_block (w := W) (a := ⟨b, off' + i * 1 + j, none⟩) (Below.heap_setCell _ _ _ _ (hn hbs).1)]
      rw [List.getElem?_drop] at hx
      have := hcc (k + i) x hx j v hv
      have hki : k + i < bs.length := (List.getElem?_eq_some_iff.1 hx).1
      rw [← this]
      congr 2
      rw [ho (by omega)]
      omega
  · intro hd a ha
    cases ha
    exact hn (fun e => hd (by subst e; simp))
end

set_option maxRecDepth 100000 in
set_option maxHeartbeats 1000000 in
theorem prFail_calls (w : World) (g : Nat) (u v : Value) (h : w.heap[g]? = some (.cells #[u, v] 241 (0, 0))) :
    Calls Tryz.prog 165 #[.pointer (some ⟨g, 0, none⟩)] w fun e w' => e = .returned (.tuple #[]) ∧ w' = ((w.setCell ⟨g, 0, none⟩ (.slice none 0 0)).setCell ⟨g, 1, none⟩ (.bool true)) := by
  have c0 := blk_cell h 0
  have c1 := blk_cell h 1
  have f0 := blk_free h 0
  have f1 := blk_free h 1
  have hlt := blk_lt h
  clear h
  go_enter Tryz.func165, Tryz.ntmps165
  go_wp2
  go_end0
  exact ⟨rfl, rfl⟩

set_option maxRecDepth 100000 in
set_option maxHeartbeats 1000000 in
theorem prOk_calls (w : World) (g : Nat) (u : Value) (bad : Bool) (h : w.heap[g]? = some (.cells #[u, .bool bad] 241 (0, 0))) :
    Calls Tryz.prog 163 #[.pointer (some ⟨g, 0, none⟩)] w fun e w' => e = .returned (.bool (!bad)) ∧ w = w' := by
  have c1 : w.cell? ⟨g, 1, none⟩ = some (.bool bad) := by rw [blk_cell h]; rfl
  have hlt := blk_lt h
  clear h
  go_enter Tryz.func163, Tryz.ntmps163
  go_wp2
  go_ret
  exact ⟨rfl, rfl⟩
set_option maxRecDepth 100000 in
set_option maxHeartbeats 1000000 in
theorem prLeft_calls (w : World) (g : Nat) (A : Option Addr) (n c : Nat) (bad : Bool) (h0 : bad = true → n = 0) (h : w.heap[g]? = some (.cells #[.slice A n c, .bool bad] 241 (0, 0))) :
    Calls Tryz.prog 166 #[.pointer (some ⟨g, 0, none⟩)] w fun e w' => e = .returned (.int .i64 (n : Int)) ∧ w = w' := by
  have c0 : w.cell? ⟨g, 0, none⟩ = some (.slice A n c) := by rw [blk_cell h]; rfl
  have hlt := blk_lt h
  have H := Lib.hid h
  clear h
  go_enter Tryz.func166, Tryz.ntmps166
  go_wp2_with fail
  refine (prOk_calls _ g _ bad H.out).mono ?_
  rintro e w1 ⟨rfl, rfl⟩
  cases bad
  · clear h0
    go_wp2
    go_ret
    exact ⟨rfl, rfl⟩
  · have := h0 rfl
    subst this
    clear h0
    go_wp2
    go_ret
    exact ⟨rfl, rfl⟩

set_option maxRecDepth 100000 in
set_option maxHeartbeats 1000000 in
theorem prNum_calls (pl : Prop) (B g : Nat) (w : World) (bs : List Int) (bad : Bool) (lim n1 : Nat) (bs1 : List Int) (bad1 : Bool) (he : rdNum lim bs bad = (n1, bs1, bad1)) (h : RAt 241 pl B g w bs bad) :
    Calls Tryz.prog 123 #[.pointer (some ⟨g, 0, none⟩), .int .u64 lim] w fun e w' => e = .returned (.int .u64 n1) ∧ RAt 241 True B g w' bs1 bad1 ∧ w.grownBy w' (some g) := by
  have HA := Lib.hid h
  obtain ⟨h1, h2, h3, h4, A, c, k1, k2, k3, k4, k5, k6⟩ := h
  have H1 := Lib.hid h1
  have H2 := Lib.hid h2
  have H3 := Lib.hid h3
  have K1 := Lib.hid k1
  have K3 := Lib.hid k3
  have K4 := Lib.hid k4
  have K6 := Lib.hid k6
  have HE := Lib.hid he
  have hlt := blk_lt k1
  have c0 : w.cell? ⟨g, 0, none⟩ = some (.slice A bs.length c) := by rw [blk_cell k1]; rfl
  have c1 : w.cell? ⟨g, 1, none⟩ = some (.bool bad) := by rw [blk_cell k1]; rfl
  have f0 := blk_free k1 0
  clear h1 h2 h3 k1 k3 k4 k5 k6 he
  cases bad
  · rcases hp : lebP bs with _ | ⟨n, k⟩
    · have HP := Lib.hid hp
      have he := HE.out
      rw [rdNum_none hp] at he
      cases he
      clear hp
      go_enter Tryz.func123, Tryz.ntmps123
      go_wp2_with fail
      refine (prOk_calls _ g _ false K1.out).mono ?_
      rintro e w1 ⟨rfl, rfl⟩
      go_wp2_with fail
      refine (lebOf_none h4 H3.out K3.out HP.out).mono ?_
      rintro e w1 ⟨rfl, rfl⟩
      go_wp2_with fail
      refine (prFail_calls _ g _ _ K1.out).mono ?_
      rintro e w1 ⟨rfl, rfl⟩
      go_wp2
      go_ret
      exact ⟨rfl, RAt.fails H1.out H2.out K1.out, fails_grown _ _ _ _⟩
    · have HP := Lib.hid hp
      obtain ⟨hk, hn64, hne⟩ := lebP_size H3.out hp
      obtain ⟨b, off, rfl⟩ : ∃ b off, A = some ⟨b, off, none⟩ := by
        rcases K3.out with h | ⟨b, off, h, _⟩
        · exact absurd h hne
        · exact ⟨b, off, h⟩
      by_cases hln : lim < n
      · have he := HE.out
        rw [rdNum_big hp hln] at he
        cases he
        clear hp hne
        go_enter Tryz.func123, Tryz.ntmps123
        go_wp2_with fail
        refine (prOk_calls _ g _ false K1.out).mono ?_
        rintro e w1 ⟨rfl, rfl⟩
        go_wp2_with fail
        refine (lebOf_some h4 H3.out K3.out HP.out).mono ?_
        rintro e w1 ⟨rfl, rfl⟩
        go_wp2_with fail
        refine (prFail_calls _ g _ _ K1.out).mono ?_
        rintro e w1 ⟨rfl, rfl⟩
        go_wp2
        go_ret
        exact ⟨rfl, RAt.fails H1.out H2.out K1.out, fails_grown _ _ _ _⟩
      · have hln' : n ≤ lim := by omega
        have he := HE.out
        rw [rdNum_some hp hln'] at he
        cases he
        clear hp hne hln
        go_enter Tryz.func123, Tryz.ntmps123
        go_wp2_with fail
        refine (prOk_calls _ g _ false K1.out).mono ?_
        rintro e w1 ⟨rfl, rfl⟩
        go_wp2_with fail
        refine (lebOf_some h4 H3.out K3.out HP.out).mono ?_
        rintro e w1 ⟨rfl, rfl⟩
        go_wp2
        all_goals
          go_ret
          exact ⟨rfl, RAt.cut H1.out H2.out H3.out h4 K1.out k2 K3.out (fun hn => K4.out hn _ rfl) hk rfl (by omega) (by omega), grown_set _ _ _ _⟩
  · have he := HE.out
    rw [rdNum_bad] at he
    cases he
    obtain ⟨rfl, rfl⟩ := K6.out rfl
    go_enter Tryz.func123, Tryz.ntmps123
    go_wp2_with fail
    refine (prOk_calls _ g _ true K1.out).mono ?_
    rintro e w1 ⟨rfl, rfl⟩
    go_wp2
    go_ret
    exact ⟨rfl, ⟨H1.out, H2.out, H3.out, h4, none, c, K1.out, k2, K3.out, K4.out, fun _ => .inl rfl, fun _ => ⟨rfl, rfl⟩⟩, grown_refl _ _⟩

set_option maxRecDepth 100000 in
set_option maxHeartbeats 1000000 in
theorem prText_calls (pl : Prop) (B g : Nat) (w : World) (bs : List Int) (bad : Bool) (lim : Nat) (hl : lim ≤ 1000) (s1 : Str) (bs1 : List Int) (bad1 : Bool) (he : rdText lim bs bad = (s1, bs1, bad1)) (h : RAt 241 pl B g w bs bad) :
    Calls Tryz.prog 124 #[.pointer (some ⟨g, 0, none⟩), .int .i64 lim] w fun e w' => e = .returned (.string s1) ∧ RAt 241 True B g w' bs1 bad1 ∧ w.grownBy w' (some g) := by
  have HA := Lib.hid h
  have HE := Lib.hid he
  have hw : IntKind.u64.wrap (lim : Int) = (lim : Int) := by rw [IntKind.wrap_u64]; omega
  obtain ⟨n, bs2, bad2, hq⟩ : ∃ n bs2 bad2, rdNum lim bs bad = (n, bs2, bad2) := ⟨_, _, _, rfl⟩
  have HQ := Lib.hid hq
  have hn : n ≤ lim := by have := (rdNum_le lim bs bad).1; rw [hq] at this; exact this
  clear h he hq
  go_enter Tryz.func124, Tryz.ntmps124
  go_wp2_with fail
  refine (prNum_calls pl B g _ bs bad lim n bs2 bad2 HQ.out HA.out).mono ?_
  rintro e w1 ⟨rfl, hr1, hg1⟩
  have G1 := Lib.hid hg1
  obtain ⟨h1, h2, h3, h4, A, c, k1, k2, k3, k4, k5, k6⟩ := hr1
  have H1 := Lib.hid h1
  have H2 := Lib.hid h2
  have H3 := Lib.hid h3
  have K1 := Lib.hid k1
  have K3 := Lib.hid k3
  have K4 := Lib.hid k4
  have K5 := Lib.hid (k5 trivial)
  have K6 := Lib.hid k6
  have hlt := blk_lt k1
  have c0 : w1.cell? ⟨g, 0, none⟩ = some (.slice A bs2.length c) := by rw [blk_cell k1]; rfl
  have c1 : w1.cell? ⟨g, 1, none⟩ = some (.bool bad2) := by rw [blk_cell k1]; rfl
  have f0 := blk_free k1 0
  have hwl : IntKind.u64.wrap (bs2.length : Int) = (bs2.length : Int) := by rw [IntKind.wrap_u64]; omega
  clear h1 h2 h3 k1 k3 k4 k5 k6 hg1
  go_wp2_with fail
  refine (prLeft_calls _ g A bs2.length c bad2 (fun e => by rw [(K6.out e).1]; rfl) K1.out).mono ?_
  rintro e w2 ⟨rfl, rfl⟩
  by_cases hbig : bs2.length < n
  · have he := HE.out
    rw [rdText_bad HQ.out (.inl hbig)] at he
    cases he
    have hbig' : (bs2.length : Int) < (n : Int) := by omega
    go_wp2_with fail
    refine (prFail_calls _ g _ _ K1.out).mono ?_
    rintro e w2 ⟨rfl, rfl⟩
    have KF : Hid (((w1.setCell ⟨g, 0, none⟩ (.slice none 0 0)).setCell ⟨g, 1, none⟩ (.bool true)).heap[g]? = some (.cells #[.slice none 0 0, .bool true] 241 (0, 0))) := blk_set' (blk_set' K1.out 0 (.slice none 0 0) rfl) 1 (.bool true) rfl
    go_wp2_with fail
    refine (prOk_calls _ g _ true KF.out).mono ?_
    rintro e w3 ⟨rfl, rfl⟩
    go_wp2
    go_ret
    exact ⟨rfl, RAt.fails H1.out H2.out K1.out, grown_trans G1.out (fails_grown _ _ _ _)⟩
  · have hbig' : (n : Int) ≤ (bs2.length : Int) := by omega
    have hbig2 : n ≤ bs2.length := by omega
    cases bad2
    · have he := HE.out
      rw [rdText_ok HQ.out hbig2 rfl] at he
      cases he
      rcases K5.out with rfl | ⟨b, off, rfl⟩
      · have hb2 : bs2 = [] := by
          rcases K3.out with h | ⟨b, off, h, _⟩
          · exact h
          · cases h
        subst hb2
        obtain rfl : n = 0 := by simpa using hbig2
        have cn : ∀ m c', (convert 51 9 (.slice none m c')).run Tryz.prog w1 = .ok (.string ⟨#[]⟩) w1 := fun m c' => run_convert_bytes_nil w1 51 5 Tryz.underlying51 Tryz.underlying5 m c' 9 Tryz.underlying9
        clear hbig
        go_wp2_with fail
        refine (prOk_calls _ g _ false K1.out).mono ?_
        rintro e w3 ⟨rfl, rfl⟩
        go_wp2
        go_ret
        exact ⟨rfl, ⟨H1.out, by simpa using H2.out, H3.out, h4, none, _, blk_set' K1.out 0 _ rfl, by simp, .inl rfl, (fun hn => absurd rfl hn), fun _ => .inl rfl, fun e => by cases e⟩, grown_trans G1.out (grown_set _ _ _ _)⟩
      · have hcv : Hid (∀ c', (convert 51 9 (.slice (some ⟨b, off, none⟩) n c')).run Tryz.prog w1 = .ok (.string (strOfNums (bs2.take n))) w1) := by
          intro c'
          rcases K3.out with h0 | ⟨b', off', e, hbl, hcc⟩
          · subst h0
            obtain rfl : n = 0 := by simpa using hbig2
            refine run_convert_bytes_arg w1 51 5 Tryz.underlying51 Tryz.underlying5 b off 0 c' [] rfl (fun i hi => by omega) 9 Tryz.underlying9
          · cases e
            exact rd_str hbig2 hbl hcc (Below.refl _ _)
        have cv := hcv.out
        clear hbig hcv
        go_wp2_with fail
        refine (prOk_calls _ g _ false K1.out).mono ?_
        rintro e w3 ⟨rfl, rfl⟩
        go_wp2
        all_goals
          go_ret
          exact ⟨rfl, RAt.cut H1.out H2.out H3.out h4 K1.out k2 K3.out (fun hn => K4.out hn _ rfl) hbig2 rfl (by omega) (by omega), grown_trans G1.out (grown_set _ _ _ _)⟩
    · have he := HE.out
      rw [rdText_bad HQ.out (.inr rfl)] at he
      cases he
      obtain ⟨rfl, rfl⟩ := K6.out rfl
      obtain rfl := rdNum_true HQ.out
      clear hbig
      go_wp2_with fail
      refine (prOk_calls _ g _ true K1.out).mono ?_
      rintro e w3 ⟨rfl, rfl⟩
      go_wp2
      go_ret
      exact ⟨rfl, ⟨H1.out, H2.out, H3.out, h4, none, c, K1.out, k2, K3.out, K4.out, fun _ => .inl rfl, fun _ => ⟨rfl, rfl⟩⟩, G1.out⟩
end Go.Proofs.YtikgplhcadomcaaGreat

namespace Go.Proofs.YtikgplhcadomcaaGreat
open Go.RowKit
set_option linter.unusedVariables false
set_option linter.unusedSimpArgs false

set_option maxRecDepth 100000 in
set_option maxHeartbeats 1000000 in
theorem prDone_calls (pl : Prop) (B g : Nat) (w : World) (bs : List Int) (bad : Bool) (h : RAt 241 pl B g w bs bad) :
    Calls Tryz.prog 128 #[.pointer (some ⟨g, 0, none⟩)] w fun e w' => e = .returned (.bool (!bad && decide (bs.length = 0))) ∧ w = w' := by
  obtain ⟨h1, h2, h3, h4, A, c, k1, k2, k3, k4, k5, k6⟩ := h
  have K1 := Lib.hid k1
  have hlt := blk_lt k1
  have c0 : w.cell? ⟨g, 0, none⟩ = some (.slice A bs.length c) := by rw [blk_cell k1]; rfl
  have c1 : w.cell? ⟨g, 1, none⟩ = some (.bool bad) := by rw [blk_cell k1]; rfl
  have e0 : ((bs.length : Int) == 0) = decide (bs.length = 0) := by
    by_cases h : bs.length = 0
    · rw [h]; rfl
    · rw [decide_eq_false h, beq_eq_false_iff_ne]; omega
  obtain ⟨r, hr⟩ : ∃ r, decide (bs.length = 0) = r := ⟨_, rfl⟩
  rw [hr] at e0 ⊢
  clear h1 h2 h3 k1 k3 k4 k5 k6 hr
  cases bad
  · go_enter Tryz.func128, Tryz.ntmps128
    go_wp2_with fail
    refine (prOk_calls _ g _ false K1.out).mono ?_
    rintro e w3 ⟨rfl, rfl⟩
    go_wp2
    go_ret
    exact ⟨rfl, rfl⟩
  · go_enter Tryz.func128, Tryz.ntmps128
    go_wp2_with fail
    refine (prOk_calls _ g _ true K1.out).mono ?_
    rintro e w3 ⟨rfl, rfl⟩
    go_wp2
    go_ret
    exact ⟨rfl, rfl⟩

set_option maxRecDepth 100000 in
set_option maxHeartbeats 1000000 in
theorem pRead_calls (w : World) (A : Option Addr) (c : Nat) (bs : List Int) (hl : bs.length ≤ 1000000) (hb : bytesL bs) (h : Rd u8e 1 w A bs) :
    Calls Tryz.prog 122 #[.slice A bs.length c] w fun e w' => ∃ g, e = .returned (.pointer (some ⟨g, 0, none⟩)) ∧ w.heap.size ≤ g ∧ RAt 241 True w'.heap.size g w' bs false ∧ Below w.heap.size w w' := by
  have HR := Lib.hid h
  have HB := Lib.hid hb
  clear h hb
  go_enter Tryz.func122, Tryz.ntmps122
  go_wp2_with fail
  refine (cloneB_calls _ A c bs hl HR.out).mono ?_
  rintro e w1 ⟨v1, rfl, ho1, hb1⟩
  have O1 := Lib.hid ho1
  have B1 := Lib.hid hb1
  clear hb1
  rcases ho1.2 with ⟨rfl, h0⟩ | ⟨g1, cap, cur, rfl, hbg, hh, h1, h2, h3, h4⟩
  · have : bs = [] := List.eq_nil_of_length_eq_zero h0
    subst this
    clear ho1
    go_wp2
    go_ret
    refine ⟨_, rfl, B1.out.size, ⟨by simp, Nat.le_refl _, HB.out, hl, none, 0, blk_new _ _, by simp, .inl rfl, (fun hn => absurd rfl hn), fun _ => .inl rfl, fun e => by cases e⟩, bl_then B1.out B1.out.size (bl_alloc (Below.refl _ _) _)⟩
  · obtain ⟨_, k1, _, k3, _⟩ := Own.rd' u8ok ho1
    have K3 := Lib.hid k3
    have hlt := Lib.hid (ho1.lt g1 rfl).2
    clear ho1 h1 h2 h3 h4 k3 hh
    go_wp2
    go_ret
    refine ⟨_, rfl, B1.out.size, ⟨by simp, Nat.le_refl _, HB.out, hl, some ⟨g1, 0, none⟩, cap, blk_new _ _, k1, K3.out.below (bl_alloc (Below.refl _ _) _) (Nat.le_refl _), (fun hn a ha => ?_), fun _ => .inr ⟨g1, 0, rfl⟩, fun e => by cases e⟩, bl_then B1.out B1.out.size (bl_alloc (Below.refl _ _) _)⟩
    cases ha
    have := hlt.out
    exact ⟨by show g1 ≠ _; omega, by show g1 < _; simp; omega⟩
end Go.Proofs.YtikgplhcadomcaaGreat

namespace Go.Proofs.YtikgplhcadomcaaGreat
open Go.RowKit
set_option linter.unusedVariables false
set_option linter.unusedSimpArgs false
def nuE (n : Nat) : List Value := [.int .u64 n]
theorem flat_lebI (ns : List Nat) (h : ∀ n ∈ ns, n < 18446744073709551616) (k : Nat) : ((ns.take k).flatMap lebI).length ≤ 10 * k := by
  induction k with
  | zero => simp
  | succ k ih =>
    by_cases hk : k < ns.length
    · rw [List.take_add_one, List.getElem?_eq_getElem hk]
      have := lebI_len10 _ (h _ (List.getElem_mem hk))
      simp only [Option.toList_some, List.flatMap_append, List.length_append, List.flatMap_cons, List.flatMap_nil, List.append_nil]
      omega
    · have e : ns.take (k + 1) = ns.take k := by rw [List.take_of_length_le (by omega), List.take_of_length_le (by omega)]
      rw [e]; omega
set_option maxRecDepth 100000 in
set_option maxHeartbeats 1000000 in
theorem lebPuts_calls (w : World) (A : Option Addr) (c : Nat) (bs : List Int) (P : Option Addr) (cp : Nat) (ns : List Nat) (hn : ∀ n ∈ ns, n < 18446744073709551616) (hl : bs.length ≤ 1000000) (hnl : ns.length ≤ 1000) (h : Rd u8e 1 w A bs) (hg : Rd nuE 1 w P ns) :
    Calls Tryz.prog 179 #[.slice A bs.length c, .slice P ns.length cp] w fun e w' => ∃ v', e = .returned v' ∧ Own u8e 1 5 w.heap.size w' v' (bs ++ ns.flatMap lebI) ∧ Below w.heap.size w w' := by
  have hfl := Lib.hid (flat_lebI ns hn)
  have HN := Lib.hid hn
  have SA : Hid (Src Tryz.prog 1 51 (.slice A bs.length c) bs.length (bs.flatMap u8e) w) := Rd.src u8ok Tryz.underlying51 c h
  have t1 : Hid ((Value.int .u8 0).cells.size = 1) := rfl
  have l1 : Hid (([] : List Int).length + bs.length ≤ 140737488355328) := by show _ ≤ _; simp; omega
  have l2 : Hid ((([] : List Int).length + bs.length) * 1 ≤ 140737488355328) := by show _ ≤ _; simp; omega
  have HG := Lib.hid hg
  clear h hg hn
  go_enter Tryz.func179, Tryz.ntmps179
  go_wp2_with (at_builtin; refine at_list rfl (fun K hK => op_ownS u8ok _ _ _ _ _ _ _ rfl Tryz.underlying51 infoU8 t1.out w.heap.size (.slice none 0 0) (.slice A bs.length c) [] bs rfl rfl Own.nil SA.out (Nat.le_refl _) l2.out l1.out (fun v1 w1 ho1 hg1 => hK _ _ ?_)))
  have O1 : Hid (Own u8e 1 5 w.heap.size w1 v1 bs) := by show Own _ _ _ _ _ _ _; simpa using ho1
  have B1 : Hid (Below w.heap.size w w1) := Below.grown (Below.refl _ _) hg1 (Nat.le_refl _) (fun k e => by cases e)
  clear ho1 hg1 SA
  go_loopg [5, 12] ns.length (fun m v' u wr => ∃ k : Nat, u = .int .i64 k ∧ k + m = ns.length ∧ Hid (Own u8e 1 5 w.heap.size wr v' (bs ++ (ns.take k).flatMap lebI)) ∧ Hid (Below w.heap.size w wr))
  case atStart => exact ⟨0, rfl, by omega, by show Own _ _ _ _ _ _ _; simpa using O1.out, B1.out⟩
  case round =>
    obtain ⟨k0, rfl, hk, ho, hb⟩ := hrel
    by_cases hlt0 : k0 < ns.length
    · obtain ⟨m', hm'⟩ : ∃ m', gk = m' + 1 := ⟨gk - 1, by omega⟩
      subst hm'
      have hki : (k0 : Int) < (ns.length : Int) := by omega
      have hkz : (0 : Int) ≤ (k0 : Int) := by omega
      rcases HG.out with h0 | ⟨bb, off, rfl, hblt, hcell⟩
      · rw [h0] at hlt0; simp at hlt0
      have hx := List.getElem?_eq_getElem hlt0
      have cg := Rd.range (HG.out.below hb.out (Nat.le_refl _)) hx 0 _ rfl
      have hbl : bb < wr.heap.size := Nat.lt_of_lt_of_le hblt hb.out.size
      have hn := HN.out _ (List.getElem_mem hlt0)
      have htk : Hid (bs ++ (ns.take (k0 + 1)).flatMap lebI = bs ++ (ns.take k0).flatMap lebI ++ lebI ns[k0]) := by show _ = _; rw [List.take_add_one, hx]; simp only [Option.toList_some, List.flatMap_append, List.flatMap_cons, List.flatMap_nil, List.append_nil, List.append_assoc]
      generalize ns[k0] = n at *
      have e1 : off + k0 * 1 + 0 = off + k0 := by omega
      rw [e1] at cg
      have h10 := Lib.hid (lebI_len10 n hn)
      have hpl : Hid ((bs ++ (ns.take k0).flatMap lebI).length ≤ 1010000) := by show _ ≤ _; rw [List.length_append]; have := hfl.out k0; omega
      obtain ⟨pre, hpre⟩ : ∃ x, x = bs ++ (ns.take k0).flatMap lebI := ⟨_, rfl⟩
      rw [← hpre] at ho htk hpl
      obtain ⟨G, hG⟩ : ∃ G, G = m' + 1 := ⟨_, rfl⟩
      clear hcell hblt hx hpre
      go_wp2
      go_loopg [5, 7] n (fun m v' u wr => ∃ (k : Nat) (done : List Int), u = .int .u64 k ∧ k ≤ m ∧ k < 18446744073709551616 ∧ Hid (done ++ lebI k = pre ++ lebI n) ∧ Hid (Own u8e 1 5 w.heap.size wr v' done) ∧ Hid (Below w.heap.size w wr))
      case atStart => exact ⟨n, pre, rfl, Nat.le_refl _, hn, rfl, ho.out, hb.out⟩
      case round =>
        clear cg ho hb hbl
        obtain ⟨k, done, rfl, hkm, hk2, hd, ho, hb⟩ := hrel
        have hdl : Hid (done.length ≤ 1010010) := by
          show _ ≤ _
          have := congrArg List.length hd.out
          simp only [List.length_append] at this
          have := h10.out
          have := hpl.out
          omega
        by_cases hlt : 128 ≤ k
        · have hs : Hid (done ++ [((k % 128 + 128 : Nat) : Int)] ++ lebI (k / 128) = pre ++ lebI n) := by
            show _ = _
            rw [← hd.out, lebI_ge (n := k) (by omega), List.append_assoc]; rfl
          have hz := Lib.hid hb.out.size
          have hob := Lib.hid ho.out.lt
          have HC2 : Hid ((done.length + 1) * 1 ≤ 140737488355328) := by show _ ≤ _; have := hdl.out; omega
          have HC3 : Hid (done.length + 1 ≤ 140737488355328) := by show _ ≤ _; have := hdl.out; omega
          have hor : bits .or .u8 ((k : Int) % 128) 128 = (k : Int) % 128 + 128 := u8_or128_right _ (by omega) (by omega)
          go_wp2_with (at_builtin; refine ap_own u8ok rfl _ _ _ _ _ _ rfl Tryz.underlying51 infoU8 rfl w.heap.size u5 done ((k : Int) % 128 + 128) #[_] rfl rfl wr.heap.size rfl rfl ho.out hz.out HC2.out HC3.out ?_; intro gg cap w5 o5 hg5 hat5 hlt5)
          go_roundg (k / 128)
          case measure => omega
          case rel =>
            refine ⟨k / 128, done ++ [(k : Int) % 128 + 128], by simp, Nat.le_refl _, by omega, ?_, by show Own _ _ _ _ _ _ _; simpa using o5, hb.out.grown hg5 hz.out (fun k e => (hob.out _ e).1)⟩
            show _ = _
            rw [← hs.out]
            simp
        · have hs : Hid (done ++ [(k : Int)] = pre ++ lebI n) := by
            show _ = _
            rw [← hd.out, lebI_lt (n := k) (by omega)]
          have hz := Lib.hid hb.out.size
          have hob := Lib.hid ho.out.lt
          have HC2 : Hid ((done.length + 1) * 1 ≤ 140737488355328) := by show _ ≤ _; have := hdl.out; omega
          have HC3 : Hid (done.length + 1 ≤ 140737488355328) := by show _ ≤ _; have := hdl.out; omega
          have hk8 : IntKind.u8.wrap (k : Int) = (k : Int) := by rw [IntKind.wrap_u8]; omega
          go_wp2_with (at_builtin; refine ap_own u8ok rfl _ _ _ _ _ _ rfl Tryz.underlying51 infoU8 rfl w.heap.size u5 done (k : Int) #[_] rfl rfl wr.heap.size rfl rfl ho.out hz.out HC2.out HC3.out ?_; intro gg cap w5 o5 hg5 hat5 hlt5)
          go_roundg m'
          case measure => omega
          case rel =>
            refine ⟨k0 + 1, by go_num, by omega, ?_, hb.out.grown hg5 hz.out (fun k e => (hob.out _ e).1)⟩
            show Own _ _ _ _ _ _ _
            rw [htk.out, ← hs.out]
            simpa using o5
    · have hkk : ¬ (k0 : Int) < (ns.length : Int) := by omega
      have ho1 : Hid (Own u8e 1 5 w.heap.size wr u5 (bs ++ ns.flatMap lebI)) := by show Own _ _ _ _ _ _ _; have := ho.out; rw [List.take_of_length_le (by omega)] at this; exact this
      clear ho
      go_wp2
      go_ret
      exact ⟨_, rfl, ho1.out, hb.out⟩
set_option maxRecDepth 100000 in
set_option maxHeartbeats 1000000 in
theorem wNums_calls (B : Nat) (w : World) (g : Nat) (bs : List Int) (P : Option Addr) (cp : Nat) (ns : List Nat) (hn : ∀ n ∈ ns, n < 18446744073709551616) (hnl : ns.length ≤ 1000) (hl : bs.length ≤ 1000000) (h : WrAt B w g bs) (hp : Rd nuE 1 w P ns) :
    Calls Tryz.prog 136 #[.pointer (some ⟨g, 0, none⟩), .slice P ns.length cp] w fun e w' => e = .returned (.tuple #[]) ∧ WrAt B w' g (bs ++ ns.flatMap lebI) ∧ Below B w w' ∧ KeptT w w' := by
  have HW := Lib.hid h
  have HP := Lib.hid hp
  obtain ⟨h1, v, h2, h3⟩ := h
  obtain ⟨A, c, rfl, k1, k2, kr, -⟩ := h3.rd u8ok
  have KR := Lib.hid kr
  have HG := Lib.hid h2
  have c0 : w.cell? ⟨g, 0, none⟩ = some (.slice A bs.length c) := by rw [blk_cell h2]; rfl
  have hBw : Hid (B ≤ w.heap.size) := by show _ ≤ _; have := blk_lt h2; omega
  clear hp h2 h3 kr
  go_enter Tryz.func136, Tryz.ntmps136
  go_wp2_with fail
  refine (lebPuts_calls _ A c bs P cp ns hn hl hnl KR.out HP.out).mono ?_
  rintro e w1 ⟨v1, rfl, ho1, hb1⟩
  have W1 := Lib.hid (HW.out.below hb1)
  have O1 := Lib.hid (ho1.mono hBw.out)
  have hgl := Lib.hid HW.out.lt
  have hv1 : Hid (v1.ownBlock ≠ some g) := fun e => by have := (ho1.lt _ e).1; have := hgl.out; omega
  have T1 := Lib.hid (KeptT.below hb1)
  have B1 : Hid (Below B w w1) := ⟨hb1.os, hb1.tape, hb1.output, hb1.size, fun i hi => hb1.block i (Nat.lt_of_lt_of_le hi hBw.out)⟩
  have G1 := Lib.hid (blk_below hb1 HG.out hgl.out)
  have c1 : w1.cell? ⟨g, 0, none⟩ = some (.slice A bs.length c) := by rw [blk_cell G1.out]; rfl
  have f1 := blk_free G1.out 0
  have hgl1 := blk_lt G1.out
  obtain ⟨bs', hbs'⟩ : ∃ x, x = bs ++ ns.flatMap lebI := ⟨_, rfl⟩
  rw [← hbs'] at ho1 O1
  have HB' := Lib.hid hbs'
  obtain ⟨A1, c1', rfl, -, -, -, -⟩ := ho1.rd u8ok
  clear c0 ho1 hb1 hbs'
  go_wp2
  go_end0
  rw [← HB'.out]
  exact ⟨rfl, W1.out.set O1.out hv1.out, bl_set B1.out h1 _, T1.out.trans (KeptT.set G1.out)⟩
end Go.Proofs.YtikgplhcadomcaaGreat
