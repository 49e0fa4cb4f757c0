/- Bytes as whole numbers, one cell each; texts of bytes; numbers in seven bits a byte. -/
import Derived.Test.YtofdmkglhjpbcaaProg
import Derived.Test.YtofdmkglhjpbcaaAppend
import Derived.Test.YtofdmkglhjpbcaaAppendS
import Derived.Laws.BytesArg
namespace Go.Proofs.Ytofdmkglhjpbcaa
open Go.RowKit
set_option linter.unusedVariables false
set_option linter.unusedSimpArgs false

def u8e (n : Int) : List Value := [.int .u8 n]
theorem u8ok : Enc u8e 1 := ⟨fun _ => rfl, fun x u hu => by simp [u8e] at hu; subst hu; rfl, by omega⟩
def bytesL (xs : List Int) : Prop := ∀ x ∈ xs, 0 ≤ x ∧ x ≤ 255
theorem infoU8 : (Try.prog.info? 5).map (fun i => (i.zero, i.size, i.bytes)) = some (some (.int .u8 0), 1, 1) := by kernel_rfl
def strBs (s : Str) : List Int := s.data.toList.map fun b => (b.toNat : Int)
theorem strBs_len (s : Str) : (strBs s).length = s.size := by unfold strBs; rw [List.length_map]; rfl
theorem strBs_cells (s : Str) : (strBs s).flatMap u8e = byteCells s := by
  unfold strBs byteCells
  rw [List.flatMap_map]
  induction s.data.toList with
  | nil => rfl
  | cons x l ih => rw [List.flatMap_cons, ih]; rfl
theorem strBs_src {P : Program} {tx : TypeId} {w : World} (hk : P.underlying tx = some .string) (s : Str) : Src P 1 tx (.string s) (strBs s).length ((strBs s).flatMap u8e) w := by
  rw [strBs_len, strBs_cells]
  exact Src.ofString w hk s
theorem strBs_bytes (s : Str) : bytesL (strBs s) := by
  intro x hx
  obtain ⟨b, _, rfl⟩ := List.mem_map.1 hx
  have := b.toNat_lt
  omega
theorem own_str {W : World} {B : Nat} {v : Value} {xs : List Int} (h : Own u8e 1 5 B W v xs) : (convert 57 9 v).run Try.prog W = .ok (.string (strOfNums xs)) W := by
  rcases h.2 with ⟨rfl, h0⟩ | ⟨g, cap, cur, rfl, hb, hh, h1, h2, h3, h4⟩
  · have : xs = [] := List.eq_nil_of_length_eq_zero h0
    subst this
    exact run_convert_bytes_nil W 57 5 Try.underlying57 Try.underlying5 0 0 9 Try.underlying9
  · obtain ⟨_, _, _, hr, _⟩ := Own.rd' u8ok h
    refine run_convert_bytes_arg W 57 5 Try.underlying57 Try.underlying5 g 0 _ cap xs rfl (fun i hi => ?_) 9 Try.underlying9
    rcases hr with hr | ⟨b', off', he, hlt, hc⟩
    · subst hr; simp at hi
    · cases he
      have := hc i (xs.getD i 0) (by simp [hi]) 0 _ rfl
      simpa using this

/-- Blocks of other kinds than bytes and writers stay. -/
def KeptT (W W' : World) : Prop := ∀ t : TypeId, t ≠ 5 → t ≠ 94 → ∀ (i : Nat) (cs : Array Value) (fr : Nat × Nat), W.heap[i]? = some (.cells cs t fr) → W'.heap[i]? = some (.cells cs t fr)
theorem KeptT.trans {W W1 W2 : World} (h : KeptT W W1) (k : KeptT W1 W2) : KeptT W W2 := fun t h1 h2 i cs fr hi => k t h1 h2 i cs fr (h t h1 h2 i cs fr hi)
theorem KeptT.below {W W' : World} (hb : Below W.heap.size W W') : KeptT W W' := fun t _ _ i cs fr hi => blk_below hb hi (blk_lt hi)
theorem KeptT.set {W : World} {g : Nat} {u v : Value} (hg : W.heap[g]? = some (.cells #[u] 94 (0, 0))) : KeptT W (W.setCell ⟨g, 0, none⟩ v) := fun t _ h2 i cs fr hi => blk_far hi (fun e => by
  have e' : i = g := e
  subst e'
  rw [hg] at hi
  injection hi with hi
  injection hi with _ hi _
  exact h2 hi.symm) v
theorem KeptT.grown {B : Nat} {W W' : World} {v : Value} {bs : List Int} (ho : Own u8e 1 5 B W v bs) (hg : W.grownBy W' v.ownBlock) : KeptT W W' := fun t h1 _ i cs fr hi => (hg.block i (blk_lt hi) (fun e => by
  rcases ho.2 with ⟨rfl, h0⟩ | ⟨g', cap, cur, rfl, hb, hh, k1, k2, k3, k4⟩
  · cases e
  · have e' : i = g' := by injection e
    subst e'
    rw [hi] at hh
    injection hh with hh
    injection hh with _ hh _
    exact h1 hh)).trans hi
theorem KeptT.refl (W : World) : KeptT W W := fun _ _ _ _ _ _ h => h
/-- A number, seven bits a byte, the lowest first. -/
def lebI (n : Nat) : List Int := if n < 128 then [(n : Int)] else ((n % 128 + 128 : Nat) : Int) :: lebI (n / 128)
termination_by n
theorem lebI_lt {n : Nat} (h : n < 128) : lebI n = [(n : Int)] := by rw [lebI, if_pos h]
theorem lebI_ge {n : Nat} (h : ¬ n < 128) : lebI n = ((n % 128 + 128 : Nat) : Int) :: lebI (n / 128) := by rw [lebI, if_neg h]
theorem lebI_bytes (n : Nat) : bytesL (lebI n) := by
  induction n using Nat.strongRecOn with
  | _ n ih =>
    by_cases h : n < 128
    · rw [lebI_lt h]
      intro x hx
      simp only [List.mem_singleton] at hx
      subst hx
      omega
    · rw [lebI_ge h]
      intro x hx
      rcases List.mem_cons.1 hx with rfl | hx
      · have := Nat.mod_lt n (show 0 < 128 by omega)
        omega
      · exact ih (n / 128) (Nat.div_lt_self (by omega) (by omega)) x hx
theorem lebI_len (n : Nat) : (lebI n).length ≤ n + 1 := by
  induction n using Nat.strongRecOn with
  | _ n ih =>
    by_cases h : n < 128
    · rw [lebI_lt h]; simp
    · rw [lebI_ge h]
      have := ih (n / 128) (Nat.div_lt_self (by omega) (by omega))
      have := Nat.div_lt_self (n := n) (k := 128) (by omega) (by omega)
      simp only [List.length_cons]
      omega
theorem lebI_len10 (n : Nat) (h : n < 18446744073709551616) : (lebI n).length ≤ 10 := by
  have key : ∀ (k : Nat) (n : Nat), n < 128 ^ (k + 1) → (lebI n).length ≤ k + 1 := by
    intro k
    induction k with
    | zero => intro n hn; rw [lebI_lt (by simpa using hn)]; simp
    | succ k ih =>
      intro n hn
      by_cases h : n < 128
      · rw [lebI_lt h]; simp
      · rw [lebI_ge h]
        have := ih (n / 128) (Nat.div_lt_of_lt_mul (by rw [Nat.pow_succ] at hn; omega))
        simp only [List.length_cons]
        omega
  exact key 9 n (by omega)
end Go.Proofs.Ytofdmkglhjpbcaa
