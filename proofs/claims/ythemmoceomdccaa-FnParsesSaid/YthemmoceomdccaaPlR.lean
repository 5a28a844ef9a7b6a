/- Plain laws on repeated numbers; no program. No condition. -/
import Derived.Test.YthemmoceomdccaaPl
import Derived.Laws.Bits64b
namespace Go.WX
open Go
theorem rep_put {α : Type} (k : Nat) (x : α) : List.replicate k x ++ [x] = List.replicate (k + 1) x := by rw [List.replicate_succ']
theorem rep_done {k n : Nat} {x : Int} (h : n ≤ k) (h2 : k ≤ n) : List.replicate k x ++ List.replicate (n - k) (0 : Int) = List.replicate n x := by
  have : k = n := by omega
  subst this; simp
theorem rep_first {n : Nat} {x : Int} : (List.replicate n (0 : Int)).take 0 ++ [x].take (min 1 n) ++ (List.replicate n (0 : Int)).drop (0 + min 1 n) = List.replicate (min 1 n) x ++ List.replicate (n - min 1 n) (0 : Int) := by
  rcases n with _ | n
  · simp
  · have : min 1 (n + 1) = 1 := by omega
    rw [this]; simp
theorem rep_more {k n m : Nat} {x : Int} (h : k ≤ n) (hm : m = min k (n - k)) : (List.replicate k x ++ List.replicate (n - k) (0 : Int)).take k ++ ((List.replicate k x ++ List.replicate (n - k) (0 : Int)).take k).take m ++ (List.replicate k x ++ List.replicate (n - k) (0 : Int)).drop (k + m) = List.replicate (k + m) x ++ List.replicate (n - (k + m)) (0 : Int) := by
  have e1 : (List.replicate k x ++ List.replicate (n - k) (0 : Int)).take k = List.replicate k x := by
    rw [List.take_append_of_le_length (by simp), List.take_of_length_le (by simp)]
  have e2 : (List.replicate k x ++ List.replicate (n - k) (0 : Int)).drop (k + m) = List.replicate (n - (k + m)) (0 : Int) := by
    rw [List.drop_append, List.drop_eq_nil_of_le (by simp)]
    simp <;> omega
  rw [e1, e2, List.take_replicate]
  have : min m k = m := by omega
  rw [this, List.replicate_append_replicate]
theorem rep_m0 {n : Nat} {x : Int} : min 1 n = min [x].length ((List.replicate n (0 : Int)).length - 0) := by simp
theorem rep_m {k n : Nat} {x : Int} (h : k ≤ n) : min k (n - k) = min ((List.replicate k x ++ List.replicate (n - k) (0 : Int)).take ((k : Int)).toNat).length ((List.replicate k x ++ List.replicate (n - k) (0 : Int)).length - ((k : Int)).toNat) := by
  simp
  try omega
theorem mask1 : bits .and .u64 1 4294967295 = 1 := by decide
theorem maskZ {N : Int} (h : 0 ≤ N ∧ N ≤ 1048576) : bits .and .u64 N 4294967295 = N := by
  have h1 := bits_and_u64_nat N.toNat 4294967295 (by omega) (by omega)
  have e : N.toNat &&& 4294967295 = N.toNat % 4294967296 := Nat.and_two_pow_sub_one_eq_mod N.toNat 32
  rw [e] at h1
  have e2 : ((N.toNat : Nat) : Int) = N := by omega
  have e3 : ((N.toNat % 4294967296 : Nat) : Int) = N := by omega
  rw [e2] at h1
  rw [e3] at h1
  exact h1
theorem wrapU {N : Int} (h : 0 ≤ N ∧ N ≤ 1048576) : IntKind.u64.wrap N = N := by rw [IntKind.wrap_u64]; omega
theorem wrapI {N : Int} (h : 0 ≤ N ∧ N ≤ 1048576) : IntKind.i64.wrap N = N := R64.wrap ⟨by omega, by omega⟩
theorem shr0 {N : Int} (h : 0 ≤ N ∧ N ≤ 1048576) : N / 2 ^ ((32 : Int)).toNat = 0 := by
  have : (2 : Int) ^ ((32 : Int)).toNat = 4294967296 := by decide
  rw [this]; omega
end Go.WX
