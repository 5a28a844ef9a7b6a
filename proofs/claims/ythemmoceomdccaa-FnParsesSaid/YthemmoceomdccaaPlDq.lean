/- Plain laws on drawn numbers; no program. No condition. -/
import Derived.Test.YthemmoceomdccaaLibO
import Derived.Laws.Bits64b
namespace Go.WX
open Go
theorem wrapU_rng (z : Int) : 0 ≤ IntKind.u64.wrap z ∧ IntKind.u64.wrap z < 18446744073709551616 := by rw [IntKind.wrap_u64]; omega
theorem and255 {a : Int} (h : 0 ≤ a ∧ a < 18446744073709551616) : 0 ≤ bits .and .u64 a 255 ∧ bits .and .u64 a 255 ≤ 255 := by
  have h1 := bits_and_u64_nat a.toNat 255 (by omega) (by omega)
  have e : a.toNat &&& 255 = a.toNat % 256 := Nat.and_two_pow_sub_one_eq_mod a.toNat 8
  have e2 : ((a.toNat : Nat) : Int) = a := by omega
  rw [e, e2] at h1
  have e3 : bits .and .u64 a 255 = ((a.toNat % 256 : Nat) : Int) := h1
  rw [e3]; omega
theorem rnd255 (z : Int) : 0 ≤ bits .and .u64 (IntKind.u64.wrap z / 2 ^ (40 : Int).toNat) 255 ∧ bits .and .u64 (IntKind.u64.wrap z / 2 ^ (40 : Int).toNat) 255 ≤ 255 := by
  have h := wrapU_rng z
  have e : (2 : Int) ^ (40 : Int).toNat = 1099511627776 := by decide
  rw [e]
  exact and255 (by omega)
theorem getD_P {l : List Int} {i : Nat} {P : Int → Prop} (h : ∀ x ∈ l, P x) (hi : i < l.length) : P (l.getD i 0) := h _ (getD_mem hi)
theorem remN {p n : Int} (h : 0 ≤ p) (hn : 0 < n) : 0 ≤ p.tmod n ∧ p.tmod n ≤ n - 1 := by
  have h1 := Int.tmod_lt_of_pos p hn; have h2 := Int.tmod_nonneg n h; omega
/-- A number drawn from one byte. -/
def atN (xs : List Int) (i : Nat) (n : Int) : Int := if i < xs.length then (xs.getD i 0).tmod n else ((i : Int) * 37 + 11).tmod n
theorem atN_rng {xs : List Int} {i : Nat} {n : Int} (h : ∀ x ∈ xs, 0 ≤ x ∧ x ≤ 255) (hn : 0 < n) : 0 ≤ atN xs i n ∧ atN xs i n ≤ n - 1 := by
  unfold atN
  split
  · rename_i h0; exact remN (getD_P h h0).1 hn
  · exact remN (by omega) hn
theorem atN_yes {xs : List Int} {i : Nat} {n : Int} (h : i < xs.length) : atN xs i n = (xs.getD i 0).tmod n := if_pos h
theorem atN_no {xs : List Int} {i : Nat} {n : Int} (h : ¬ i < xs.length) : atN xs i n = ((i : Int) * 37 + 11).tmod n := if_neg h
end Go.WX
