/- Plain laws on machines of trees that are met; no program. No condition. -/
import Derived.Test.YthemmoceomdccaaPlA
namespace Go.WX
open Go
theorem dm {s n i : Int} (hn : 1 ≤ n) (hi : 0 ≤ i ∧ i < s * n) : 0 ≤ i.tdiv n ∧ i.tdiv n < s ∧ 0 ≤ i.tmod n ∧ i.tmod n < n := by
  have h1 : i.tdiv n = i / n := Int.tdiv_eq_ediv_of_nonneg hi.1
  have h2 : i / n < s := Int.ediv_lt_of_lt_mul (by omega) hi.2
  have h3 : 0 ≤ i / n := Int.ediv_nonneg hi.1 (by omega)
  exact ⟨by omega, by omega, Int.tmod_nonneg n hi.1, Int.tmod_lt_of_pos i (by omega)⟩
theorem sq_idx {s q r n : Int} (hs : 1 ≤ s ∧ s ≤ 16) (hq : 0 ≤ q ∧ q < s) (hr : 0 ≤ r ∧ r < s) (hn : n = s * s) : 0 ≤ q * s ∧ q * s ≤ 256 ∧ 0 ≤ q * s + r ∧ q * s + r < n := by
  have h1 : q * s ≤ (s - 1) * s := Int.mul_le_mul_of_nonneg_right (by omega) (by omega)
  have h2 := sq16 hs
  have h3 : 0 ≤ q * s := Int.mul_nonneg hq.1 (by omega)
  rw [Int.sub_mul, Int.one_mul] at h1
  omega
theorem pair_le {x n : Int} (hx : 0 ≤ x ∧ x ≤ 16) (hn : 1 ≤ n ∧ n ≤ 16) : 0 ≤ x * n ∧ x * n ≤ 256 :=
  ⟨Int.mul_nonneg hx.1 (by omega), by have := Int.mul_le_mul hx.2 hn.2 (by omega) (by omega : (0 : Int) ≤ 16); simpa using this⟩
def leafM (n : Int) (a b : List Int) (k : Nat) : Int := a.getD ((k : Int)).toNat 0 * n + b.getD ((k : Int)).toNat 0
def nextM (s n : Int) (a b : List Int) (i k : Nat) : Int := a.getD (((i : Int).tdiv n) * s + (k : Int).tdiv n).toNat 0 * n + b.getD (((i : Int).tmod n) * n + (k : Int).tmod n).toNat 0
def endM (n : Int) (a b : List Bool) (i : Nat) : Bool := a.getD ((i : Int).tdiv n).toNat false && b.getD ((i : Int).tmod n).toNat false
def mapR {α : Type} (f : Nat → α) (k : Nat) : List α := (List.range k).map f
theorem mapR_len {α : Type} (f : Nat → α) (k : Nat) : (mapR f k).length = k := by simp [mapR]
theorem mapR_put {α : Type} {f : Nat → α} {A : List α} {k : Nat} {x : α} (h : x = f k) : A ++ mapR f k ++ [x] = A ++ mapR f (k + 1) := by simp [mapR, List.range_succ, h]
theorem mapR_put0 {α : Type} {f : Nat → α} {k : Nat} {x : α} (h : x = f k) : mapR f k ++ [x] = mapR f (k + 1) := by simp [mapR, List.range_succ, h]
theorem mapR_zero {α : Type} (A : List α) (f : Nat → α) : A = A ++ mapR f 0 := by simp [mapR]
def rowsM (m : Nat) (f : Nat → Nat → Int) (i : Nat) : List Int := (List.range i).flatMap fun j => mapR (f j) m
theorem rowsM_succ {m : Nat} {f : Nat → Nat → Int} {i k : Nat} (h : k = m) : rowsM m f i ++ mapR (f i) k = rowsM m f (i + 1) := by subst h; simp [rowsM, List.range_succ]
theorem rowsM_len {m : Nat} {f : Nat → Nat → Int} (hm : m ≤ 16) : ∀ i, (rowsM m f i).length ≤ 16 * i
  | 0 => by simp [rowsM]
  | i + 1 => by
    have := rowsM_len (f := f) hm i
    rw [← rowsM_succ rfl, List.length_append, mapR_len]; omega
def meetP (a0 a1 b0 b1 : Int) (xa2 xa3 xb2 xb3 : List Int) (xa4 xb4 : List Bool) : Prop := treesB a0 a1 xa2 xa3 xa4 = true ∧ treesB b0 b1 xb2 xb3 xb4 = true ∧ a1 = b1 ∧ a0 * b0 ≤ 16
instance (a0 a1 b0 b1 : Int) (xa2 xa3 xb2 xb3 : List Int) (xa4 xb4 : List Bool) : Decidable (meetP a0 a1 b0 b1 xa2 xa3 xb2 xb3 xa4 xb4) := by unfold meetP; infer_instance
def meetB (a0 a1 b0 b1 : Int) (xa2 xa3 xb2 xb3 : List Int) (xa4 xb4 : List Bool) : Bool := decide (meetP a0 a1 b0 b1 xa2 xa3 xb2 xb3 xa4 xb4)
theorem meetB_yes {a0 a1 b0 b1 : Int} {xa2 xa3 xb2 xb3 : List Int} {xa4 xb4 : List Bool} (h1 : treesB a0 a1 xa2 xa3 xa4 = true) (h2 : treesB b0 b1 xb2 xb3 xb4 = true) (h3 : a1 = b1) (h4 : a0 * b0 ≤ 16) : meetB a0 a1 b0 b1 xa2 xa3 xb2 xb3 xa4 xb4 = true := decide_eq_true ⟨h1, h2, h3, h4⟩
theorem meetB_n1 {a0 a1 b0 b1 : Int} {xa2 xa3 xb2 xb3 : List Int} {xa4 xb4 : List Bool} (h : ¬ treesB a0 a1 xa2 xa3 xa4 = true) : ¬ meetB a0 a1 b0 b1 xa2 xa3 xb2 xb3 xa4 xb4 = true := fun e => h (of_decide_eq_true e).1
theorem meetB_n2 {a0 a1 b0 b1 : Int} {xa2 xa3 xb2 xb3 : List Int} {xa4 xb4 : List Bool} (h : ¬ treesB b0 b1 xb2 xb3 xb4 = true) : ¬ meetB a0 a1 b0 b1 xa2 xa3 xb2 xb3 xa4 xb4 = true := fun e => h (of_decide_eq_true e).2.1
theorem meetB_n3 {a0 a1 b0 b1 : Int} {xa2 xa3 xb2 xb3 : List Int} {xa4 xb4 : List Bool} (h : ¬ a1 = b1) : ¬ meetB a0 a1 b0 b1 xa2 xa3 xb2 xb3 xa4 xb4 = true := fun e => h (of_decide_eq_true e).2.2.1
theorem meetB_n4 {a0 a1 b0 b1 : Int} {xa2 xa3 xb2 xb3 : List Int} {xa4 xb4 : List Bool} (h : ¬ a0 * b0 ≤ 16) : ¬ meetB a0 a1 b0 b1 xa2 xa3 xb2 xb3 xa4 xb4 = true := fun e => h (of_decide_eq_true e).2.2.2
end Go.WX
namespace Go.WX
theorem endM_t {n : Int} {a b : List Bool} {i : Nat} (h : a.getD ((i : Int).tdiv n).toNat false = true) : b.getD ((i : Int).tmod n).toNat false = endM n a b i := by unfold endM; rw [h]; rfl
theorem endM_f {n : Int} {a b : List Bool} {i : Nat} (h : a.getD ((i : Int).tdiv n).toNat false = false) : false = endM n a b i := by unfold endM; rw [h]; rfl
theorem onT_le {α : Type} {c : Bool} {l : List α} {N : Nat} (h : c = true → l.length ≤ N) : (onT c l).length ≤ N := by
  by_cases hc : c = true
  · rw [onT_yes hc]; exact h hc
  · rw [onT_no hc]; simp
theorem treesB_rng {s l : Int} {a b : List Int} {c : List Bool} (h : treesB s l a b c = true) : (1 ≤ s ∧ s ≤ 16) ∧ (1 ≤ l ∧ l ≤ 4) := by
  have := of_decide_eq_true h; exact ⟨this.1, this.2.1⟩
theorem meet_l {a0 a1 b0 b1 : Int} {xa2 xa3 xb2 xb3 : List Int} {xa4 xb4 : List Bool} (h : meetB a0 a1 b0 b1 xa2 xa3 xb2 xb3 xa4 xb4 = true) : a1.toNat ≤ 4 ∧ (a0 * b0).toNat ≤ 16 := by
  have h1 := of_decide_eq_true h
  have h2 := treesB_rng h1.1
  have h3 := h1.2.2.2
  exact ⟨by omega, by omega⟩
end Go.WX
