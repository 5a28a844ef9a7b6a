/- Plain laws on machines with two sides; no program. No condition. -/
import Derived.Test.YthemmoceomdccaaPlA
import Derived.Test.YthemmoceomdccaaLibL
namespace Go.WX
open Go
@[reducible] def z4 : R4 := (0, 0, 0, 0)
def okArc (s l : Int) (r : R4) : Prop := (0 ≤ r.1 ∧ r.1 ≤ s - 1) ∧ (0 ≤ r.2.1 ∧ r.2.1 ≤ s - 1) ∧ (-1 ≤ r.2.2.1 ∧ r.2.2.1 ≤ l - 1) ∧ (-1 ≤ r.2.2.2 ∧ r.2.2.2 ≤ l - 1)
def sidedV (s l : Int) (rs : List R4) (en : List Bool) : Prop := (1 ≤ s ∧ s ≤ 8) ∧ (1 ≤ l ∧ l ≤ 4) ∧ (rs.length : Int) ≤ 48 ∧ (en.length : Int) = s ∧ ∀ i : Nat, i < rs.length → okArc s l (rs.getD i (0, 0, 0, 0))
noncomputable instance (s l : Int) (rs : List R4) (en : List Bool) : Decidable (sidedV s l rs en) := Classical.propDecidable _
noncomputable def sidedB (s l : Int) (rs : List R4) (en : List Bool) : Bool := decide (sidedV s l rs en)

/-! ### Two loops, one in the other -/
def rowF {α : Type} (f : Nat → Nat → List α) (i k : Nat) : List α := (List.range k).flatMap (f i)
def dblF {α : Type} (f : Nat → Nat → List α) (m i : Nat) : List α := (List.range i).flatMap fun j => rowF f j m
theorem rowF_zero {α : Type} (A : List α) (f : Nat → Nat → List α) (i : Nat) : A = A ++ rowF f i 0 := by simp [rowF]
theorem dblF_zero {α : Type} (A : List α) (f : Nat → Nat → List α) (m : Nat) : A = A ++ dblF f m 0 := by simp [dblF]
theorem rowF_put {α : Type} {A : List α} {f : Nat → Nat → List α} {i k : Nat} {x : α} (h : f i k = [x]) : A ++ rowF f i k ++ [x] = A ++ rowF f i (k + 1) := by simp [rowF, List.range_succ, h]
theorem rowF_none {α : Type} {A : List α} {f : Nat → Nat → List α} {i k : Nat} (h : f i k = []) : A ++ rowF f i k = A ++ rowF f i (k + 1) := by simp [rowF, List.range_succ, h]
theorem dblF_succ {α : Type} {A : List α} {f : Nat → Nat → List α} {m i k : Nat} (h : k = m) : A ++ dblF f m i ++ rowF f i k = A ++ dblF f m (i + 1) := by subst h; simp [dblF, List.range_succ]
theorem dblF_skip {α : Type} {A : List α} {f : Nat → Nat → List α} {m i : Nat} (h : ∀ k, f i k = []) : A ++ dblF f m i = A ++ dblF f m (i + 1) := by
  have : rowF f i m = [] := by unfold rowF; simp [h]
  simp [dblF, List.range_succ, this]
theorem rowF_len {α : Type} {f : Nat → Nat → List α} (h : ∀ i k, (f i k).length ≤ 1) (i : Nat) : ∀ k, (rowF f i k).length ≤ k
  | 0 => by simp [rowF]
  | k + 1 => by
    have := rowF_len h i k
    have e : rowF f i (k + 1) = rowF f i k ++ f i k := by simp [rowF, List.range_succ]
    have h2 := h i k
    rw [e, List.length_append]; omega
theorem dblF_len {α : Type} {f : Nat → Nat → List α} (h : ∀ i k, (f i k).length ≤ 1) (m : Nat) : ∀ i, (dblF f m i).length ≤ m * i
  | 0 => by simp [dblF]
  | i + 1 => by
    have h1 := dblF_len h m i
    have h2 := rowF_len h i m
    have e : dblF f m (i + 1) = dblF f m i ++ rowF f i m := by simp [dblF, List.range_succ]
    rw [e, List.length_append, Nat.mul_add]; omega
theorem dblF_le {α : Type} {f : Nat → Nat → List α} (h : ∀ i k, (f i k).length ≤ 1) {m i M I : Nat} (hm : m ≤ M) (hi : i ≤ I) : (dblF f m i).length ≤ M * I :=
  Nat.le_trans (dblF_len h m i) (Nat.mul_le_mul hm hi)
def onF {α : Type} (c : Prop) [Decidable c] (x : α) : List α := if c then [x] else []
theorem onF_len {α : Type} (c : Prop) [Decidable c] (x : α) : (onF c x).length ≤ 1 := by unfold onF; split <;> simp
theorem onF_yes {α : Type} {c : Prop} [Decidable c] {x y : α} (h : c) (e : y = x) : onF c x = [y] := by unfold onF; rw [if_pos h, e]
theorem onF_no {α : Type} {c : Prop} [Decidable c] {x : α} (h : ¬ c) : onF c x = [] := if_neg h

@[reducible] def wI (z : Int) : Int := IntKind.i64.wrap z
def ch1 (n : Int) (xs ys : List R4) (i k : Nat) : List R4 :=
  onF (0 ≤ (xs.getD i (0, 0, 0, 0)).2.2.2 ∧ (xs.getD i (0, 0, 0, 0)).2.2.2 = (ys.getD k (0, 0, 0, 0)).2.2.1) (wI (wI ((xs.getD i (0, 0, 0, 0)).1 * n) + (ys.getD k (0, 0, 0, 0)).1), wI (wI ((xs.getD i (0, 0, 0, 0)).2.1 * n) + (ys.getD k (0, 0, 0, 0)).2.1), (xs.getD i (0, 0, 0, 0)).2.2.1, (ys.getD k (0, 0, 0, 0)).2.2.2)
def ch2 (n : Int) (xs : List R4) (i k : Nat) : List R4 :=
  onF ((xs.getD i (0, 0, 0, 0)).2.2.2 < 0) (wI (wI ((xs.getD i (0, 0, 0, 0)).1 * n) + (k : Int)), wI (wI ((xs.getD i (0, 0, 0, 0)).2.1 * n) + (k : Int)), (xs.getD i (0, 0, 0, 0)).2.2.1, -1)
def ch3 (n : Int) (ys : List R4) (i k : Nat) : List R4 :=
  onF ((ys.getD k (0, 0, 0, 0)).2.2.1 < 0) (wI (wI ((i : Int) * n) + (ys.getD k (0, 0, 0, 0)).1), wI (wI ((i : Int) * n) + (ys.getD k (0, 0, 0, 0)).2.1), -1, (ys.getD k (0, 0, 0, 0)).2.2.2)
def chE (xe ye : List Bool) (i k : Nat) : List Bool := [xe.getD i false && ye.getD k false]
theorem ch1_len (n : Int) (xs ys : List R4) (i k : Nat) : (ch1 n xs ys i k).length ≤ 1 := onF_len _ _
theorem ch2_len (n : Int) (xs : List R4) (i k : Nat) : (ch2 n xs i k).length ≤ 1 := onF_len _ _
theorem ch3_len (n : Int) (ys : List R4) (i k : Nat) : (ch3 n ys i k).length ≤ 1 := onF_len _ _
theorem chE_len (xe ye : List Bool) (i k : Nat) : (chE xe ye i k).length ≤ 1 := by simp [chE]
theorem chE_t {xe ye : List Bool} {i k : Nat} (h : xe.getD i false = true) : chE xe ye i k = [ye.getD k false] := by unfold chE; rw [h]; rfl
theorem chE_f {xe ye : List Bool} {i k : Nat} (h : xe.getD i false = false) : chE xe ye i k = [false] := by unfold chE; rw [h]; rfl
def cA (n : Int) (xs ys : List R4) : List R4 := [] ++ dblF (ch1 n xs ys) ys.length xs.length
def cB (n : Int) (xs ys : List R4) : List R4 := cA n xs ys ++ dblF (ch2 n xs) n.toNat xs.length
def cC (m n : Int) (xs ys : List R4) : List R4 := cB n xs ys ++ dblF (ch3 n ys) ys.length m.toNat
def cE (xe ye : List Bool) : List Bool := [] ++ dblF (chE xe ye) ye.length xe.length
noncomputable def chainB (m l : Int) (xs : List R4) (xe : List Bool) (n l' : Int) (ys : List R4) (ye : List Bool) : Bool :=
  sidedB m l xs xe && sidedB n l' ys ye && decide (l = l') && sidedB (wI (m * n)) l (cC m n xs ys) (cE xe ye)
section
variable {m l : Int} {xs : List R4} {xe : List Bool} {n l' : Int} {ys : List R4} {ye : List Bool}
theorem chain_n1 (h : ¬ sidedV m l xs xe) : ¬ chainB m l xs xe n l' ys ye = true := by simp [chainB, sidedB, h]
theorem chain_n2 (h : ¬ sidedV n l' ys ye) : ¬ chainB m l xs xe n l' ys ye = true := by simp [chainB, sidedB, h]
theorem chain_n3 (h : ¬ l = l') : ¬ chainB m l xs xe n l' ys ye = true := by simp [chainB, h]
theorem chain_n4 (h : ¬ sidedV (wI (m * n)) l (cC m n xs ys) (cE xe ye)) : ¬ chainB m l xs xe n l' ys ye = true := by
  have : sidedB (wI (m * n)) l (cC m n xs ys) (cE xe ye) = false := by simpa [sidedB] using h
  simp [chainB, this]
theorem chain_n5 (h : 8 < wI (m * n)) : ¬ chainB m l xs xe n l' ys ye = true := chain_n4 (fun k => by have := k.1; omega)
theorem chain_n6 (h : ¬ (sidedV m l xs xe ∧ sidedV n l' ys ye ∧ l = l')) : ¬ chainB m l xs xe n l' ys ye = true := fun k => by
  simp only [chainB, sidedB, Bool.and_eq_true, decide_eq_true_eq] at k
  exact h ⟨k.1.1.1, k.1.1.2, k.1.2⟩
theorem chain_yes (h1 : sidedV m l xs xe) (h2 : sidedV n l' ys ye) (h3 : l = l') (h4 : sidedV (wI (m * n)) l (cC m n xs ys) (cE xe ye)) : chainB m l xs xe n l' ys ye = true := by
  subst h3; simp [chainB, sidedB, h1, h2, h4]
theorem chain_len : (onT (chainB m l xs xe n l' ys ye) (cC m n xs ys)).length ≤ 48 ∧ (onT (chainB m l xs xe n l' ys ye) (cE xe ye)).length ≤ 8 := by
  by_cases h : chainB m l xs xe n l' ys ye = true
  · rw [onT_yes h, onT_yes h]
    simp only [chainB, sidedB, Bool.and_eq_true, decide_eq_true_eq] at h
    have h1 := h.2.1; have h2 := h.2.2.2.1; have h3 := h.2.2.2.2.1
    omega
  · rw [onT_no h, onT_no h]; simp
end
end Go.WX
namespace Go.WX
theorem cA_le {n : Int} {xs ys : List R4} (hx : xs.length ≤ 48) (hy : ys.length ≤ 48) : (cA n xs ys).length ≤ 2304 := by
  have := dblF_le (ch1_len n xs ys) hy hx
  unfold cA; rw [List.length_append]; simp only [List.length_nil]; omega
theorem cB_le {n : Int} {xs ys : List R4} (hx : xs.length ≤ 48) (hy : ys.length ≤ 48) (hn : n.toNat ≤ 8) : (cB n xs ys).length ≤ 2688 := by
  have h1 := cA_le (n := n) hx hy
  have := dblF_le (ch2_len n xs) hn hx
  unfold cB; rw [List.length_append]; omega
end Go.WX
