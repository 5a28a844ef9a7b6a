/- Plain laws on grammars; no program. No condition. -/
import Derived.Test.YtcnjfbhgicoogaaPlA
import Derived.Test.YtcnjfbhgicoogaaLibL
namespace Go.WX
open Go
def okR (n l : Int) (r : R4) : Prop := (0 ≤ r.1 ∧ r.1 ≤ n - 1) ∧ (-1 ≤ r.2.2.1 ∧ r.2.2.1 ≤ n - 1) ∧ (0 ≤ r.2.2.2 ∧ r.2.2.2 ≤ 1000) ∧ (r.2.2.1 = -1 → 0 ≤ r.2.1 ∧ r.2.1 ≤ l - 1) ∧ (r.2.2.1 ≠ -1 → 0 ≤ r.2.1 ∧ r.2.1 ≤ n - 1)
def gramV (n l : Int) (rs : List R4) : Prop := (1 ≤ n ∧ n ≤ 8) ∧ (1 ≤ l ∧ l ≤ 4) ∧ (rs.length : Int) ≤ 32 ∧ ∀ i : Nat, i < rs.length → okR n l (rs.getD i (0, 0, 0, 0))
noncomputable instance (n l : Int) (rs : List R4) : Decidable (gramV n l rs) := Classical.propDecidable _

/-- n rules of numbers from k on. -/
def marksR (k : Int) (n : Nat) : List R4 := (List.range n).map fun (i : Nat) => (k + 4 * (i : Int), k + 4 * (i : Int) + 1, k + 4 * (i : Int) + 1 + 1, k + 4 * (i : Int) + 1 + 1 + 1)
@[simp] theorem marksR_len (k : Int) (n : Nat) : (marksR k n).length = n := by simp [marksR]
theorem marksR_succ (k : Int) (n : Nat) : marksR k (n + 1) = marksR k n ++ [(k + 4 * (n : Int), k + 4 * (n : Int) + 1, k + 4 * (n : Int) + 1 + 1, k + 4 * (n : Int) + 1 + 1 + 1)] := by simp [marksR, List.range_succ]
theorem marksR_get {k : Int} {n i : Nat} (h : i < n) (d : R4) : (marksR k n).getD i d = (k + 4 * (i : Int), k + 4 * (i : Int) + 1, k + 4 * (i : Int) + 1 + 1, k + 4 * (i : Int) + 1 + 1 + 1) := by simp [marksR, List.getD_eq_getElem?_getD, h]
theorem marksR_zero (xs : List R4) (k : Int) : xs = marksR k 0 ++ xs.drop 0 := by simp [marksR]
theorem marksR_done {xs : List R4} {i : Nat} {k : Int} (h : xs.length ≤ i) (h2 : i ≤ xs.length) : marksR k i ++ xs.drop i = marksR k xs.length := by
  have : i = xs.length := by omega
  subst this; simp
theorem set4 {L : List R4} {i : Nat} {a b c e : Int} (h : i < L.length) (d1 d2 d3 d4 : R4) :
    (((L.set i (setR0 a (L.getD i d1))).set i (setR1 b ((L.set i (setR0 a (L.getD i d1))).getD i d2))).set i (setR2 c (((L.set i (setR0 a (L.getD i d1))).set i (setR1 b ((L.set i (setR0 a (L.getD i d1))).getD i d2))).getD i d3))).set i
      (setR3 e ((((L.set i (setR0 a (L.getD i d1))).set i (setR1 b ((L.set i (setR0 a (L.getD i d1))).getD i d2))).set i (setR2 c (((L.set i (setR0 a (L.getD i d1))).set i (setR1 b ((L.set i (setR0 a (L.getD i d1))).getD i d2))).getD i d3))).getD i d4)) = L.set i (a, b, c, e) := by
  simp [List.getD_eq_getElem?_getD, h]
theorem marksR_put {xs : List R4} {i : Nat} {k : Int} (h : i < xs.length) : (marksR k i ++ xs.drop i).set i (k + 4 * (i : Int), k + 4 * (i : Int) + 1, k + 4 * (i : Int) + 1 + 1, k + 4 * (i : Int) + 1 + 1 + 1) = marksR k (i + 1) ++ xs.drop (i + 1) := by
  rw [drop_cons h ((0, 0, 0, 0) : R4), marksR_succ, List.set_append_right _ _ (by simp)]
  simp
theorem marksR_bad {xs : List R4} {i : Nat} {k : Int} (h : i < xs.length) (hne : ¬ xs.getD i (0, 0, 0, 0) = (k + 4 * (i : Int), k + 4 * (i : Int) + 1, k + 4 * (i : Int) + 1 + 1, k + 4 * (i : Int) + 1 + 1 + 1)) : ¬ xs = marksR k xs.length := fun e => hne (by
  have h1 : xs.getD i (0, 0, 0, 0) = (marksR k xs.length).getD i (0, 0, 0, 0) := by rw [← e]
  rw [h1, marksR_get h])
theorem marksR_step {xs : List R4} {i : Nat} {k : Int} (h : i < xs.length) (he : xs.take i = marksR k i) (h0 : (xs.getD i (0, 0, 0, 0)).1 = k + 4 * (i : Int)) (h1 : (xs.getD i (0, 0, 0, 0)).2.1 = k + 4 * (i : Int) + 1) (h2 : (xs.getD i (0, 0, 0, 0)).2.2.1 = k + 4 * (i : Int) + 1 + 1) (h3 : (xs.getD i (0, 0, 0, 0)).2.2.2 = k + 4 * (i : Int) + 1 + 1 + 1) : xs.take (i + 1) = marksR k (i + 1) := by
  rw [take_succ h ((0, 0, 0, 0) : R4), he, marksR_succ]
  congr 2
  exact r4_ext ⟨h0, h1, h2, h3⟩
theorem marksR_eq {xs : List R4} {i : Nat} {k : Int} (h : xs.length ≤ i) (h2 : i ≤ xs.length) (he : xs.take i = marksR k i) : xs = marksR k xs.length := by
  have : i = xs.length := by omega
  subst this; simpa using he

/-- A rule turned around. -/
def backR (r : R4) : R4 := if 0 ≤ r.2.2.1 then (r.1, r.2.2.1, r.2.1, r.2.2.2) else r
theorem backR_put {xs : List R4} {k : Nat} {r : R4} (h : k < xs.length) (hr : r = backR (xs.getD k (0, 0, 0, 0))) : (xs.take k).map backR ++ [r] = (xs.take (k + 1)).map backR := by
  rw [take_succ h ((0, 0, 0, 0) : R4), hr]; simp
theorem backR_all {xs : List R4} {k : Nat} (h : xs.length ≤ k) : (xs.take k).map backR = xs.map backR := by rw [List.take_of_length_le h]
theorem backR_yes {r : R4} (h : 0 ≤ r.2.2.1) : (r.1, r.2.2.1, r.2.1, r.2.2.2) = backR r := by simp [backR, h]
theorem backR_no {r : R4} (h : ¬ 0 ≤ r.2.2.1) : (r.1, r.2.1, r.2.2.1, r.2.2.2) = backR r := by simp [backR, h]
noncomputable def gramB (n l : Int) (rs : List R4) : Bool := decide (gramV n l rs)
end Go.WX
namespace Go.WX
theorem gramB_yes {n l : Int} {rs : List R4} (h : gramV n l rs) : gramB n l rs = true := decide_eq_true h
theorem gramB_no {n l : Int} {rs : List R4} (h : ¬ gramV n l rs) : ¬ gramB n l rs = true := by unfold gramB; simpa using h
end Go.WX
