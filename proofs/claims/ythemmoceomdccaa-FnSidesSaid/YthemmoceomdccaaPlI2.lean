/- Plain laws on all words of at most some letters; no program. No condition. -/
import Derived.Test.YthemmoceomdccaaPlI
import Derived.Test.YthemmoceomdccaaLibN
namespace Go.WX
open Go

/-- All words of fewer than k letters. -/
def wordsP (L : Int) (k : Nat) : List (List Int) := (List.range k).flatMap (wordsL L)
theorem wordsP_zero (L : Int) : ([] : List (List Int)) = wordsP L 0 := rfl
theorem wordsP_succ (L : Int) (k : Nat) : wordsP L k ++ wordsL L k = wordsP L (k + 1) := by simp [wordsP, List.range_succ]
theorem wordsP_one (L : Int) : [[]] = wordsP L 1 := by simp [wordsP, wordsL]
section
variable {L : Int} {k r i : Nat}
theorem wordsP_len (hL : L ≤ 4) : ∀ k, k ≤ 6 → (wordsP L k).length ≤ 1365
  | 0, _ => by simp [wordsP]
  | 1, _ => by simp [wordsP, wordsL]
  | 2, _ => by have := wordsL_len hL 0; have := wordsL_len hL 1; simp only [wordsP, List.range_succ, List.range_zero, List.nil_append, List.cons_append, List.flatMap_cons, List.flatMap_nil, List.length_append, List.length_nil] at *; omega
  | 3, _ => by have := wordsL_len hL 0; have := wordsL_len hL 1; have := wordsL_len hL 2; simp only [wordsP, List.range_succ, List.range_zero, List.nil_append, List.cons_append, List.flatMap_cons, List.flatMap_nil, List.length_append, List.length_nil] at *; omega
  | 4, _ => by have := wordsL_len hL 0; have := wordsL_len hL 1; have := wordsL_len hL 2; have := wordsL_len hL 3; simp only [wordsP, List.range_succ, List.range_zero, List.nil_append, List.cons_append, List.flatMap_cons, List.flatMap_nil, List.length_append, List.length_nil] at *; omega
  | 5, _ => by have := wordsL_len hL 0; have := wordsL_len hL 1; have := wordsL_len hL 2; have := wordsL_len hL 3; have := wordsL_len hL 4; simp only [wordsP, List.range_succ, List.range_zero, List.nil_append, List.cons_append, List.flatMap_cons, List.flatMap_nil, List.length_append, List.length_nil] at *; omega
  | 6, _ => by have := wordsL_len hL 0; have := wordsL_len hL 1; have := wordsL_len hL 2; have := wordsL_len hL 3; have := wordsL_len hL 4; have := wordsL_len hL 5; simp only [wordsP, List.range_succ, List.range_zero, List.nil_append, List.cons_append, List.flatMap_cons, List.flatMap_nil, List.length_append, List.length_nil] at *; omega
  | k + 7, h => by omega
theorem wordsP_each {m : Nat} : ∀ x ∈ wordsP L (m + 1), x.length ≤ m := fun x hx => by
  unfold wordsP at hx
  obtain ⟨q, hq, hx⟩ := List.mem_flatMap.1 hx
  rw [wordsL_each q x hx]
  have := List.mem_range.1 hq; omega
theorem wordsP_get {m : Nat} (hk : k < (wordsP L (m + 1)).length) : ((wordsP L (m + 1)).getD k []).length ≤ m := by
  have e : (wordsP L (m + 1)).getD k [] = (wordsP L (m + 1))[k] := by simp [List.getD_eq_getElem?_getD, hk]
  rw [e]; exact wordsP_each _ (List.getElem_mem hk)
/-- Where the words of r letters stand. -/
theorem wordsP_at {X : List (List Int)} {j : Nat} (hi : i < (wordsL L r).length) (hj : j = (wordsP L r).length + i) : (wordsP L (r + 1) ++ X).getD j [] = (wordsL L r).getD i [] := by
  subst hj
  have hl : (wordsP L (r + 1)).length = (wordsP L r).length + (wordsL L r).length := by rw [← wordsP_succ, List.length_append]
  rw [List.getD_eq_getElem?_getD, List.getElem?_append_left (by omega), ← wordsP_succ, List.getElem?_append_right (by omega), ← List.getD_eq_getElem?_getD]
  congr 1; omega
theorem wordsP_lenS (L : Int) (r : Nat) : (wordsP L (r + 1)).length = (wordsP L r).length + (wordsL L r).length := by rw [← wordsP_succ, List.length_append]
/-- The words under way. -/
def wQ (L : Int) (r i l : Nat) : List (List Int) := wordsP L (r + 1) ++ gP L (wordsL L r) i l
theorem wQ_zero (L : Int) (r : Nat) : wordsP L (r + 1) = wQ L r 0 0 := by unfold wQ; rw [← gP_zero]; simp
theorem wQ_at {l j : Nat} (hi : i < (wordsL L r).length) (hj : j = (wordsP L r).length + i) : (wQ L r i l).getD j [] = (wordsL L r).getD i [] := wordsP_at hi hj
theorem wQ_put {l j : Nat} (hi : i < (wordsL L r).length) (hj : j = (wordsP L r).length + i) : wQ L r i l ++ [[] ++ (wQ L r i l).getD j [] ++ [(l : Int)]] = wQ L r i (l + 1) := by
  rw [wQ_at hi hj, List.nil_append]
  unfold wQ; rw [List.append_assoc, gP_put]
theorem wQ_next (hi : i < (wordsL L r).length) : wQ L r i L.toNat = wQ L r (i + 1) 0 := by unfold wQ; rw [gP_next hi]
theorem wQ_done (hi : (wordsL L r).length ≤ i) : wQ L r i 0 = wordsP L (r + 2) := by
  unfold wQ; rw [gP_done hi, ← wordsP_succ L (r + 1)]; rfl
theorem wQ_len {l : Nat} (hL : L ≤ 4) (hi : i ≤ (wordsL L r).length) (hl : l ≤ L.toNat) : (wQ L r i l).length ≤ (wordsP L (r + 1)).length + 4 * i + l := by
  unfold wQ; rw [List.length_append]
  have := gP_len (k := i) (xss := wordsL L r) (l := l) hi hl hL; omega
end
end Go.WX
