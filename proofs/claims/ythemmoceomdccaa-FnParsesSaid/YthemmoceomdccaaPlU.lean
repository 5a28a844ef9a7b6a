/- Plain laws on useful rules; no program. No condition. -/
import Derived.Test.YthemmoceomdccaaPlC
namespace Go.WX
open Go
def worksC (co : List Int) (r : R4) : Bool := decide (r.2.2.1 < 0 ∨ (0 ≤ co.getD r.2.1.toNat 0 ∧ 0 ≤ co.getD r.2.2.1.toNat 0))
theorem worksC_yes {co : List Int} {r : R4} (h : r.2.2.1 < 0 ∨ (0 ≤ co.getD r.2.1.toNat 0 ∧ 0 ≤ co.getD r.2.2.1.toNat 0)) : worksC co r = true := decide_eq_true h
theorem worksC_spec {co : List Int} {r : R4} (h : worksC co r = true) : r.2.2.1 < 0 ∨ (0 ≤ co.getD r.2.1.toNat 0 ∧ 0 ≤ co.getD r.2.2.1.toNat 0) := of_decide_eq_true h
theorem worksC_no {co : List Int} {r : R4} (h : worksC co r = false) : ¬ (r.2.2.1 < 0 ∨ (0 ≤ co.getD r.2.1.toNat 0 ∧ 0 ≤ co.getD r.2.2.1.toNat 0)) := of_decide_eq_false h
def stepU (co : List Int) (r : R4) (us : List Bool) : List Bool :=
  if us.getD r.1.toNat false = true ∧ 0 ≤ r.2.2.1 ∧ worksC co r = true then (us.set r.2.1.toNat true).set r.2.2.1.toNat true else us
theorem stepU_yes {co : List Int} {r : R4} {us : List Bool} (h1 : us.getD r.1.toNat false = true) (h2 : 0 ≤ r.2.2.1) (h3 : worksC co r = true) : (us.set r.2.1.toNat true).set r.2.2.1.toNat true = stepU co r us := by
  unfold stepU; rw [if_pos ⟨h1, h2, h3⟩]
theorem stepU_n1 {co : List Int} {r : R4} {us : List Bool} (h1 : us.getD r.1.toNat false = false) : us = stepU co r us := by
  unfold stepU; rw [if_neg (by rw [h1]; simp)]
theorem stepU_n2 {co : List Int} {r : R4} {us : List Bool} (h : ¬ 0 ≤ r.2.2.1) : us = stepU co r us := by
  unfold stepU; rw [if_neg (fun q => h q.2.1)]
theorem stepU_n3 {co : List Int} {r : R4} {us : List Bool} (h : worksC co r = false) : us = stepU co r us := by
  unfold stepU; rw [if_neg (fun q => by rw [h] at q; exact absurd q.2.2 (by decide))]
theorem stepU_len (co : List Int) (r : R4) (us : List Bool) : (stepU co r us).length = us.length := by unfold stepU; split <;> simp
def rowU (co : List Int) (rs : List R4) (k : Nat) (us : List Bool) : List Bool := itN (fun k => stepU co (rs.getD k (0, 0, 0, 0))) k us
theorem rowU_len (co : List Int) (rs : List R4) (k : Nat) (us : List Bool) : (rowU co rs k us).length = us.length := itN_len (fun k => stepU_len co _) k us
def allU (co : List Int) (rs : List R4) (n t : Nat) : List Bool := itN (fun _ => rowU co rs rs.length) t ((List.replicate n false).set 0 true)
theorem allU_len (co : List Int) (rs : List R4) (n t : Nat) : (allU co rs n t).length = n := by
  unfold allU; rw [itN_len (fun k => rowU_len co rs _)]; simp
theorem rowU_succ {co : List Int} {rs : List R4} {k : Nat} {us vs : List Bool} (h : vs = stepU co (rs.getD k (0, 0, 0, 0)) (rowU co rs k us)) : vs = rowU co rs (k + 1) us := h
theorem allU_succ {co : List Int} {rs : List R4} {n t k : Nat} (h : k = rs.length) : rowU co rs k (allU co rs n t) = allU co rs n (t + 1) := by subst h; rfl
def oneU (co : List Int) (us : List Bool) (rs : List R4) (i : Nat) : List Int := if us.getD (rs.getD i (0, 0, 0, 0)).1.toNat false = true ∧ worksC co (rs.getD i (0, 0, 0, 0)) = true then [(i : Int)] else []
def outU (co : List Int) (us : List Bool) (rs : List R4) (k : Nat) : List Int := (List.range k).flatMap (oneU co us rs)
theorem outU_succ (co : List Int) (us : List Bool) (rs : List R4) (k : Nat) : outU co us rs (k + 1) = outU co us rs k ++ oneU co us rs k := by simp [outU, List.range_succ]
theorem outU_yes {co : List Int} {us : List Bool} {rs : List R4} {k : Nat} (h1 : us.getD (rs.getD k (0, 0, 0, 0)).1.toNat false = true) (h2 : worksC co (rs.getD k (0, 0, 0, 0)) = true) : outU co us rs k ++ [(k : Int)] = outU co us rs (k + 1) := by
  rw [outU_succ]; unfold oneU; rw [if_pos ⟨h1, h2⟩]
theorem outU_n1 {co : List Int} {us : List Bool} {rs : List R4} {k : Nat} (h1 : us.getD (rs.getD k (0, 0, 0, 0)).1.toNat false = false) : outU co us rs k = outU co us rs (k + 1) := by
  rw [outU_succ]; unfold oneU; rw [if_neg (by rw [h1]; simp)]; simp
theorem outU_n2 {co : List Int} {us : List Bool} {rs : List R4} {k : Nat} (h2 : worksC co (rs.getD k (0, 0, 0, 0)) = false) : outU co us rs k = outU co us rs (k + 1) := by
  rw [outU_succ]; unfold oneU; rw [if_neg (by rw [h2]; simp)]; simp
theorem outU_len (co : List Int) (us : List Bool) (rs : List R4) : ∀ k, (outU co us rs k).length ≤ k
  | 0 => by simp [outU]
  | k + 1 => by
    have := outU_len co us rs k
    have h : (oneU co us rs k).length ≤ 1 := by unfold oneU; split <;> simp
    rw [outU_succ, List.length_append]; omega
def usefL (n : Int) (rs : List R4) : List Int := outU (allC n rs).2 (allU (allC n rs).2 rs n.toNat n.toNat) rs rs.length
theorem usefL_len (n l : Int) (rs : List R4) : (onT (gramB n l rs) (usefL n rs)).length ≤ 32 := by
  by_cases h : gramV n l rs
  · rw [onT_yes (gramB_yes h)]
    have h1 := outU_len (allC n rs).2 (allU (allC n rs).2 rs n.toNat n.toNat) rs rs.length
    have h2 := h.2.2.1
    unfold usefL; omega
  · rw [onT_no (gramB_no h)]; simp
end Go.WX
