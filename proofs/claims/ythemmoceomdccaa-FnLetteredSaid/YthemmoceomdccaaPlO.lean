/- Plain laws on words for which the order of two changes counts, and on words that lead to a word; no program. No condition. -/
import Derived.Test.YthemmoceomdccaaPlQ
import Derived.Test.YthemmoceomdccaaPlI2
namespace Go.WX
open Go

/-- Whether the order counts for word k. -/
def pO (a b : C4) (ws : List (List Int)) (k : Nat) : Bool := rB (runF [a, b] (ws.getD k [])) && rB (runF [b, a] (ws.getD k [])) && !decide (rL (runF [a, b] (ws.getD k [])) = rL (runF [b, a] (ws.getD k [])))
theorem pO_n1 {a b : C4} {ws : List (List Int)} {k : Nat} (h : rB (runF [a, b] (ws.getD k [])) = false) : pO a b ws k = false := by unfold pO; rw [h]; simp
theorem pO_n2 {a b : C4} {ws : List (List Int)} {k : Nat} (h : rB (runF [b, a] (ws.getD k [])) = false) : pO a b ws k = false := by unfold pO; rw [h]; simp
theorem pO_n3 {a b : C4} {ws : List (List Int)} {k : Nat} (h : rL (runF [a, b] (ws.getD k [])) = rL (runF [b, a] (ws.getD k []))) : pO a b ws k = false := by unfold pO; rw [h, decide_eq_true rfl]; simp
theorem pO_y {a b : C4} {ws : List (List Int)} {k : Nat} (h : rB (runF [a, b] (ws.getD k [])) = true) (h2 : rB (runF [b, a] (ws.getD k [])) = true) (h3 : ¬ rL (runF [a, b] (ws.getD k [])) = rL (runF [b, a] (ws.getD k []))) : pO a b ws k = true := by unfold pO; rw [h, h2, decide_eq_false h3]; rfl
def ordV (a b : C4) (L m : Int) : Bool := chB a L && chB b L && decide (0 ≤ m ∧ m ≤ 5)
theorem ordV_y {a b : C4} {L m : Int} (h : chB a L = true) (h2 : chB b L = true) (h3 : 0 ≤ m ∧ m ≤ 5) : ordV a b L m = true := by simp only [ordV, h, h2, decide_eq_true h3, Bool.and_self]
def ordI (a b : C4) (L m : Int) : Int := idxB (pO a b (wordsP L (m.toNat + 1))) (wordsP L (m.toNat + 1)).length
def ordB (a b : C4) (L m : Int) : Bool := ordV a b L m && decide (0 ≤ ordI a b L m)
def ordL (a b : C4) (L m : Int) : List Int := if ordB a b L m = true then (wordsP L (m.toNat + 1)).getD (ordI a b L m).toNat [] else []
section
variable {a b : C4} {L m : Int}
theorem ord_n1 (h : chB a L = false) : ordB a b L m = false := by simp [ordB, ordV, h]
theorem ord_n2 (h : chB b L = false) : ordB a b L m = false := by simp [ordB, ordV, h]
theorem ord_n3 (h : ¬ (0 ≤ m ∧ m ≤ 5)) : ordB a b L m = false := by simp only [ordB, ordV, decide_eq_false h, Bool.and_false, Bool.false_and]
theorem ord_n4 (h : ∀ j : Nat, j < (wordsP L (m.toNat + 1)).length → pO a b (wordsP L (m.toNat + 1)) j = false) : ordB a b L m = false := by
  have : ordI a b L m = -1 := (idxB_no h).symm
  simp [ordB, this]
theorem ord_y {k : Nat} (hv : ordV a b L m = true) (hk : k < (wordsP L (m.toNat + 1)).length) (h0 : ∀ j : Nat, j < k → pO a b (wordsP L (m.toNat + 1)) j = false) (h1 : pO a b (wordsP L (m.toNat + 1)) k = true) : ordB a b L m = true ∧ ordL a b L m = (wordsP L (m.toNat + 1)).getD k [] := by
  have e : ordI a b L m = (k : Int) := (idxB_at hk h0 h1).symm
  have hb : ordB a b L m = true := by simp [ordB, hv, e]
  exact ⟨hb, by unfold ordL; rw [if_pos hb, e]; simp⟩
theorem ordL_n (h : ordB a b L m = false) : ordL a b L m = [] := by unfold ordL; rw [if_neg (by rw [h]; decide)]
theorem ordL_len : (ordL a b L m).length ≤ 5 := by
  unfold ordL; split
  · rename_i h
    simp only [ordB, ordV, Bool.and_eq_true, decide_eq_true_eq] at h
    have h5 := h.1.2.2
    have hr := idxB_rng (pO a b (wordsP L (m.toNat + 1))) (wordsP L (m.toNat + 1)).length
    have h0 := h.2
    unfold ordI at h0 ⊢
    have := wordsP_get (L := L) (m := m.toNat) (k := (idxB (pO a b (wordsP L (m.toNat + 1))) (wordsP L (m.toNat + 1)).length).toNat) (by omega)
    omega
  · simp
end
end Go.WX
