/- Plain laws on changes of many words; no program. No condition. -/
import Derived.Test.YthemmoceomdccaaPlQ
import Derived.Test.YthemmoceomdccaaLibN
namespace Go.WX
open Go

def shB (cs : List C4) (wss : List (List Int)) (L wk : Int) : Bool := listB cs L && decide (wss.length ≤ 16) && decide (1 ≤ wk ∧ wk ≤ 8) && wss.all (fun w => rB (runR cs w L))
section
variable {cs : List C4} {wss : List (List Int)} {L wk : Int}
theorem sh_n1 (h : listB cs L = false) : false = shB cs wss L wk := by simp [shB, h]
theorem sh_n2 (h : ¬ wss.length ≤ 16) : false = shB cs wss L wk := by simp [shB, h]
theorem sh_n3 (h : ¬ (1 ≤ wk ∧ wk ≤ 8)) : false = shB cs wss L wk := by simp only [shB, decide_eq_false h, Bool.and_false, Bool.false_and]
theorem sh_n4 {k : Nat} (hk : k < wss.length) (h : rB (runR cs (wss.getD k []) L) = false) : false = shB cs wss L wk := by
  have : wss.all (fun w => rB (runR cs w L)) = false := by
    rw [List.all_eq_false]
    exact ⟨wss.getD k [], by simp [List.getD_eq_getElem?_getD, hk], by rw [h]; decide⟩
  simp [shB, this]
theorem sh_y (h1 : listB cs L = true) (h2 : wss.length ≤ 16) (h3 : 1 ≤ wk ∧ wk ≤ 8) (h4 : ∀ j : Nat, j < wss.length → rB (runR cs (wss.getD j []) L) = true) : true = shB cs wss L wk := by
  have : wss.all (fun w => rB (runR cs w L)) = true := by
    rw [List.all_eq_true]
    intro x hx
    obtain ⟨j, hj, rfl⟩ := List.mem_iff_getElem.1 hx
    have := h4 j hj
    simpa [List.getD_eq_getElem?_getD, hj] using this
  simp only [shB, h1, this, decide_eq_true h2, decide_eq_true h3, Bool.and_true]
end
theorem map_put {f : List Int → List Int} {wss : List (List Int)} {k : Nat} (h : k < wss.length) : (wss.take k).map f ++ [f (wss.getD k [])] = (wss.take (k + 1)).map f := by
  rw [take_succ h ([] : List Int), List.map_append]; rfl
theorem sumL_map {f : List Int → List Int} {b : Nat} (hf : ∀ x, (f x).length ≤ b) : ∀ wss : List (List Int), sumL (wss.map f) ≤ wss.length * b
  | [] => by simp [sumL]
  | w :: r => by
    have := sumL_map hf r
    have := hf w
    simp only [sumL, List.map_cons, List.sum_cons, List.length_cons] at *
    rw [show ((r.length + 1 : Nat) : Int) * (b : Int) = r.length * b + b from by rw [Int.natCast_add, Int.add_mul]; simp]
    omega
theorem sh_sum (cs : List C4) (wss : List (List Int)) (L wk : Int) : sumL (onT (shB cs wss L wk) (wss.map fun w => rL (runR cs w L))) ≤ 384 ∧ (onT (shB cs wss L wk) (wss.map fun w => rL (runR cs w L))).length ≤ 16 := by
  by_cases h : shB cs wss L wk = true
  · rw [onT_yes h]
    have h16 : wss.length ≤ 16 := by simp only [shB, Bool.and_eq_true, decide_eq_true_eq] at h; exact h.1.1.2
    have := sumL_map (f := fun w => rL (runR cs w L)) (b := 24) (fun x => runR_len cs x L) wss
    rw [List.length_map]; omega
  · rw [onT_no h]; simp [sumL]
end Go.WX
