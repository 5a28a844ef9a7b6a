/- Plain laws on parses of many words; no program. No condition. -/
import Derived.Test.YthemmoceomdccaaPlB
import Derived.Test.YthemmoceomdccaaLibN
namespace Go.WX
open Go

noncomputable def psB (a0 a1 : Int) (rs : List R4) (wss : List (List Int)) (wk : Int) : Bool := gramB a0 a1 rs && decide (wss.length ≤ 16) && decide (1 ≤ wk ∧ wk ≤ 8) && wss.all (fun w => canB a0 a1 rs w)
section
variable {a0 a1 wk : Int} {rs : List R4} {wss : List (List Int)}
theorem ps_n1 (h : ¬ gramV a0 a1 rs) : false = psB a0 a1 rs wss wk := by simp [psB, Bool.eq_false_iff.2 (gramB_no h)]
theorem ps_n2 (h : ¬ wss.length ≤ 16) : false = psB a0 a1 rs wss wk := by simp [psB, h]
theorem ps_n3 (h : ¬ (1 ≤ wk ∧ wk ≤ 8)) : false = psB a0 a1 rs wss wk := by simp only [psB, decide_eq_false h, Bool.and_false, Bool.false_and]
theorem ps_n4 {k : Nat} (hk : k < wss.length) (h : canB a0 a1 rs (wss.getD k []) = false) : false = psB a0 a1 rs wss wk := by
  have : wss.all (fun w => canB a0 a1 rs w) = false := by
    rw [List.all_eq_false]
    exact ⟨wss.getD k [], by simp [List.getD_eq_getElem?_getD, hk], by rw [h]; decide⟩
  simp [psB, this]
theorem ps_y (h1 : gramV a0 a1 rs) (h2 : wss.length ≤ 16) (h3 : 1 ≤ wk ∧ wk ≤ 8) (h4 : ∀ j : Nat, j < wss.length → canB a0 a1 rs (wss.getD j []) = true) : true = psB a0 a1 rs wss wk := by
  have : wss.all (fun w => canB a0 a1 rs w) = true := by
    rw [List.all_eq_true]
    intro x hx
    obtain ⟨j, hj, rfl⟩ := List.mem_iff_getElem.1 hx
    have := h4 j hj
    simpa [List.getD_eq_getElem?_getD, hj] using this
  simp only [psB, gramB_yes h1, this, decide_eq_true h2, decide_eq_true h3, Bool.and_true]
theorem ps_len (f : List Int → Int) : (onT (psB a0 a1 rs wss wk) (wss.map f)).length ≤ 16 := by
  by_cases h : psB a0 a1 rs wss wk = true
  · rw [onT_yes h]
    simp only [psB, Bool.and_eq_true, decide_eq_true_eq] at h
    rw [List.length_map]; exact h.1.1.2
  · rw [onT_no h]; simp
end
theorem mapI_put {f : List Int → Int} {wss : List (List Int)} {k : Nat} {x : Int} (h : k < wss.length) (e : x = f (wss.getD k [])) : (wss.take k).map f ++ [x] = (wss.take (k + 1)).map f := by
  rw [take_succ h ([] : List Int), List.map_append, e]; rfl
end Go.WX
