/- Plain laws on valid games; no program. No condition. -/
import Derived.Test.YtliakkhlgflbcaaPlA
import Derived.Test.YtliakkhlgflbcaaLibN
namespace Go.WX
open Go
def setC (n : Int) (l : List Int) (k : Nat) : Prop := (0 ≤ l.getD k 0 ∧ l.getD k 0 ≤ n - 1) ∧ (0 < k → l.getD ((k : Int) - 1).toNat 0 < l.getD k 0)
def setV (n : Int) (l : List Int) : Prop := ∀ k : Nat, k < l.length → setC n l k
def okM (n : Int) (l : List Int) : Prop := 1 ≤ l.length ∧ setV n l
noncomputable instance (n : Int) (l : List Int) : Decidable (setV n l) := Classical.propDecidable _
noncomputable instance (n : Int) (l : List Int) : Decidable (okM n l) := Classical.propDecidable _
noncomputable def badM (n : Int) (l : List Int) : Bool := !decide (okM n l)
theorem badM_yes {n : Int} {l : List Int} (h : ¬ okM n l) : badM n l = true := by simp [badM, h]
theorem badM_no {n : Int} {l : List Int} (h : okM n l) : badM n l = false := by simp [badM, h]
theorem badM_t {n : Int} {l : List Int} (h : badM n l = true) : ¬ okM n l := by simpa [badM] using h
theorem badM_f {n : Int} {l : List Int} (h : badM n l = false) : okM n l := by simpa [badM] using h
theorem badM_set {n : Int} {l : List Int} (h : 1 ≤ l.length) : (!decide (setV n l)) = badM n l := by
  unfold badM; congr 1; rw [decide_eq_decide]; exact ⟨fun k => ⟨h, k⟩, fun k => k.2⟩
def gameV (o r : List Int) (m : List (List Int)) : Prop := (1 ≤ (o.length : Int) ∧ (o.length : Int) ≤ 16) ∧ r.length = o.length ∧ m.length = o.length ∧ allIn o 0 1 = true ∧ allIn r 0 8 = true ∧ ∀ i : Nat, i < m.length → okM (o.length : Int) (m.getD i [])
noncomputable instance (o r : List Int) (m : List (List Int)) : Decidable (gameV o r m) := Classical.propDecidable _
/-- The first place of a list that is bad, -1 for none. -/
def firstI (p : List Int → Bool) : List (List Int) → Nat → Int
  | [], _ => -1
  | x :: r, i => if p x = true then (i : Int) else firstI p r (i + 1)
theorem firstI_hit {p : List Int → Bool} {xs : List (List Int)} {k : Nat} (h : k < xs.length) (hp : p (xs.getD k []) = true) : firstI p (xs.drop k) k = k := by
  rw [drop_cons h ([] : List Int)]; simp only [firstI]; rw [if_pos hp]
theorem firstI_on {p : List Int → Bool} {xs : List (List Int)} {k : Nat} (h : k < xs.length) (hp : p (xs.getD k []) = false) : firstI p (xs.drop k) k = firstI p (xs.drop (k + 1)) (k + 1) := by
  rw [drop_cons h ([] : List Int)]; simp only [firstI]; rw [if_neg (by rw [hp]; decide)]
theorem firstI_end {p : List Int → Bool} {xs : List (List Int)} {k : Nat} (h : xs.length ≤ k) : firstI p (xs.drop k) k = -1 := by
  rw [List.drop_eq_nil_of_le h]; rfl
theorem firstI_zero (p : List Int → Bool) (xs : List (List Int)) : firstI p xs 0 = firstI p (xs.drop 0) 0 := rfl
theorem firstI_nn {p : List Int → Bool} : ∀ (xs : List (List Int)) (k : Nat), 0 ≤ firstI p xs k ↔ ∃ x ∈ xs, p x = true
  | [], k => by simp [firstI]
  | x :: r, k => by
    simp only [firstI]
    split
    · rename_i h; exact ⟨fun _ => ⟨x, by simp, h⟩, fun _ => by omega⟩
    · rename_i h
      rw [firstI_nn r (k + 1)]
      exact ⟨fun ⟨y, h1, h2⟩ => ⟨y, by simp [h1], h2⟩, fun ⟨y, h1, h2⟩ => by
        rcases List.mem_cons.1 h1 with rfl | h1
        · exact absurd h2 h
        · exact ⟨y, h1, h2⟩⟩
theorem all_okM {n : Int} {m : List (List Int)} (h : ¬ 0 ≤ firstI (badM n) m 0) : ∀ i : Nat, i < m.length → okM n (m.getD i []) := fun i hi => by
  rw [firstI_nn] at h
  by_cases hb : okM n (m.getD i [])
  · exact hb
  · exact absurd ⟨m.getD i [], by rw [List.getD_eq_getElem?_getD, List.getElem?_eq_getElem hi]; exact List.getElem_mem hi, badM_yes hb⟩ h
theorem not_okM {n : Int} {m : List (List Int)} (h : 0 ≤ firstI (badM n) m 0) : ¬ ∀ i : Nat, i < m.length → okM n (m.getD i []) := fun k => by
  rw [firstI_nn] at h
  obtain ⟨x, hx, hp⟩ := h
  obtain ⟨i, hi, rfl⟩ := List.mem_iff_getElem.1 hx
  have := k i hi
  rw [List.getD_eq_getElem?_getD, List.getElem?_eq_getElem hi] at this
  exact badM_t hp this
end Go.WX
