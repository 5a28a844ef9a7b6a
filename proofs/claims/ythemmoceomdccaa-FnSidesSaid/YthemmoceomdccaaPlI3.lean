/- All words of a length: their letters, and that none is lacking; no program. No condition. -/
import Derived.Test.YthemmoceomdccaaPlI2
namespace Go.WX
open Go
section
variable {L : Int} {k m : Nat}
theorem wordsL_in : ∀ n, ∀ w ∈ wordsL L n, ∀ x ∈ w, 0 ≤ x ∧ x ≤ L - 1
  | 0, w, h, x, hx => by simp [wordsL] at h; subst h; cases hx
  | n + 1, w, h, x, hx => by
    unfold wordsL growW at h
    obtain ⟨u, hu, hw⟩ := List.mem_flatMap.1 h
    unfold growOne at hw
    obtain ⟨q, hq, rfl⟩ := List.mem_map.1 hw
    have hq2 := List.mem_range.1 hq
    rcases List.mem_append.1 hx with h1 | h1
    · exact wordsL_in n u hu x h1
    · simp at h1; omega
theorem wordsP_in : ∀ w ∈ wordsP L k, ∀ x ∈ w, 0 ≤ x ∧ x ≤ L - 1 := fun w hw => by
  unfold wordsP at hw
  obtain ⟨q, _, h⟩ := List.mem_flatMap.1 hw
  exact wordsL_in q w h
theorem wordsL_mem : ∀ (n : Nat) (w : List Int), w.length = n → (∀ x ∈ w, 0 ≤ x ∧ x ≤ L - 1) → w ∈ wordsL L n
  | 0, w, h, _ => by
    have : w = [] := List.length_eq_zero_iff.1 h
    subst this; simp [wordsL]
  | n + 1, w, h, hx => by
    have hne : w ≠ [] := by intro e; subst e; simp at h
    have e := List.dropLast_concat_getLast hne
    have hl := hx _ (List.getLast_mem hne)
    have hd := wordsL_mem n w.dropLast (by simp [h]) (fun x h9 => hx x (List.dropLast_subset w h9))
    unfold wordsL growW
    refine List.mem_flatMap.2 ⟨_, hd, ?_⟩
    unfold growOne
    refine List.mem_map.2 ⟨(w.getLast hne).toNat, List.mem_range.2 (by omega), ?_⟩
    rw [Int.toNat_of_nonneg hl.1]; exact e
theorem wordsP_mem {w : List Int} (h : w.length < k) (hx : ∀ x ∈ w, 0 ≤ x ∧ x ≤ L - 1) : w ∈ wordsP L k := by
  unfold wordsP
  exact List.mem_flatMap.2 ⟨w.length, List.mem_range.2 h, wordsL_mem _ w rfl hx⟩
end
end Go.WX
