/- The first tree that is found is read; where none is found, none is read by a machine of few states; no program. No condition. -/
import Derived.Test.YthemmoceomdccaaPlCn
namespace Go.WX
open Go

/-- How each state was found. -/
def Hw (a0 : Int) (lf nx : List Int) (l : List R4) : Prop := ∀ i : Nat, i < l.length → (0 ≤ (l.getD i (0, 0, 0, 0)).2.1 ∧ rS l i = lf.getD (l.getD i (0, 0, 0, 0)).2.1.toNat 0) ∨
  ((l.getD i (0, 0, 0, 0)).2.1 = -1 ∧ (l.getD i (0, 0, 0, 0)).2.2.1.toNat < i ∧ (l.getD i (0, 0, 0, 0)).2.2.2.toNat < i ∧ rS l i = nx.getD (rS l (l.getD i (0, 0, 0, 0)).2.2.1.toNat * a0 + rS l (l.getD i (0, 0, 0, 0)).2.2.2.toNat).toNat 0)
section
variable {a0 a1 : Int} {lf nx : List Int} {l : List R4} {f : R4} {en : List Bool}
theorem Hw.put (h : Hw a0 lf nx l) (hf : (0 ≤ f.2.1 ∧ f.1 = lf.getD f.2.1.toNat 0) ∨ (f.2.1 = -1 ∧ f.2.2.1.toNat < l.length ∧ f.2.2.2.toNat < l.length ∧ f.1 = nx.getD (rS l f.2.2.1.toNat * a0 + rS l f.2.2.2.toNat).toNat 0)) : Hw a0 lf nx (putF l f) := by
  cases hh : hasS l f.1 with
  | true => rw [putF_has hh]; exact h
  | false =>
    rw [putF_new hh]
    intro i hi
    rw [List.length_append, List.length_singleton] at hi
    by_cases e : i < l.length
    · have hr : ∀ j, j < l.length → rS (l ++ [f]) j = rS l j := fun j hj => by rw [rS, rS, getD4_left _ hj]
      rw [getD4_left _ e, hr i e]
      rcases h i e with h1 | ⟨h1, h2, h3, h4⟩
      · exact .inl h1
      · exact .inr ⟨h1, h2, h3, by rw [hr _ (by omega), hr _ (by omega)]; exact h4⟩
    · obtain rfl : i = l.length := by omega
      have hr : ∀ j, j < l.length → rS (l ++ [f]) j = rS l j := fun j hj => by rw [rS, rS, getD4_left _ hj]
      have e2 : rS (l ++ [f]) l.length = f.1 := by rw [rS, getD4_last]
      rw [e2, getD4_last]
      rcases hf with h1 | ⟨h1, h2, h3, h4⟩
      · exact .inl h1
      · exact .inr ⟨h1, h2, h3, by rw [hr _ h2, hr _ h3]; exact h4⟩
theorem lfF_hw (lf nx : List Int) (a0 : Int) : ∀ k : Nat, Hw a0 lf nx (lfF lf k)
  | 0 => fun i hi => absurd hi (Nat.not_lt_zero _)
  | k + 1 => (lfF_hw lf nx a0 k).put (.inl ⟨Int.natCast_nonneg k, by simp⟩)
theorem rowA_hw (t : TV a0 a1 lf nx) (hF : FO a0 a1 l) (h : Hw a0 lf nx l) {m : Nat} (hm : m < l.length) : ∀ x : Nat, x ≤ m → Hw a0 lf nx (rowA a0 nx l m x)
  | 0, _ => h
  | x + 1, hx => by
    have h2 := (rowA_ok t hF hm x (by omega)).2
    exact (rowA_hw t hF h hm x (by omega)).put (.inr ⟨rfl, by simp only [pairF, Int.toNat_natCast]; omega, by simp only [pairF, Int.toNat_natCast]; omega, rfl⟩)
theorem rowB_hw (t : TV a0 a1 lf nx) (hF : FO a0 a1 l) (h : Hw a0 lf nx l) {m : Nat} (hm : m < l.length) : ∀ x : Nat, x ≤ m + 1 → Hw a0 lf nx (rowB a0 nx l m x)
  | 0, _ => h
  | x + 1, hx => by
    have h2 := (rowB_ok t hF hm x (by omega)).2
    exact (rowB_hw t hF h hm x (by omega)).put (.inr ⟨rfl, by simp only [pairF, Int.toNat_natCast]; omega, by simp only [pairF, Int.toNat_natCast]; omega, rfl⟩)
theorem genF_hw (t : TV a0 a1 lf nx) : ∀ m : Nat, Hw a0 lf nx (genF a0 nx lf m)
  | 0 => lfF_hw lf nx a0 _
  | m + 1 => by
    rw [genF]
    split
    · rename_i h
      obtain ⟨h1, h2⟩ := rowA_ok t (genF_ok t m) h m (Nat.le_refl _)
      exact rowB_hw t h1 (rowA_hw t (genF_ok t m) (genF_hw t m) h m (Nat.le_refl _)) (Nat.lt_of_lt_of_le h h2) _ (Nat.le_refl _)
    · exact genF_hw t m
theorem found_hw (t : TV a0 a1 lf nx) : Hw a0 lf nx (foundL a0 nx lf) := by rw [foundL_eq]; exact genF_hw t 16
/-- Each found tree has the state by which it was found. -/
theorem tr_tree (hF : FO a0 a1 l) (h : Hw a0 lf nx l) : ∀ (n k : Nat), k < n → k < l.length → ∃ T, (trF l).getD k [] = flatT T ∧ okTr a1 T ∧ stT a0 lf nx T = rS l k
  | 0, _, hk, _ => absurd hk (Nat.not_lt_zero _)
  | n + 1, k, hk, hl => by
    rw [trF_at l hl]
    unfold trN
    rcases h k hl with ⟨h1, h2⟩ | ⟨h1, h2, h3, h4⟩
    · rw [if_neg (by omega)]
      refine ⟨.leaf (l.getD k (0, 0, 0, 0)).2.1, rfl, ?_, h2.symm⟩
      rcases hF.how k hl with h5 | h5
      · exact h5
      · omega
    · rw [if_pos (by omega)]
      obtain ⟨A, p1, p2, p3⟩ := tr_tree hF h n (l.getD k (0, 0, 0, 0)).2.2.1.toNat (by omega) (by omega)
      obtain ⟨B, q1, q2, q3⟩ := tr_tree hF h n (l.getD k (0, 0, 0, 0)).2.2.2.toNat (by omega) (by omega)
      refine ⟨.node A B, ?_, ⟨p2, q2⟩, ?_⟩
      · rw [trF_pre l h2 (by omega), trF_pre l h3 (by omega), p1, q1]; rfl
      · show nx.getD (stT a0 lf nx A * a0 + stT a0 lf nx B).toNat 0 = _
        rw [p3, q3, h4]
theorem ft_reads (t : TV a0 a1 lf nx) (h : ftB true en (foundL a0 nx lf) = true) : ∃ T, ftT true en (foundL a0 nx lf) = flatT T ∧ okTr a1 T ∧ (flatT T).length ≤ 23 ∧ en.getD (stT a0 lf nx T).toNat false = true := by
  have h1 := h
  rw [ftB, Bool.true_and, decide_eq_true_eq] at h1
  obtain ⟨T, e1, e2, e3⟩ := tr_tree (found_ok t) (found_hw t) _ _ (Nat.lt_succ_self _) h1.1
  refine ⟨T, by rw [ftT, if_pos h, e1], e2, by rw [← e1]; exact h1.2, ?_⟩
  have h2 := List.findIdx_getElem (p := fun f : R4 => en.getD f.1.toNat false) (xs := foundL a0 nx lf) (w := h1.1)
  rw [e3, rS_at h1.1]
  exact h2
theorem ft_few (t : TV a0 a1 lf nx) (h : ftB true en (foundL a0 nx lf) = false) (h3 : a0 ≤ 3) : ∀ i, i < (foundL a0 nx lf).length → en.getD (rS (foundL a0 nx lf) i).toNat false = false := by
  have hF := found_ok t
  have hl := hF.len
  rw [ftB, Bool.true_and, decide_eq_false_iff_not] at h
  have hk : ¬ ftK en (foundL a0 nx lf) < (foundL a0 nx lf).length := fun h1 => h ⟨h1, by
    have h2 := trF_bound hF _ _ (Nat.lt_succ_self _) h1
    have h4 : 2 ^ (ftK en (foundL a0 nx lf) + 1) ≤ 2 ^ 3 := Nat.pow_le_pow_right (by omega) (by omega)
    have h5 : (2 : Nat) ^ 3 = 8 := by decide
    omega⟩
  intro i hi
  cases e : en.getD (rS (foundL a0 nx lf) i).toNat false with
  | false => rfl
  | true =>
    rw [rS_at hi] at e
    have h6 := List.findIdx_lt_length_of_exists (p := fun f : R4 => en.getD f.1.toNat false) (xs := foundL a0 nx lf) ⟨_, List.getElem_mem hi, e⟩
    exact absurd h6 hk
end
end Go.WX
