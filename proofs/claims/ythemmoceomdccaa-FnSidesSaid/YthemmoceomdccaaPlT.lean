/- Plain laws on the machine of two machines with two sides; no program. No condition. -/
import Derived.Test.YthemmoceomdccaaPlS
namespace Go.WX
open Go
@[reducible] def movR (q : Int) (r : R4) : R4 := (r.1 + q, r.2.1 + q, r.2.2.1, r.2.2.2)
def movL (q : Int) (rs : List R4) : List R4 := rs.map (movR q)
theorem movL_len (q : Int) (rs : List R4) : (movL q rs).length = rs.length := by simp [movL]
theorem movL_put {q : Int} {rs : List R4} {k : Nat} {z : R4} (h : k < rs.length) (hz : z = movR q (rs.getD k (0, 0, 0, 0))) : movL q (rs.take k) ++ [z] = movL q (rs.take (k + 1)) := by
  rw [take_succ h ((0, 0, 0, 0) : R4), hz]; simp [movL]
theorem movL_all {q : Int} {rs : List R4} {k : Nat} (h : rs.length ≤ k) : movL q (rs.take k) = movL q rs := by rw [List.take_of_length_le h]
theorem movL_lenK (q : Int) (rs : List R4) (k : Nat) : (movL q (rs.take k)).length ≤ rs.length := by simp [movL]; omega
def fr1 (q : Int) (r : R4) : List R4 := if r.1 = q then [setR0 0 r] else []
def frL (q : Int) (rs : List R4) : List R4 := rs.flatMap (fr1 q)
theorem frL_yes {A : List R4} {q : Int} {rs : List R4} {k : Nat} {z : R4} (h : k < rs.length) (h1 : (rs.getD k (0, 0, 0, 0)).1 = q) (hz : z = setR0 0 (rs.getD k (0, 0, 0, 0))) : A ++ frL q (rs.take k) ++ [z] = A ++ frL q (rs.take (k + 1)) := by
  rw [take_succ h ((0, 0, 0, 0) : R4), hz]; simp only [frL, List.flatMap_append, List.flatMap_cons, List.flatMap_nil, fr1, if_pos h1, List.append_nil, List.append_assoc]
theorem frL_no {A : List R4} {q : Int} {rs : List R4} {k : Nat} (h : k < rs.length) (h1 : ¬ (rs.getD k (0, 0, 0, 0)).1 = q) : A ++ frL q (rs.take k) = A ++ frL q (rs.take (k + 1)) := by
  rw [take_succ h ((0, 0, 0, 0) : R4)]; simp only [frL, List.flatMap_append, List.flatMap_cons, List.flatMap_nil, fr1, if_neg h1, List.append_nil]
theorem frL_len (q : Int) : ∀ rs : List R4, (frL q rs).length ≤ rs.length
  | [] => by simp [frL]
  | r :: rs => by
    have ih := frL_len q rs
    have e : frL q (r :: rs) = fr1 q r ++ frL q rs := rfl
    have h1 : (fr1 q r).length ≤ 1 := by unfold fr1; split <;> simp
    rw [e, List.length_append, List.length_cons]; omega
theorem frL_lenK (q : Int) (rs : List R4) (k : Nat) : (frL q (rs.take k)).length ≤ rs.length := by
  have h1 := frL_len q (rs.take k); have h2 := List.length_take_le' k rs; omega
/-- Both lists of arcs, one behind the other, and those that begin anew. -/
def allE (n : Int) (xs ys : List R4) : List R4 := movL 1 xs ++ movL (1 + n) ys
def one2 (n : Int) (a : Nat) (L : List R4) (i : Nat) : List R4 := if ((L.getD i (0, 0, 0, 0)).1 = 1 ∧ i < a) ∨ ((L.getD i (0, 0, 0, 0)).1 = 1 + n ∧ a ≤ i) then [setR0 0 (L.getD i (0, 0, 0, 0))] else []
def runE (n : Int) (a : Nat) (L : List R4) (k : Nat) : List R4 := (List.range k).flatMap (one2 n a L)
theorem runE_yes {n : Int} {a : Nat} {L : List R4} {k : Nat} {z : R4} (h : ((L.getD k (0, 0, 0, 0)).1 = 1 ∧ k < a) ∨ ((L.getD k (0, 0, 0, 0)).1 = 1 + n ∧ a ≤ k)) (hz : z = setR0 0 (L.getD k (0, 0, 0, 0))) : L ++ runE n a L k ++ [z] = L ++ runE n a L (k + 1) := by
  subst hz; simp only [runE, List.range_succ, List.flatMap_append, List.flatMap_cons, List.flatMap_nil, List.append_nil, one2, if_pos h, List.append_assoc]
theorem runE_no {n : Int} {a : Nat} {L : List R4} {k : Nat} (h : ¬ (((L.getD k (0, 0, 0, 0)).1 = 1 ∧ k < a) ∨ ((L.getD k (0, 0, 0, 0)).1 = 1 + n ∧ a ≤ k))) : L ++ runE n a L k = L ++ runE n a L (k + 1) := by
  simp only [runE, List.range_succ, List.flatMap_append, List.flatMap_cons, List.flatMap_nil, List.append_nil, one2, if_neg h]
theorem runE_len (n : Int) (a : Nat) (L : List R4) : ∀ k, (runE n a L k).length ≤ k
  | 0 => by simp [runE]
  | k + 1 => by
    have ih := runE_len n a L k
    have h1 : (one2 n a L k).length ≤ 1 := by unfold one2; split <;> simp
    have e : runE n a L (k + 1) = runE n a L k ++ one2 n a L k := by simp [runE, List.range_succ]
    rw [e, List.length_append]; omega
theorem runE_get {n : Int} {a : Nat} {L M : List R4} {i : Nat} (h : i < L.length) : (L ++ M).getD i (0, 0, 0, 0) = L.getD i (0, 0, 0, 0) := by
  simp [List.getD_eq_getElem?_getD, List.getElem?_append_left h]
theorem runE_a {n : Int} {A B : List R4} : ∀ k, k ≤ A.length → runE n A.length (A ++ B) k = frL 1 (A.take k)
  | 0, _ => rfl
  | k + 1, h => by
    have ih := runE_a (n := n) (A := A) (B := B) k (by omega)
    have e : runE n A.length (A ++ B) (k + 1) = runE n A.length (A ++ B) k ++ one2 n A.length (A ++ B) k := by simp [runE, List.range_succ]
    have g := runE_get (n := n) (a := 0) (M := B) (show k < A.length by omega)
    rw [e, ih, take_succ (show k < A.length by omega) ((0, 0, 0, 0) : R4)]
    simp only [frL, List.flatMap_append, List.flatMap_cons, List.flatMap_nil, List.append_nil]
    congr 1
    unfold one2 fr1
    rw [g]
    by_cases h1 : (A.getD k (0, 0, 0, 0)).1 = 1
    · rw [if_pos (.inl ⟨h1, by omega⟩), if_pos h1]
    · rw [if_neg (by omega), if_neg h1]
theorem runE_b {n : Int} {A B : List R4} : ∀ k, k ≤ B.length → runE n A.length (A ++ B) (A.length + k) = frL 1 A ++ frL (1 + n) (B.take k)
  | 0, _ => by
    have := runE_a (n := n) (A := A) (B := B) A.length (Nat.le_refl _)
    rw [List.take_length] at this
    rw [Nat.add_zero, this]; simp [frL]
  | k + 1, h => by
    have ih := runE_b (n := n) (A := A) (B := B) k (by omega)
    have e : runE n A.length (A ++ B) (A.length + (k + 1)) = runE n A.length (A ++ B) (A.length + k) ++ one2 n A.length (A ++ B) (A.length + k) := by
      rw [← Nat.add_assoc]; simp [runE, List.range_succ]
    have g : (A ++ B).getD (A.length + k) (0, 0, 0, 0) = B.getD k (0, 0, 0, 0) := by
      simp only [List.getD_eq_getElem?_getD]
      rw [List.getElem?_append_right (by omega)]
      congr 2; omega
    rw [e, ih, take_succ (show k < B.length by omega) ((0, 0, 0, 0) : R4)]
    simp only [frL, List.flatMap_append, List.flatMap_cons, List.flatMap_nil, List.append_nil, List.append_assoc]
    congr 2
    unfold one2 fr1
    rw [g]
    by_cases h1 : (B.getD k (0, 0, 0, 0)).1 = 1 + n
    · rw [if_pos (.inr ⟨h1, by omega⟩), if_pos h1]
    · rw [if_neg (by omega), if_neg h1]
/-- The arcs of the machine of both. -/
def eA (n : Int) (xs ys : List R4) : List R4 := allE n xs ys ++ runE n xs.length (allE n xs ys) (xs.length + ys.length)
theorem eA_eq (n : Int) (xs ys : List R4) : [movL 1 xs, movL (1 + n) ys].flatten ++ frL 1 (movL 1 xs) ++ frL (1 + n) (movL (1 + n) ys) = eA n xs ys := by
  have h := runE_b (n := n) (A := movL 1 xs) (B := movL (1 + n) ys) (movL (1 + n) ys).length (Nat.le_refl _)
  rw [List.take_length, movL_len, movL_len] at h
  unfold eA allE
  rw [h]; simp [List.append_assoc]
def eE (xe ye : List Bool) : List Bool := [(xe.getD 0 false || ye.getD 0 false)] ++ xe ++ ye
theorem eE_eq (xe ye : List Bool) : [[(xe.getD 0 false || ye.getD 0 false)], xe, ye].flatten = eE xe ye := by simp [eE]
theorem eE_eq' (xe ye : List Bool) : [[(xe.getD (0 : Int).toNat false || ye.getD (0 : Int).toNat false)], xe, ye].flatten = eE xe ye := eE_eq xe ye
noncomputable def bothB (m l : Int) (xs : List R4) (xe : List Bool) (n l' : Int) (ys : List R4) (ye : List Bool) : Bool :=
  sidedB m l xs xe && sidedB n l' ys ye && decide (l = l') && sidedB (1 + m + n) l (eA m xs ys) (eE xe ye)
section
variable {m l : Int} {xs : List R4} {xe : List Bool} {n l' : Int} {ys : List R4} {ye : List Bool}
theorem both_n1 (h : ¬ sidedV m l xs xe) : ¬ bothB m l xs xe n l' ys ye = true := by simp [bothB, sidedB, h]
theorem both_n2 (h : ¬ sidedV n l' ys ye) : ¬ bothB m l xs xe n l' ys ye = true := by simp [bothB, sidedB, h]
theorem both_n3 (h : ¬ l = l') : ¬ bothB m l xs xe n l' ys ye = true := by simp [bothB, h]
theorem both_n4 (h : ¬ sidedV (1 + m + n) l (eA m xs ys) (eE xe ye)) : ¬ bothB m l xs xe n l' ys ye = true := by
  have : sidedB (1 + m + n) l (eA m xs ys) (eE xe ye) = false := by simpa [sidedB] using h
  simp [bothB, this]
theorem both_n6 (h : ¬ (sidedV m l xs xe ∧ sidedV n l' ys ye ∧ l = l')) : ¬ bothB m l xs xe n l' ys ye = true := fun k => by
  simp only [bothB, sidedB, Bool.and_eq_true, decide_eq_true_eq] at k
  exact h ⟨k.1.1.1, k.1.1.2, k.1.2⟩
theorem both_yes (h1 : sidedV m l xs xe) (h2 : sidedV n l' ys ye) (h3 : l = l') (h4 : sidedV (1 + m + n) l (eA m xs ys) (eE xe ye)) : bothB m l xs xe n l' ys ye = true := by
  subst h3; simp [bothB, sidedB, h1, h2, h4]
theorem both_len : (onT (bothB m l xs xe n l' ys ye) (eA m xs ys)).length ≤ 48 ∧ (onT (bothB m l xs xe n l' ys ye) (eE xe ye)).length ≤ 8 := by
  by_cases h : bothB m l xs xe n l' ys ye = true
  · rw [onT_yes h, onT_yes h]
    simp only [bothB, sidedB, Bool.and_eq_true, decide_eq_true_eq] at h
    have h1 := h.2.1; have h2 := h.2.2.2.1; have h3 := h.2.2.2.2.1
    omega
  · rw [onT_no h, onT_no h]; simp
end
end Go.WX
