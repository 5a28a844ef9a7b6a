/- Plain laws on grammars; no program. No condition. -/
import Derived.Test.YthemmoceomdccaaPlA
import Derived.Test.YthemmoceomdccaaLibL
namespace Go.WX
open Go
def okR (n l : Int) (r : R4) : Prop := (0 ≤ r.1 ∧ r.1 ≤ n - 1) ∧ (-1 ≤ r.2.2.1 ∧ r.2.2.1 ≤ n - 1) ∧ (0 ≤ r.2.2.2 ∧ r.2.2.2 ≤ 1000) ∧ (r.2.2.1 = -1 → 0 ≤ r.2.1 ∧ r.2.1 ≤ l - 1) ∧ (r.2.2.1 ≠ -1 → 0 ≤ r.2.1 ∧ r.2.1 ≤ n - 1)
def gramV (n l : Int) (rs : List R4) : Prop := (1 ≤ n ∧ n ≤ 8) ∧ (1 ≤ l ∧ l ≤ 4) ∧ (rs.length : Int) ≤ 32 ∧ ∀ i : Nat, i < rs.length → okR n l (rs.getD i (0, 0, 0, 0))
noncomputable instance (n l : Int) (rs : List R4) : Decidable (gramV n l rs) := Classical.propDecidable _

/-- n rules of numbers from k on. -/
def marksR (k : Int) (n : Nat) : List R4 := (List.range n).map fun (i : Nat) => (k + 4 * (i : Int), k + 4 * (i : Int) + 1, k + 4 * (i : Int) + 1 + 1, k + 4 * (i : Int) + 1 + 1 + 1)
@[simp] theorem marksR_len (k : Int) (n : Nat) : (marksR k n).length = n := by simp [marksR]
theorem marksR_succ (k : Int) (n : Nat) : marksR k (n + 1) = marksR k n ++ [(k + 4 * (n : Int), k + 4 * (n : Int) + 1, k + 4 * (n : Int) + 1 + 1, k + 4 * (n : Int) + 1 + 1 + 1)] := by simp [marksR, List.range_succ]
theorem marksR_get {k : Int} {n i : Nat} (h : i < n) (d : R4) : (marksR k n).getD i d = (k + 4 * (i : Int), k + 4 * (i : Int) + 1, k + 4 * (i : Int) + 1 + 1, k + 4 * (i : Int) + 1 + 1 + 1) := by simp [marksR, List.getD_eq_getElem?_getD, h]
theorem marksR_zero (xs : List R4) (k : Int) : xs = marksR k 0 ++ xs.drop 0 := by simp [marksR]
theorem marksR_done {xs : List R4} {i : Nat} {k : Int} (h : xs.length ≤ i) (h2 : i ≤ xs.length) : marksR k i ++ xs.drop i = marksR k xs.length := by
  have : i = xs.length := by omega
  subst this; simp
theorem set4 {L : List R4} {i : Nat} {a b c e : Int} (h : i < L.length) (d1 d2 d3 d4 : R4) :
    (((L.set i (setR0 a (L.getD i d1))).set i (setR1 b ((L.set i (setR0 a (L.getD i d1))).getD i d2))).set i (setR2 c (((L.set i (setR0 a (L.getD i d1))).set i (setR1 b ((L.set i (setR0 a (L.getD i d1))).getD i d2))).getD i d3))).set i
      (setR3 e ((((L.set i (setR0 a (L.getD i d1))).set i (setR1 b ((L.set i (setR0 a (L.getD i d1))).getD i d2))).set i (setR2 c (((L.set i (setR0 a (L.getD i d1))).set i (setR1 b ((L.set i (setR0 a (L.getD i d1))).getD i d2))).getD i d3))).getD i d4)) = L.set i (a, b, c, e) := by
  simp [List.getD_eq_getElem?_getD, h]
theorem marksR_put {xs : List R4} {i : Nat} {k : Int} (h : i < xs.length) : (marksR k i ++ xs.drop i).set i (k + 4 * (i : Int), k + 4 * (i : Int) + 1, k + 4 * (i : Int) + 1 + 1, k + 4 * (i : Int) + 1 + 1 + 1) = marksR k (i + 1) ++ xs.drop (i + 1) := by
  rw [drop_cons h ((0, 0, 0, 0) : R4), marksR_succ, List.set_append_right _ _ (by simp)]
  simp
theorem marksR_bad {xs : List R4} {i : Nat} {k : Int} (h : i < xs.length) (hne : ¬ xs.getD i (0, 0, 0, 0) = (k + 4 * (i : Int), k + 4 * (i : Int) + 1, k + 4 * (i : Int) + 1 + 1, k + 4 * (i : Int) + 1 + 1 + 1)) : ¬ xs = marksR k xs.length := fun e => hne (by
  have h1 : xs.getD i (0, 0, 0, 0) = (marksR k xs.length).getD i (0, 0, 0, 0) := by rw [← e]
  rw [h1, marksR_get h])
theorem marksR_step {xs : List R4} {i : Nat} {k : Int} (h : i < xs.length) (he : xs.take i = marksR k i) (h0 : (xs.getD i (0, 0, 0, 0)).1 = k + 4 * (i : Int)) (h1 : (xs.getD i (0, 0, 0, 0)).2.1 = k + 4 * (i : Int) + 1) (h2 : (xs.getD i (0, 0, 0, 0)).2.2.1 = k + 4 * (i : Int) + 1 + 1) (h3 : (xs.getD i (0, 0, 0, 0)).2.2.2 = k + 4 * (i : Int) + 1 + 1 + 1) : xs.take (i + 1) = marksR k (i + 1) := by
  rw [take_succ h ((0, 0, 0, 0) : R4), he, marksR_succ]
  congr 2
  exact r4_ext ⟨h0, h1, h2, h3⟩
theorem marksR_eq {xs : List R4} {i : Nat} {k : Int} (h : xs.length ≤ i) (h2 : i ≤ xs.length) (he : xs.take i = marksR k i) : xs = marksR k xs.length := by
  have : i = xs.length := by omega
  subst this; simpa using he

/-- A rule turned around. -/
def backR (r : R4) : R4 := if 0 ≤ r.2.2.1 then (r.1, r.2.2.1, r.2.1, r.2.2.2) else r
theorem backR_put {xs : List R4} {k : Nat} {r : R4} (h : k < xs.length) (hr : r = backR (xs.getD k (0, 0, 0, 0))) : (xs.take k).map backR ++ [r] = (xs.take (k + 1)).map backR := by
  rw [take_succ h ((0, 0, 0, 0) : R4), hr]; simp
theorem backR_all {xs : List R4} {k : Nat} (h : xs.length ≤ k) : (xs.take k).map backR = xs.map backR := by rw [List.take_of_length_le h]
theorem backR_yes {r : R4} (h : 0 ≤ r.2.2.1) : (r.1, r.2.2.1, r.2.1, r.2.2.2) = backR r := by simp [backR, h]
theorem backR_no {r : R4} (h : ¬ 0 ≤ r.2.2.1) : (r.1, r.2.1, r.2.2.1, r.2.2.2) = backR r := by simp [backR, h]
noncomputable def gramB (n l : Int) (rs : List R4) : Bool := decide (gramV n l rs)
end Go.WX
namespace Go.WX
theorem gramB_yes {n l : Int} {rs : List R4} (h : gramV n l rs) : gramB n l rs = true := decide_eq_true h
theorem gramB_no {n l : Int} {rs : List R4} (h : ¬ gramV n l rs) : ¬ gramB n l rs = true := by unfold gramB; simpa using h
end Go.WX
namespace Go.WX
/-! ### The grammar of a plain machine -/
def plainB (s l : Int) (nx : List Int) (en : List Bool) : Bool := decide ((1 ≤ s ∧ s ≤ 64) ∧ (1 ≤ l ∧ l ≤ 4) ∧ (nx.length : Int) = s * l ∧ (en.length : Int) = s ∧ allIn nx 0 (s - 1) = true)
theorem sl256 {s l : Int} (h : 1 ≤ s ∧ s ≤ 64) (h2 : 1 ≤ l ∧ l ≤ 4) : 0 ≤ s * l ∧ s * l ≤ 256 :=
  ⟨Int.mul_nonneg (by omega) (by omega), by have := Int.mul_le_mul h.2 h2.2 (by omega) (by omega : (0 : Int) ≤ 64); simpa using this⟩
theorem plain_idx {s l i k n : Int} (hl : 1 ≤ l ∧ l ≤ 4) (hs : 1 ≤ s ∧ s ≤ 64) (hi : 0 ≤ i ∧ i < s) (hk : 0 ≤ k ∧ k < l) (hn : n = s * l) : 0 ≤ i * l ∧ i * l ≤ 256 ∧ 0 ≤ i * l + k ∧ i * l + k < n := by
  subst hn
  obtain rfl | rfl | rfl | rfl : l = 1 ∨ l = 2 ∨ l = 3 ∨ l = 4 := by omega
  all_goals omega
def cellG (s l : Int) (nx : List Int) (en : List Bool) (i k : Nat) : List R4 :=
  let to := nx.getD ((i : Int) * l + (k : Int)).toNat 0
  [((i : Int), s + (k : Int), to, 0)] ++ if en.getD to.toNat false = true then [((i : Int), (k : Int), -1, 0)] else []
def rowG (s l : Int) (nx : List Int) (en : List Bool) (i k : Nat) : List R4 := (List.range k).flatMap (cellG s l nx en i)
def bodyG (s l : Int) (nx : List Int) (en : List Bool) (i : Nat) : List R4 := (List.range i).flatMap fun j => rowG s l nx en j l.toNat
def tailG (s : Int) (k : Nat) : List R4 := (List.range k).map fun (j : Nat) => (s + (j : Int), (j : Int), -1, 0)
theorem rowG_zero (A : List R4) (s l : Int) (nx : List Int) (en : List Bool) (i : Nat) : A = A ++ rowG s l nx en i 0 := by simp [rowG]
theorem rowG_one {A : List R4} {s l : Int} {nx : List Int} {en : List Bool} {i k : Nat} (h : ¬ en.getD (nx.getD ((i : Int) * l + (k : Int)).toNat 0).toNat false = true) :
    A ++ rowG s l nx en i k ++ [((i : Int), s + (k : Int), nx.getD ((i : Int) * l + (k : Int)).toNat 0, (0 : Int))] = A ++ rowG s l nx en i (k + 1) := by
  simp only [rowG, List.range_succ, List.flatMap_append, List.flatMap_cons, List.flatMap_nil, cellG, if_neg h]; simp
theorem rowG_two {A : List R4} {s l : Int} {nx : List Int} {en : List Bool} {i k : Nat} (h : en.getD (nx.getD ((i : Int) * l + (k : Int)).toNat 0).toNat false = true) :
    A ++ rowG s l nx en i k ++ [((i : Int), s + (k : Int), nx.getD ((i : Int) * l + (k : Int)).toNat 0, (0 : Int))] ++ [((i : Int), (k : Int), (-1 : Int), (0 : Int))] = A ++ rowG s l nx en i (k + 1) := by
  simp only [rowG, List.range_succ, List.flatMap_append, List.flatMap_cons, List.flatMap_nil, cellG, if_pos h]; simp
theorem bodyG_succ {s l : Int} {nx : List Int} {en : List Bool} {i k : Nat} (h : k = l.toNat) : bodyG s l nx en i ++ rowG s l nx en i k = bodyG s l nx en (i + 1) := by subst h; simp [bodyG, List.range_succ]
theorem rowG_len {s l : Int} {nx : List Int} {en : List Bool} {i : Nat} : ∀ k, (rowG s l nx en i k).length ≤ 2 * k
  | 0 => by simp [rowG]
  | k + 1 => by
    have := rowG_len (s := s) (l := l) (nx := nx) (en := en) (i := i) k
    have e : rowG s l nx en i (k + 1) = rowG s l nx en i k ++ cellG s l nx en i k := by simp [rowG, List.range_succ]
    have h2 : (cellG s l nx en i k).length ≤ 2 := by simp only [cellG]; split <;> simp
    rw [e, List.length_append]; omega
theorem bodyG_len {s l : Int} {nx : List Int} {en : List Bool} (hl : l.toNat ≤ 4) : ∀ i, (bodyG s l nx en i).length ≤ 8 * i
  | 0 => by simp [bodyG]
  | i + 1 => by
    have h1 := bodyG_len (s := s) (nx := nx) (en := en) hl i
    have h2 := rowG_len (s := s) (l := l) (nx := nx) (en := en) (i := i) l.toNat
    rw [← bodyG_succ rfl, List.length_append]; omega
theorem tailG_zero (A : List R4) (s : Int) : A = A ++ tailG s 0 := by simp [tailG]
theorem tailG_put (A : List R4) (s : Int) (k : Nat) : A ++ tailG s k ++ [(s + (k : Int), (k : Int), (-1 : Int), (0 : Int))] = A ++ tailG s (k + 1) := by simp [tailG, List.range_succ]
theorem tailG_len (s : Int) (k : Nat) : (tailG s k).length = k := by simp [tailG]
def allG (s l : Int) (nx : List Int) (en : List Bool) : List R4 := bodyG s l nx en s.toNat ++ tailG s l.toNat
noncomputable def okG (s l : Int) (nx : List Int) (en : List Bool) : Bool := plainB s l nx en && decide (s + l ≤ 8) && gramB (s + l) l (allG s l nx en)
theorem okG_no1 {s l : Int} {nx : List Int} {en : List Bool} (h : ¬ ((1 ≤ s ∧ s ≤ 64) ∧ (1 ≤ l ∧ l ≤ 4) ∧ (nx.length : Int) = s * l ∧ (en.length : Int) = s ∧ allIn nx 0 (s - 1) = true)) : ¬ okG s l nx en = true := by
  simp [okG, plainB, h]
theorem okG_no2 {s l : Int} {nx : List Int} {en : List Bool} (h : ¬ s + l ≤ 8) : ¬ okG s l nx en = true := by simp [okG, h]
theorem okG_no3 {s l : Int} {nx : List Int} {en : List Bool} (h : ¬ gramV (s + l) l (allG s l nx en)) : ¬ okG s l nx en = true := by
  have : gramB (s + l) l (allG s l nx en) = false := by simpa [gramB] using h
  simp [okG, this]
theorem okG_yes {s l : Int} {nx : List Int} {en : List Bool} (h1 : (1 ≤ s ∧ s ≤ 64) ∧ (1 ≤ l ∧ l ≤ 4) ∧ (nx.length : Int) = s * l ∧ (en.length : Int) = s ∧ allIn nx 0 (s - 1) = true) (h2 : s + l ≤ 8) (h : gramV (s + l) l (allG s l nx en)) : okG s l nx en = true := by
  have : gramB (s + l) l (allG s l nx en) = true := gramB_yes h
  simp [okG, plainB, h1, h2, this]
theorem allG_len {s l : Int} {nx : List Int} {en : List Bool} (h1 : 1 ≤ s ∧ s ≤ 64) (h2 : 1 ≤ l ∧ l ≤ 4) : (allG s l nx en).length ≤ 600 := by
  have := bodyG_len (s := s) (l := l) (nx := nx) (en := en) (by omega) s.toNat
  rw [allG, List.length_append, tailG_len]; omega
end Go.WX
namespace Go.WX
theorem rowG_none {A : List R4} {s l : Int} {nx : List Int} {en : List Bool} {i k : Nat} (h : en.getD (nx.getD ((i : Int) * l + (k : Int)).toNat 0).toNat false = false) :
    A ++ rowG s l nx en i k ++ [((i : Int), s + (k : Int), nx.getD ((i : Int) * l + (k : Int)).toNat 0, (0 : Int))] = A ++ rowG s l nx en i (k + 1) := rowG_one (by rw [h]; decide)
end Go.WX
namespace Go.WX
theorem okG_len (s l : Int) (nx : List Int) (en : List Bool) : (onT (okG s l nx en) (allG s l nx en)).length ≤ 600 := by
  by_cases h : okG s l nx en = true
  · rw [onT_yes h]
    simp only [okG, plainB, Bool.and_eq_true, decide_eq_true_eq] at h
    exact allG_len h.1.1.1 h.1.1.2.1
  · rw [onT_no h]; simp
end Go.WX
