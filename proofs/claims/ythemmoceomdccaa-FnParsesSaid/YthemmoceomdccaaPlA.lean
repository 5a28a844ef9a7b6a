/- Plain laws on words, loops, and zones; no program. No condition. -/
import Derived.Test.YthemmoceomdccaaPl
namespace Go.WX
open Go

/-- All numbers of a list lie between. -/
def allIn (xs : List Int) (lo hi : Int) : Bool := xs.all fun x => decide (lo ≤ x ∧ x ≤ hi)
theorem allIn_zero (xs : List Int) (lo hi : Int) : allIn (xs.take 0) lo hi = true := by simp [allIn]
theorem allIn_step {xs : List Int} {lo hi : Int} {k : Nat} (h : k < xs.length) (h1 : allIn (xs.take k) lo hi = true) (h2 : lo ≤ xs.getD k 0 ∧ xs.getD k 0 ≤ hi) : allIn (xs.take (k + 1)) lo hi = true := by
  unfold allIn at *
  rw [all_take_succ _ h 0, h1]; simp only [Bool.true_and, decide_eq_true_eq]; exact h2
theorem allIn_all {xs : List Int} {lo hi : Int} {k : Nat} (h : xs.length ≤ k) (h1 : allIn (xs.take k) lo hi = true) : allIn xs lo hi = true := by
  rwa [List.take_of_length_le h] at h1
theorem allIn_bad {xs : List Int} {lo hi : Int} {k : Nat} (h : k < xs.length) (h2 : ¬ (lo ≤ xs.getD k 0 ∧ xs.getD k 0 ≤ hi)) : allIn xs lo hi = false := by
  exact all_of_take (p := fun x => decide (lo ≤ x ∧ x ≤ hi)) h 0 (by simpa using h2)

def wordB (xs : List Int) (L : Int) : Bool := decide ((xs.length : Int) ≤ 12) && allIn xs 0 (L - 1)
def loopB (xs ys : List Int) (L : Int) : Bool := decide (1 ≤ L ∧ L ≤ 4) && wordB xs L && wordB ys L && decide (1 ≤ (ys.length : Int))
def isWordB (xs : List Int) (L : Int) : Bool := decide (1 ≤ L ∧ L ≤ 4) && wordB xs L
theorem loopB_alt (xs ys : List Int) (L : Int) : loopB xs ys L = (isWordB xs L && isWordB ys L && decide (1 ≤ (ys.length : Int))) := by
  simp only [loopB, isWordB]
  cases decide (1 ≤ L ∧ L ≤ 4) <;> simp
theorem loopB_spec {xs ys : List Int} {L : Int} (h : loopB xs ys L = true) : (1 ≤ L ∧ L ≤ 4) ∧ (xs.length : Int) ≤ 12 ∧ (ys.length : Int) ≤ 12 ∧ 1 ≤ (ys.length : Int) := by
  simp only [loopB, wordB, Bool.and_eq_true, decide_eq_true_eq] at h; omega
/-- The letter of a loop at a place. -/
def letterI (xs ys : List Int) (at_ : Int) : Int := if at_ < xs.length then xs.getD at_.toNat 0 else ys.getD (((at_ - xs.length).tmod ys.length).toNat) 0
theorem tmod_in {p q : Int} (h : 0 ≤ p) (hq : 0 < q) : 0 ≤ p.tmod q ∧ p.tmod q < q := ⟨Int.tmod_nonneg q h, Int.tmod_lt_of_pos p hq⟩

/-- n numbers from k on. -/
def marks (k : Int) (n : Nat) : List Int := (List.range n).map fun (i : Nat) => k + (i : Int)
@[simp] theorem marks_len (k : Int) (n : Nat) : (marks k n).length = n := by simp [marks]
theorem marks_succ (k : Int) (n : Nat) : marks k (n + 1) = marks k n ++ [k + (n : Int)] := by simp [marks, List.range_succ]
theorem marks_get {k : Int} {n i : Nat} (h : i < n) (d : Int) : (marks k n).getD i d = k + (i : Int) := by simp [marks, List.getD_eq_getElem?_getD, h]
theorem marks_set {xs : List Int} {i : Nat} {k : Int} (h : i < xs.length) : (marks k i ++ xs.drop i).set i (k + (i : Int)) = marks k (i + 1) ++ xs.drop (i + 1) := by
  rw [drop_cons h 0, marks_succ, List.set_append_right _ _ (by simp [marks_len])]
  simp [marks_len]
theorem marks_done {xs : List Int} {i : Nat} {k : Int} (h : xs.length ≤ i) (h2 : i ≤ xs.length) : marks k i ++ xs.drop i = marks k xs.length := by
  have : i = xs.length := by omega
  subst this; simp
theorem marks_zero (xs : List Int) (k : Int) : xs = marks k 0 ++ xs.drop 0 := by simp [marks]
theorem marks_bad {xs : List Int} {i : Nat} {k : Int} (h : i < xs.length) (hne : ¬ xs.getD i 0 = k + (i : Int)) : ¬ xs = marks k xs.length := fun e => hne (by
  have h1 : xs.getD i 0 = (marks k xs.length).getD i 0 := by rw [← e]
  rw [h1, marks_get h])
theorem marks_step {xs : List Int} {i : Nat} {k : Int} (h : i < xs.length) (he : xs.take i = marks k i) (h1 : xs.getD i 0 = k + (i : Int)) : xs.take (i + 1) = marks k (i + 1) := by
  rw [take_succ h 0, he, h1, marks_succ]
theorem marks_eq {xs : List Int} {i : Nat} {k : Int} (h : xs.length ≤ i) (h2 : i ≤ xs.length) (he : xs.take i = marks k i) : xs = marks k xs.length := by
  have : i = xs.length := by omega
  subst this; simpa using he
theorem held_ok {c : Prop} [Decidable c] {t : Int} (h : 0 ≤ (if c then t else -1)) : c ∧ (if c then t else -1) = t := by
  by_cases hc : c
  · exact ⟨hc, if_pos hc⟩
  · rw [if_neg hc] at h; omega
theorem held_no {c : Prop} [Decidable c] {t : Int} (h : (if c then t else -1) < 0) (ht : 0 ≤ t) : ¬ c := fun hc => by
  rw [if_pos hc] at h; omega
/-- The same for truth values. -/
def marksB (k : Int) (n : Nat) : List Bool := (List.range n).map fun (i : Nat) => decide ((k + (i : Int)).tmod 3 = 0)
@[simp] theorem marksB_len (k : Int) (n : Nat) : (marksB k n).length = n := by simp [marksB]
theorem marksB_succ (k : Int) (n : Nat) : marksB k (n + 1) = marksB k n ++ [decide ((k + (n : Int)).tmod 3 = 0)] := by simp [marksB, List.range_succ]
theorem marksB_get {k : Int} {n i : Nat} (h : i < n) (d : Bool) : (marksB k n).getD i d = decide ((k + (i : Int)).tmod 3 = 0) := by simp [marksB, List.getD_eq_getElem?_getD, h]
theorem marksB_set {xs : List Bool} {i : Nat} {k : Int} (h : i < xs.length) : (marksB k i ++ xs.drop i).set i (decide ((k + (i : Int)).tmod 3 = 0)) = marksB k (i + 1) ++ xs.drop (i + 1) := by
  rw [drop_cons h false, marksB_succ, List.set_append_right _ _ (by simp [marksB_len])]
  simp [marksB_len]
theorem marksB_done {xs : List Bool} {i : Nat} {k : Int} (h : xs.length ≤ i) (h2 : i ≤ xs.length) : marksB k i ++ xs.drop i = marksB k xs.length := by
  have : i = xs.length := by omega
  subst this; simp
theorem marksB_zero (xs : List Bool) (k : Int) : xs = marksB k 0 ++ xs.drop 0 := by simp [marksB]
theorem marksB_bad {xs : List Bool} {i : Nat} {k : Int} (h : i < xs.length) (hne : ¬ xs.getD i false = decide ((k + (i : Int)).tmod 3 = 0)) : ¬ xs = marksB k xs.length := fun e => hne (by
  have h1 : xs.getD i false = (marksB k xs.length).getD i false := by rw [← e]
  rw [h1, marksB_get h])
theorem marksB_step {xs : List Bool} {i : Nat} {k : Int} (h : i < xs.length) (he : xs.take i = marksB k i) (h1 : xs.getD i false = decide ((k + (i : Int)).tmod 3 = 0)) : xs.take (i + 1) = marksB k (i + 1) := by
  rw [take_succ h false, he, h1, marksB_succ]
theorem marksB_eq {xs : List Bool} {i : Nat} {k : Int} (h : xs.length ≤ i) (h2 : i ≤ xs.length) (he : xs.take i = marksB k i) : xs = marksB k xs.length := by
  have : i = xs.length := by omega
  subst this; simpa using he

/-- A zone's bound at a place is one that a zone may have. -/
def okc (c : Int) (xs : List Int) (i k : Int) : Prop :=
  ((-1000000 ≤ xs.getD (i * (c + 1) + k).toNat 0 ∧ xs.getD (i * (c + 1) + k).toNat 0 ≤ 1000000) ∨ xs.getD (i * (c + 1) + k).toNat 0 = 1000000000) ∧ (i = k → xs.getD (i * (c + 1) + k).toNat 0 = 0) ∧ (i = 0 → xs.getD (i * (c + 1) + k).toNat 0 ≤ 0)
def zoneV (c : Int) (xs : List Int) : Prop := (1 ≤ c ∧ c ≤ 4) ∧ (xs.length : Int) = (c + 1) * (c + 1) ∧ ∀ i k : Int, 0 ≤ i → i < c + 1 → 0 ≤ k → k < c + 1 → okc c xs i k
noncomputable instance (c : Int) (xs : List Int) : Decidable (zoneV c xs) := Classical.propDecidable _
theorem idx_lt {c i k n : Int} (hc : 1 ≤ c ∧ c ≤ 4) (hi : 0 ≤ i ∧ i < c + 1) (hk : 0 ≤ k ∧ k < c + 1) (hn : n = (c + 1) * (c + 1)) : 0 ≤ i * (c + 1) ∧ i * (c + 1) ≤ 20 ∧ i * (c + 1) + k < n ∧ n ≤ 25 := by
  subst hn
  obtain rfl | rfl | rfl | rfl : c = 1 ∨ c = 2 ∨ c = 3 ∨ c = 4 := by omega
  all_goals omega
theorem sq_le {c : Int} (hc : 1 ≤ c ∧ c ≤ 4) : 0 ≤ (c + 1) * (c + 1) ∧ (c + 1) * (c + 1) ≤ 25 := by
  obtain rfl | rfl | rfl | rfl : c = 1 ∨ c = 2 ∨ c = 3 ∨ c = 4 := by omega
  all_goals omega
end Go.WX
namespace Go.WX
def wz (i k : Nat) : Int := if i = 0 ∨ i = k then 0 else 1000000000
def rowP (i k : Nat) : List Int := (List.range k).map (wz i)
def wholeL (n i : Nat) : List Int := (List.range i).flatMap fun j => rowP j n
theorem rowP_len (i k : Nat) : (rowP i k).length = k := by simp [rowP]
theorem rowP_zero (A : List Int) (i : Nat) : A = A ++ rowP i 0 := by simp [rowP]
theorem rowP_put {A : List Int} {i k : Nat} {x : Int} (h : x = wz i k) : A ++ rowP i k ++ [x] = A ++ rowP i (k + 1) := by simp [rowP, List.range_succ, h]
theorem wholeL_succ {n i k : Nat} (h : k = n) : wholeL n i ++ rowP i k = wholeL n (i + 1) := by subst h; simp [wholeL, List.range_succ]
theorem wholeL_len {n : Nat} (h : n ≤ 5) : ∀ i, (wholeL n i).length ≤ 5 * i
  | 0 => by simp [wholeL]
  | i + 1 => by
    have := wholeL_len h i
    rw [← wholeL_succ rfl, List.length_append, rowP_len]; omega
def wholeZ (c : Int) : List Int := if 1 ≤ c ∧ c ≤ 4 then wholeL (c + 1).toNat (c + 1).toNat else []
theorem wholeZ_len (c : Int) : (wholeZ c).length ≤ 25 := by
  unfold wholeZ
  split
  · have := wholeL_len (n := (c + 1).toNat) (by omega) (c + 1).toNat; omega
  · simp
end Go.WX
namespace Go.WX
theorem sq16 {s : Int} (h : 1 ≤ s ∧ s ≤ 16) : 0 ≤ s * s ∧ s * s ≤ 256 :=
  ⟨Int.mul_nonneg (by omega) (by omega), by have := Int.mul_le_mul h.2 h.2 (by omega) (by omega : (0 : Int) ≤ 16); simpa using this⟩
/-- The inner nodes' marks are struck. -/
def leavesL (xs : List Int) : List Int := xs.filter fun x => decide (0 ≤ x)
theorem leavesL_zero (xs : List Int) : leavesL (xs.take 0) = [] := by simp [leavesL]
theorem leavesL_put {xs : List Int} {k : Nat} (h : k < xs.length) (h0 : 0 ≤ xs.getD k 0) : leavesL (xs.take k) ++ [xs.getD k 0] = leavesL (xs.take (k + 1)) := by
  rw [take_succ h 0]; simp only [leavesL, List.filter_append]; rw [List.filter_cons_of_pos (by simpa using h0)]; simp
theorem leavesL_not {xs : List Int} {k : Nat} (h : k < xs.length) (h0 : ¬ 0 ≤ xs.getD k 0) : leavesL (xs.take k) = leavesL (xs.take (k + 1)) := by
  rw [take_succ h 0]; simp only [leavesL, List.filter_append]; rw [List.filter_cons_of_neg (by simpa using h0)]; simp
theorem leavesL_len (xs : List Int) (k : Nat) : (leavesL (xs.take k)).length ≤ k := by
  have h1 := List.length_filter_le (fun x => decide ((0 : Int) ≤ x)) (xs.take k)
  have h2 := List.length_take_le k xs
  unfold leavesL; omega
theorem leavesL_all {xs : List Int} {k : Nat} (h : xs.length ≤ k) : leavesL (xs.take k) = leavesL xs := by rw [List.take_of_length_le h]
theorem isTreeB4 (xs : List Int) : isTreeB 4 xs = treeB 4 xs := by simp [isTreeB]
def leavesT (xs : List Int) : List Int := if treeB 4 xs = true then leavesL xs else []
theorem leavesT_len (xs : List Int) : (leavesT xs).length ≤ xs.length := by
  unfold leavesT
  split
  · exact List.length_filter_le _ _
  · simp
end Go.WX
namespace Go.WX
theorem notL_put {xs : List Bool} {k : Nat} (h : k < xs.length) : (xs.take k).map not ++ [!xs.getD k false] = (xs.take (k + 1)).map not := by
  rw [take_succ h false]; simp
theorem notL_set {xs : List Bool} {k : Nat} (h : k < xs.length) : ((xs.take k).map not ++ xs.drop k).set k (!xs.getD k false) = (xs.take (k + 1)).map not ++ xs.drop (k + 1) := by
  rw [drop_cons h false, take_succ h false, List.set_append_right _ _ (by simp; omega)]
  have : k - (List.map not (xs.take k)).length = 0 := by simp; omega
  rw [this]; simp
theorem notL_done {xs : List Bool} {k : Nat} (h : xs.length ≤ k) : (xs.take k).map not ++ xs.drop k = xs.map not := by
  rw [List.take_of_length_le h, List.drop_eq_nil_of_le h]; simp
theorem notL_all {xs : List Bool} {k : Nat} (h : xs.length ≤ k) : (xs.take k).map not = xs.map not := by rw [List.take_of_length_le h]
theorem notL_len {xs : List Bool} {k : Nat} (h : k ≤ xs.length) : ((xs.take k).map not ++ xs.drop k).length = xs.length := by simp; omega
end Go.WX
namespace Go.WX
def treesB (s l : Int) (a b : List Int) (c : List Bool) : Bool := decide ((1 ≤ s ∧ s ≤ 16) ∧ (1 ≤ l ∧ l ≤ 4) ∧ (a.length : Int) = l ∧ (b.length : Int) = s * s ∧ (c.length : Int) = s ∧ allIn a 0 (s - 1) = true ∧ allIn b 0 (s - 1) = true)
def onT {α : Type} (c : Bool) (l : List α) : List α := if c = true then l else []
def onI (c : Bool) (x : Int) : Int := if c = true then x else 0
theorem onT_len {α : Type} (c : Bool) (l : List α) : (onT c l).length ≤ l.length := by unfold onT; split <;> simp
theorem onT_yes {α : Type} {c : Bool} {l : List α} (h : c = true) : onT c l = l := if_pos h
theorem onT_no {α : Type} {c : Bool} {l : List α} (h : ¬ c = true) : onT c l = [] := if_neg h
theorem onI_yes {c : Bool} {x : Int} (h : c = true) : onI c x = x := if_pos h
theorem onI_no {c : Bool} {x : Int} (h : ¬ c = true) : onI c x = 0 := if_neg h
theorem treesB_yes {s l : Int} {a b : List Int} {c : List Bool} (h : (1 ≤ s ∧ s ≤ 16) ∧ (1 ≤ l ∧ l ≤ 4) ∧ (a.length : Int) = l ∧ (b.length : Int) = s * s ∧ (c.length : Int) = s ∧ allIn a 0 (s - 1) = true ∧ allIn b 0 (s - 1) = true) : treesB s l a b c = true := decide_eq_true h
theorem treesB_no {s l : Int} {a b : List Int} {c : List Bool} (h : ¬ ((1 ≤ s ∧ s ≤ 16) ∧ (1 ≤ l ∧ l ≤ 4) ∧ (a.length : Int) = l ∧ (b.length : Int) = s * s ∧ (c.length : Int) = s ∧ allIn a 0 (s - 1) = true ∧ allIn b 0 (s - 1) = true)) : ¬ treesB s l a b c = true := by
  unfold treesB; simpa using h
end Go.WX
namespace Go.WX
/-- Two times meet a zone's bound. -/
def hO (c : Int) (xs ts : List Int) (i k : Nat) : Prop := xs.getD ((i : Int) * (c + 1) + (k : Int)).toNat 0 ≠ 1000000000 → ([0] ++ ts).getD i 0 - ([0] ++ ts).getD k 0 ≤ xs.getD ((i : Int) * (c + 1) + (k : Int)).toNat 0
def holdsV (c : Int) (xs ts : List Int) : Prop := ∀ i k : Nat, (i : Int) < c + 1 → (k : Int) < c + 1 → hO c xs ts i k
def canH (c : Int) (xs ts : List Int) : Prop := zoneV c xs ∧ (ts.length : Int) = c ∧ allIn ts 0 1000000 = true
noncomputable instance (c : Int) (xs ts : List Int) : Decidable (holdsV c xs ts) := Classical.propDecidable _
noncomputable instance (c : Int) (xs ts : List Int) : Decidable (canH c xs ts) := Classical.propDecidable _
theorem allIn_get {xs : List Int} {lo hi : Int} {k : Nat} (h : allIn xs lo hi = true) (hk : k < xs.length) : lo ≤ xs.getD k 0 ∧ xs.getD k 0 ≤ hi := by
  rw [List.getD_eq_getElem?_getD, List.getElem?_eq_getElem hk]
  simp only [allIn, List.all_eq_true, decide_eq_true_eq] at h
  exact h _ (List.getElem_mem hk)
theorem all0_rng {ts : List Int} (h : allIn ts 0 1000000 = true) (i : Nat) : 0 ≤ ([0] ++ ts).getD i 0 ∧ ([0] ++ ts).getD i 0 ≤ 1000000 := by
  match i with
  | 0 => simp
  | i + 1 =>
    have e : ([0] ++ ts).getD (i + 1) 0 = ts.getD i 0 := by simp [List.getD_eq_getElem?_getD]
    rw [e]
    by_cases hi : i < ts.length
    · exact allIn_get h hi
    · rw [List.getD_eq_getElem?_getD, List.getElem?_eq_none (by omega)]; simp
end Go.WX
