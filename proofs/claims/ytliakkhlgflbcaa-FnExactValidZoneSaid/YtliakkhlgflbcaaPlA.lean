/- Plain laws on words, loops, and zones; no program. No condition. -/
import Derived.Test.YtliakkhlgflbcaaPl
namespace Go.WX
open Go

/-- All numbers of a list lie between. -/
def allIn (xs : List Int) (lo hi : Int) : Bool := xs.all fun x => decide (lo ≤ x ∧ x ≤ hi)
theorem allIn_zero (xs : List Int) (lo hi : Int) : allIn (xs.take 0) lo hi = true := by simp [allIn]
theorem allIn_step {xs : List Int} {lo hi : Int} {k : Nat} (h : k < xs.length) (h1 : allIn (xs.take k) lo hi = true) (h2 : lo ≤ xs.getD k 0 ∧ xs.getD k 0 ≤ hi) : allIn (xs.take (k + 1)) lo hi = true := by
  unfold allIn at *
  rw [all_take_succ _ h 0, h1]; simp only [Bool.true_and, decide_eq_true_eq]; exact h2
theorem allIn_all {xs : List Int} {lo hi : Int} {k : Nat} (h : xs.length ≤ k) (h1 : allIn (xs.take k) lo hi = true) : allIn xs lo hi = true := by
  rwa [List.take_of_length_le h] at h1
theorem allIn_bad {xs : List Int} {lo hi : Int} {k : Nat} (h : k < xs.length) (h2 : ¬ (lo ≤ xs.getD k 0 ∧ xs.getD k 0 ≤ hi)) : allIn xs lo hi = false := by
  exact all_of_take (p := fun x => decide (lo ≤ x ∧ x ≤ hi)) h 0 (by simpa using h2)

def wordB (xs : List Int) (L : Int) : Bool := decide ((xs.length : Int) ≤ 12) && allIn xs 0 (L - 1)
def loopB (xs ys : List Int) (L : Int) : Bool := decide (1 ≤ L ∧ L ≤ 4) && wordB xs L && wordB ys L && decide (1 ≤ (ys.length : Int))
def isWordB (xs : List Int) (L : Int) : Bool := decide (1 ≤ L ∧ L ≤ 4) && wordB xs L
theorem loopB_alt (xs ys : List Int) (L : Int) : loopB xs ys L = (isWordB xs L && isWordB ys L && decide (1 ≤ (ys.length : Int))) := by
  simp only [loopB, isWordB]
  cases decide (1 ≤ L ∧ L ≤ 4) <;> simp
theorem loopB_spec {xs ys : List Int} {L : Int} (h : loopB xs ys L = true) : (1 ≤ L ∧ L ≤ 4) ∧ (xs.length : Int) ≤ 12 ∧ (ys.length : Int) ≤ 12 ∧ 1 ≤ (ys.length : Int) := by
  simp only [loopB, wordB, Bool.and_eq_true, decide_eq_true_eq] at h; omega
/-- The letter of a loop at a place. -/
def letterI (xs ys : List Int) (at_ : Int) : Int := if at_ < xs.length then xs.getD at_.toNat 0 else ys.getD (((at_ - xs.length).tmod ys.length).toNat) 0
theorem tmod_in {p q : Int} (h : 0 ≤ p) (hq : 0 < q) : 0 ≤ p.tmod q ∧ p.tmod q < q := ⟨Int.tmod_nonneg q h, Int.tmod_lt_of_pos p hq⟩

/-- A zone's bound at a place is one that a zone may have. -/
def okc (c : Int) (xs : List Int) (i k : Int) : Prop :=
  ((-1000000 ≤ xs.getD (i * (c + 1) + k).toNat 0 ∧ xs.getD (i * (c + 1) + k).toNat 0 ≤ 1000000) ∨ xs.getD (i * (c + 1) + k).toNat 0 = 1000000000) ∧ (i = k → xs.getD (i * (c + 1) + k).toNat 0 = 0) ∧ (i = 0 → xs.getD (i * (c + 1) + k).toNat 0 ≤ 0)
def zoneV (c : Int) (xs : List Int) : Prop := (1 ≤ c ∧ c ≤ 4) ∧ (xs.length : Int) = (c + 1) * (c + 1) ∧ ∀ i k : Int, 0 ≤ i → i < c + 1 → 0 ≤ k → k < c + 1 → okc c xs i k
noncomputable instance (c : Int) (xs : List Int) : Decidable (zoneV c xs) := Classical.propDecidable _
theorem idx_lt {c i k n : Int} (hc : 1 ≤ c ∧ c ≤ 4) (hi : 0 ≤ i ∧ i < c + 1) (hk : 0 ≤ k ∧ k < c + 1) (hn : n = (c + 1) * (c + 1)) : 0 ≤ i * (c + 1) ∧ i * (c + 1) ≤ 20 ∧ i * (c + 1) + k < n ∧ n ≤ 25 := by
  subst hn
  obtain rfl | rfl | rfl | rfl : c = 1 ∨ c = 2 ∨ c = 3 ∨ c = 4 := by omega
  all_goals omega
theorem sq_le {c : Int} (hc : 1 ≤ c ∧ c ≤ 4) : 0 ≤ (c + 1) * (c + 1) ∧ (c + 1) * (c + 1) ≤ 25 := by
  obtain rfl | rfl | rfl | rfl : c = 1 ∨ c = 2 ∨ c = 3 ∨ c = 4 := by omega
  all_goals omega
end Go.WX
