/- Plain laws on tight zones; no program. No condition. -/
import Derived.Test.YtliakkhlgflbcaaPlA
namespace Go.WX
open Go
/-- Steps 0 to n - 1. -/
def itN {β : Type} (f : Nat → β → β) : Nat → β → β
  | 0, x => x
  | n + 1, x => f n (itN f n x)
theorem itN_len {α : Type} {f : Nat → List α → List α} (h : ∀ n x, (f n x).length = x.length) : ∀ n x, (itN f n x).length = x.length
  | 0, _ => rfl
  | n + 1, x => by show (f n (itN f n x)).length = _; rw [h, itN_len h n x]
@[reducible] def zat (c : Int) (ys : List Int) (i k : Nat) : Int := ys.getD ((i : Int) * (c + 1) + (k : Int)).toNat 0
def stepT (c : Int) (j i k : Nat) (ys : List Int) : List Int :=
  if zat c ys i j ≠ 1000000000 ∧ zat c ys j k ≠ 1000000000 ∧ IntKind.i64.wrap (zat c ys i j + zat c ys j k) < zat c ys i k then ys.set ((i : Int) * (c + 1) + (k : Int)).toNat (IntKind.i64.wrap (zat c ys i j + zat c ys j k)) else ys
theorem stepT_yes {c : Int} {j i k : Nat} {ys : List Int} (h1 : zat c ys i j ≠ 1000000000) (h2 : zat c ys j k ≠ 1000000000) (h3 : IntKind.i64.wrap (zat c ys i j + zat c ys j k) < zat c ys i k) :
    ys.set ((i : Int) * (c + 1) + (k : Int)).toNat (IntKind.i64.wrap (zat c ys i j + zat c ys j k)) = stepT c j i k ys := by
  unfold stepT; rw [if_pos ⟨h1, h2, h3⟩]
theorem stepT_no {c : Int} {j i k : Nat} {ys : List Int} (h : ¬ (zat c ys i j ≠ 1000000000 ∧ zat c ys j k ≠ 1000000000 ∧ IntKind.i64.wrap (zat c ys i j + zat c ys j k) < zat c ys i k)) : ys = stepT c j i k ys := by
  unfold stepT; rw [if_neg h]
theorem stepT_n1 {c : Int} {j i k : Nat} {ys : List Int} (h : zat c ys i j = 1000000000) : ys = stepT c j i k ys := stepT_no (fun q => q.1 h)
theorem stepT_n2 {c : Int} {j i k : Nat} {ys : List Int} (h : zat c ys j k = 1000000000) : ys = stepT c j i k ys := stepT_no (fun q => q.2.1 h)
theorem stepT_n3 {c : Int} {j i k : Nat} {ys : List Int} (h : ¬ IntKind.i64.wrap (zat c ys i j + zat c ys j k) < zat c ys i k) : ys = stepT c j i k ys := stepT_no (fun q => h q.2.2)
theorem set_getD (ys : List Int) (q : Nat) : ys.set q (ys.getD q 0) = ys := by
  by_cases h : q < ys.length
  · apply List.ext_getElem?
    intro j
    rw [List.getElem?_set]
    split
    · rename_i e; subst e; simp [h]
    · rfl
  · exact List.set_eq_of_length_le (by omega)
theorem stepT_min {c : Int} {j i k : Nat} {ys : List Int} {z : Int} (h1 : zat c ys i j ≠ 1000000000) (h2 : zat c ys j k ≠ 1000000000) (hz : z = if IntKind.i64.wrap (zat c ys i j + zat c ys j k) < zat c ys i k then IntKind.i64.wrap (zat c ys i j + zat c ys j k) else zat c ys i k) :
    ys.set ((i : Int) * (c + 1) + (k : Int)).toNat z = stepT c j i k ys := by
  subst hz; unfold stepT
  by_cases h : IntKind.i64.wrap (zat c ys i j + zat c ys j k) < zat c ys i k
  · rw [if_pos h, if_pos ⟨h1, h2, h⟩]
  · rw [if_neg h, if_neg (fun q => h q.2.2)]; exact set_getD _ _
theorem stepT_len (c : Int) (j i k : Nat) (ys : List Int) : (stepT c j i k ys).length = ys.length := by
  unfold stepT; split <;> simp
def rowT (c : Int) (j i k : Nat) (ys : List Int) : List Int := itN (stepT c j i) k ys
theorem rowT_len (c : Int) (j i k : Nat) (ys : List Int) : (rowT c j i k ys).length = ys.length := itN_len (stepT_len c j i) k ys
def passT (c : Int) (j i : Nat) (ys : List Int) : List Int := itN (fun i => rowT c j i (c + 1).toNat) i ys
theorem passT_len (c : Int) (j i : Nat) (ys : List Int) : (passT c j i ys).length = ys.length := itN_len (fun i => rowT_len c j i _) i ys
def allT (c : Int) (j : Nat) (ys : List Int) : List Int := itN (fun j => passT c j (c + 1).toNat) j ys
theorem allT_len (c : Int) (j : Nat) (ys : List Int) : (allT c j ys).length = ys.length := itN_len (fun j => passT_len c j _) j ys
theorem rowT_succ (c : Int) (j i k : Nat) (ys : List Int) : stepT c j i k (rowT c j i k ys) = rowT c j i (k + 1) ys := rfl
theorem passT_succ {c : Int} {j i k : Nat} {ys : List Int} (h : k = (c + 1).toNat) : rowT c j i k (passT c j i ys) = passT c j (i + 1) ys := by subst h; rfl
theorem allT_succ {c : Int} {j i : Nat} {ys : List Int} (h : i = (c + 1).toNat) : passT c j i (allT c j ys) = allT c (j + 1) ys := by subst h; rfl
def tightL (c : Int) (xs : List Int) : List Int := allT c (c + 1).toNat xs
theorem tightL_len (c : Int) (xs : List Int) : (tightL c xs).length = xs.length := allT_len _ _ _
noncomputable def zoneB (c : Int) (xs : List Int) : Bool := decide (zoneV c xs)
noncomputable def tightB (c : Int) (xs : List Int) : Bool := decide (zoneV c xs ∧ zoneV c (tightL c xs))
theorem tightB_n1 {c : Int} {xs : List Int} (h : ¬ zoneV c xs) : ¬ tightB c xs = true := by simp [tightB, h]
theorem tightB_n2 {c : Int} {xs : List Int} (h : ¬ zoneV c (tightL c xs)) : ¬ tightB c xs = true := by simp [tightB, h]
theorem tightB_yes {c : Int} {xs : List Int} (h1 : zoneV c xs) (h2 : zoneV c (tightL c xs)) : tightB c xs = true := by simp [tightB, h1, h2]
theorem tightB_spec {c : Int} {xs : List Int} (h : tightB c xs = true) : zoneV c xs ∧ zoneV c (tightL c xs) := by simpa [tightB] using h
theorem zoneV_len {c : Int} {xs : List Int} (h : zoneV c xs) : xs.length ≤ 25 := by have := sq_le h.1; have := h.2.1; omega
theorem onT_tight_len (c : Int) (xs : List Int) : (onT (tightB c xs) (tightL c xs)).length ≤ 25 := by
  by_cases h : tightB c xs = true
  · rw [onT_yes h]; exact zoneV_len (tightB_spec h).2
  · rw [onT_no h]; simp
/-- A zone holds wherever another one does. -/
def partV (xs ys : List Int) : Prop := ∀ i : Nat, i < xs.length → xs.getD i 0 ≤ ys.getD i 0
noncomputable instance (xs ys : List Int) : Decidable (partV xs ys) := Classical.propDecidable _

def canP (c : Int) (xs : List Int) (d : Int) (ys : List Int) : Prop := tightB c xs = true ∧ zoneV d ys ∧ c = d
noncomputable instance (c : Int) (xs : List Int) (d : Int) (ys : List Int) : Decidable (canP c xs d ys) := Classical.propDecidable _
theorem canP_len {c d : Int} {xs ys : List Int} (h1 : tightB c xs = true) (h2 : zoneV d ys) (h3 : c = d) : (onT (tightB c xs) (tightL c xs)).length = ys.length := by
  subst h3
  rw [onT_yes h1]
  have k1 := (tightB_spec h1).2.2.1; have k2 := h2.2.1
  omega
theorem partV_zero (P : Prop) (xs ys : List Int) : (true = true ↔ ∀ q : Nat, q < 0 → xs.getD q 0 ≤ ys.getD q 0) := ⟨fun _ q h => absurd h (Nat.not_lt_zero _), fun _ => rfl⟩
theorem partV_yes {xs ys : List Int} {k : Nat} {b : Bool} (h : b = true ↔ ∀ q : Nat, q < k → xs.getD q 0 ≤ ys.getD q 0) (h1 : xs.getD k 0 ≤ ys.getD k 0) : b = true ↔ ∀ q : Nat, q < k + 1 → xs.getD q 0 ≤ ys.getD q 0 :=
  ⟨fun hb q hq => by
    by_cases e : q = k
    · subst e; exact h1
    · exact h.1 hb q (by omega), fun hq => h.2 (fun q hk => hq q (by omega))⟩
theorem partV_no {xs ys : List Int} {k : Nat} (h1 : ¬ xs.getD k 0 ≤ ys.getD k 0) : false = true ↔ ∀ q : Nat, q < k + 1 → xs.getD q 0 ≤ ys.getD q 0 :=
  ⟨fun h => (by cases h), fun h => absurd (h k (by omega)) h1⟩
end Go.WX
