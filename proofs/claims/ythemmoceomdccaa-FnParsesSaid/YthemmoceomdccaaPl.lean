/- Plain laws on lists and numbers; no program. No condition. -/
import Derived.Test.YthemmoceomdccaaLibF
namespace Go.WX
open Go

theorem take_eq_succ {α : Type} {xs ys : List α} {k : Nat} {d : α} (h1 : k < xs.length) (h2 : k < ys.length) (he : xs.take k = ys.take k) (hd : xs.getD k d = ys.getD k d) : xs.take (k + 1) = ys.take (k + 1) := by
  rw [take_succ h1 d, take_succ h2 d, he, hd]
theorem eq_of_takes {α : Type} {xs ys : List α} {k : Nat} (h1 : xs.length ≤ k) (h2 : ys.length ≤ k) (he : xs.take k = ys.take k) : xs = ys := by
  rwa [List.take_of_length_le h1, List.take_of_length_le h2] at he
theorem set_fill {α : Type} {xs : List α} {k : Nat} (h : k < xs.length) (d e : α) : (xs.take k ++ List.replicate (xs.length - k) d).set k (xs.getD k e) = xs.take (k + 1) ++ List.replicate (xs.length - (k + 1)) d := by
  have h1 : xs.length - k = (xs.length - (k + 1)) + 1 := by omega
  rw [h1, List.replicate_succ, List.set_append_right _ _ (by simp; omega), take_succ h e]
  have : k - (List.take k xs).length = 0 := by simp; omega
  rw [this]; simp
theorem fill_done {α : Type} {xs : List α} {k : Nat} (h : xs.length ≤ k) (d : α) : xs.take k ++ List.replicate (xs.length - k) d = xs := by
  rw [List.take_of_length_le h]; simp; omega

/-! ### Trees as lists -/
/-- How many numbers n trees take up at a list's head. -/
def sk (L : Int) : List Int → Nat → Option Nat
  | _, 0 => some 0
  | [], _ + 1 => none
  | x :: xs, n + 1 => if x = -1 then (sk L xs (n + 2)).map (· + 1) else if 0 ≤ x ∧ x ≤ L - 1 then (sk L xs n).map (· + 1) else none

theorem sk_zero (L : Int) (xs : List Int) : sk L xs 0 = some 0 := by cases xs <;> rfl
theorem sk_le {L : Int} : ∀ {xs : List Int} {n c : Nat}, sk L xs n = some c → c ≤ xs.length
  | [], 0, c, h => by simp [sk] at h; omega
  | [], n + 1, c, h => by simp [sk] at h
  | x :: xs, 0, c, h => by simp [sk] at h; omega
  | x :: xs, n + 1, c, h => by
    simp only [sk] at h
    split at h
    · cases h1 : sk L xs (n + 2) with
      | none => simp [h1] at h
      | some d => simp [h1] at h; have := sk_le h1; simp; omega
    · split at h
      · cases h1 : sk L xs n with
        | none => simp [h1] at h
        | some d => simp [h1] at h; have := sk_le h1; simp; omega
      · cases h
theorem sk_pos {L : Int} {xs : List Int} {n c : Nat} (h : sk L xs (n + 1) = some c) : 0 < c := by
  cases xs with
  | nil => simp [sk] at h
  | cons x xs =>
    simp only [sk] at h
    split at h
    · cases h1 : sk L xs (n + 2) <;> simp [h1] at h; omega
    · split at h
      · cases h1 : sk L xs n <;> simp [h1] at h; omega
      · cases h
theorem sk_add {L : Int} : ∀ (xs : List Int) (n m : Nat), sk L xs (n + m) = (sk L xs n).bind fun c => (sk L (xs.drop c) m).map (· + c)
  | [], 0, m => by simp [sk_zero]
  | [], n + 1, m => by
    have : n + 1 + m = (n + m) + 1 := by omega
    simp [this, sk]
  | x :: xs, 0, m => by simp [sk_zero]
  | x :: xs, n + 1, m => by
    have e : n + 1 + m = (n + m) + 1 := by omega
    rw [e]
    simp only [sk]
    split
    · have : n + m + 2 = (n + 2) + m := by omega
      rw [this, sk_add xs (n + 2) m]
      cases sk L xs (n + 2) with
      | none => rfl
      | some c => simp [Option.map_map, Function.comp_def]; cases sk L (xs.drop c) m <;> simp; omega
    · split
      · rw [sk_add xs n m]
        cases sk L xs n with
        | none => rfl
        | some c => simp [Option.map_map, Function.comp_def]; cases sk L (xs.drop c) m <;> simp; omega
      · rfl

/-- Where the tree ends that begins at an index. -/
def endI (L : Int) (xs : List Int) (k : Int) : Int := if k < 0 then -1 else match sk L (xs.drop k.toNat) 1 with
  | some c => k + c
  | none => -1
theorem endI_out {L : Int} {xs : List Int} {k : Int} (h : k < 0 ∨ (xs.length : Int) ≤ k) : endI L xs k = -1 := by
  unfold endI
  split
  · rfl
  · rw [List.drop_eq_nil_of_le (by omega)]; rfl
theorem endI_rng (L : Int) (xs : List Int) (k : Int) : endI L xs k = -1 ∨ (k < endI L xs k ∧ endI L xs k ≤ xs.length) := by
  unfold endI
  split
  · exact .inl rfl
  · cases h : sk L (xs.drop k.toNat) 1 with
    | none => exact .inl rfl
    | some c =>
      have h1 := sk_le h; have h2 := sk_pos h
      simp at h1
      exact .inr ⟨by simp; omega, by simp; omega⟩
theorem endI_leaf {L : Int} {xs : List Int} {k : Nat} (h : k < xs.length) (h1 : xs.getD k 0 ≠ -1) (h2 : 0 ≤ xs.getD k 0 ∧ xs.getD k 0 ≤ L - 1) : endI L xs k = k + 1 := by
  unfold endI
  rw [if_neg (by omega), Int.toNat_natCast, drop_cons h 0]
  simp only [sk, h1, if_false, if_pos h2, sk_zero, Option.map_some]; omega
theorem endI_bad {L : Int} {xs : List Int} {k : Nat} (h : k < xs.length) (h1 : xs.getD k 0 ≠ -1) (h2 : ¬ (0 ≤ xs.getD k 0 ∧ xs.getD k 0 ≤ L - 1)) : endI L xs k = -1 := by
  unfold endI
  rw [if_neg (by omega), Int.toNat_natCast, drop_cons h 0]
  simp only [sk, h1, if_false, h2]
theorem endI_node {L : Int} {xs : List Int} {k : Nat} (h : k < xs.length) (h1 : xs.getD k 0 = -1) : endI L xs k = endI L xs (endI L xs (k + 1)) := by
  have e1 : endI L xs k = match sk L (xs.drop (k + 1)) 2 with | some c => (k : Int) + 1 + c | none => -1 := by
    unfold endI
    rw [if_neg (by omega), Int.toNat_natCast, drop_cons h 0]
    simp only [sk, h1, if_true]
    cases sk L (xs.drop (k + 1)) (0 + 2) <;> simp; omega
  rw [e1, show (2 : Nat) = 1 + 1 from rfl, sk_add]
  have e2 : endI L xs ((k : Int) + 1) = match sk L (xs.drop (k + 1)) 1 with | some c => (k : Int) + 1 + c | none => -1 := by
    unfold endI
    rw [if_neg (by omega)]
    have : ((k : Int) + 1).toNat = k + 1 := by omega
    rw [this]
  rw [e2]
  cases h2 : sk L (xs.drop (k + 1)) 1 with
  | none => simp [endI]
  | some c =>
    simp only [Option.bind_some, List.drop_drop]
    unfold endI
    rw [if_neg (by omega)]
    have : ((k : Int) + 1 + c).toNat = k + 1 + c := by omega
    rw [this]
    cases sk L (xs.drop (k + 1 + c)) 1 with
    | none => rfl
    | some d => show (k : Int) + 1 + ((d + c : Nat) : Int) = (k : Int) + 1 + c + d; omega
theorem sk_node {L : Int} {xs : List Int} {k c : Nat} (h : k < xs.length) (h1 : xs.getD k 0 = -1) (hc : 0 < c) : sk L (xs.drop k) c = (sk L (xs.drop (k + 1)) (c + 1)).map (· + 1) := by
  obtain ⟨c, rfl⟩ : ∃ d, c = d + 1 := ⟨c - 1, by omega⟩
  rw [drop_cons h 0]; simp only [sk, h1, if_true]
theorem sk_leaf {L : Int} {xs : List Int} {k c : Nat} (h : k < xs.length) (h1 : 0 ≤ xs.getD k 0) (h2 : xs.getD k 0 ≤ L - 1) : sk L (xs.drop k) (c + 1) = (sk L (xs.drop (k + 1)) c).map (· + 1) := by
  rw [drop_cons h 0]; simp only [sk]
  rw [if_neg (by omega), if_pos ⟨h1, h2⟩]
theorem sk_bad {L : Int} {xs : List Int} {k c : Nat} (h : k < xs.length) (h1 : ¬ (-1 ≤ xs.getD k 0 ∧ xs.getD k 0 ≤ L - 1)) (hL : 1 ≤ L) : sk L (xs.drop k) (c + 1) = none := by
  rw [drop_cons h 0]; simp only [sk]
  rw [if_neg (by omega), if_neg (by omega)]
/-- The trees that are still to come, behind k numbers. -/
def Sk (L : Int) (xs : List Int) (k : Nat) (c : Int) : Prop := 0 ≤ c ∧ c ≤ k + 1 ∧ sk L xs 1 = (sk L (xs.drop k) c.toNat).map (· + k)
theorem Sk.zero (L : Int) (xs : List Int) : Sk L xs 0 1 := ⟨by omega, by omega, by simp⟩
theorem Sk.node {L : Int} {xs : List Int} {k : Nat} {c : Int} (hs : Sk L xs k c) (h : k < xs.length) (h1 : xs.getD k 0 < 0) (h0 : -1 ≤ xs.getD k 0) (hc : 0 < c) : Sk L xs (k + 1) (c + 1) := by
  refine ⟨by omega, by have := hs.2.1; omega, ?_⟩
  rw [hs.2.2, sk_node h (by omega) (by omega)]
  have : (c + 1).toNat = c.toNat + 1 := by omega
  rw [this]
  cases sk L (xs.drop (k + 1)) (c.toNat + 1) <;> simp; omega
theorem Sk.leaf {L : Int} {xs : List Int} {k : Nat} {c : Int} (hs : Sk L xs k c) (h : k < xs.length) (h1 : 0 ≤ xs.getD k 0) (h2 : xs.getD k 0 ≤ L - 1) (hc : 0 < c) : Sk L xs (k + 1) (c - 1) := by
  refine ⟨by omega, by have := hs.2.1; omega, ?_⟩
  have : c.toNat = (c - 1).toNat + 1 := by omega
  rw [hs.2.2, this, sk_leaf h h1 h2]
  cases sk L (xs.drop (k + 1)) (c - 1).toNat <;> simp; omega
theorem endI_zero (L : Int) (xs : List Int) : endI L xs 0 = match sk L xs 1 with | some c => (c : Int) | none => -1 := by
  unfold endI; simp
theorem Sk.done {L : Int} {xs : List Int} {k : Nat} {c : Int} (hs : Sk L xs k c) (hc : c ≤ 0) : endI L xs 0 = k := by
  have : c.toNat = 0 := by omega
  rw [endI_zero, hs.2.2, this, sk_zero]; simp
theorem Sk.out {L : Int} {xs : List Int} {k : Nat} {c : Int} (hs : Sk L xs k c) (hc : 0 < c) (hk : xs.length ≤ k) : endI L xs 0 = -1 := by
  obtain ⟨d, hd⟩ : ∃ d, c.toNat = d + 1 := ⟨c.toNat - 1, by omega⟩
  rw [endI_zero, hs.2.2, hd, List.drop_eq_nil_of_le hk]; simp [sk]
theorem Sk.bad {L : Int} {xs : List Int} {k : Nat} {c : Int} (hs : Sk L xs k c) (hc : 0 < c) (h : k < xs.length) (h1 : ¬ (-1 ≤ xs.getD k 0 ∧ xs.getD k 0 ≤ L - 1)) (hL : 1 ≤ L) : endI L xs 0 = -1 := by
  obtain ⟨d, hd⟩ : ∃ d, c.toNat = d + 1 := ⟨c.toNat - 1, by omega⟩
  rw [endI_zero, hs.2.2, hd, sk_bad h h1 hL]; rfl
def eotI (L : Int) (xs : List Int) : Int := if endI L xs 0 = -1 then 0 else endI L xs 0
theorem eot_no {L : Int} {xs : List Int} (h : endI L xs 0 = -1) : Value.tuple #[.int .i64 0, .bool false] = .tuple #[.int .i64 (eotI L xs), .bool (decide (endI L xs 0 ≠ -1))] := by simp [eotI, h]
theorem eot_yes {L : Int} {xs : List Int} {k : Nat} (h : endI L xs 0 = k) : Value.tuple #[.int .i64 k, .bool true] = .tuple #[.int .i64 (eotI L xs), .bool (decide (endI L xs 0 ≠ -1))] := by
  have : endI L xs 0 ≠ -1 := by omega
  simp [eotI, h]
def treeB (L : Int) (xs : List Int) : Bool := decide (xs.length ≤ 23 ∧ endI L xs 0 = xs.length)
def isTreeB (L : Int) (xs : List Int) : Bool := decide (1 ≤ L ∧ L ≤ 4) && treeB L xs
end Go.WX
