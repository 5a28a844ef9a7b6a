/- Plain laws on drawn numbers; no program. No condition. -/
import Derived.Test.YthemmoceomdccaaPlFc
import Derived.Test.YthemmoceomdccaaLibO
import Derived.Laws.Bits64b
namespace Go.WX
open Go
theorem wrapU_rng (z : Int) : 0 ≤ IntKind.u64.wrap z ∧ IntKind.u64.wrap z < 18446744073709551616 := by rw [IntKind.wrap_u64]; omega
theorem and255 {a : Int} (h : 0 ≤ a ∧ a < 18446744073709551616) : 0 ≤ bits .and .u64 a 255 ∧ bits .and .u64 a 255 ≤ 255 := by
  have h1 := bits_and_u64_nat a.toNat 255 (by omega) (by omega)
  have e : a.toNat &&& 255 = a.toNat % 256 := Nat.and_two_pow_sub_one_eq_mod a.toNat 8
  have e2 : ((a.toNat : Nat) : Int) = a := by omega
  rw [e, e2] at h1
  have e3 : bits .and .u64 a 255 = ((a.toNat % 256 : Nat) : Int) := h1
  rw [e3]; omega
theorem rnd255 (z : Int) : 0 ≤ bits .and .u64 (IntKind.u64.wrap z / 2 ^ (40 : Int).toNat) 255 ∧ bits .and .u64 (IntKind.u64.wrap z / 2 ^ (40 : Int).toNat) 255 ≤ 255 := by
  have h := wrapU_rng z
  have e : (2 : Int) ^ (40 : Int).toNat = 1099511627776 := by decide
  rw [e]
  exact and255 (by omega)
theorem getD_P {l : List Int} {i : Nat} {P : Int → Prop} (h : ∀ x ∈ l, P x) (hi : i < l.length) : P (l.getD i 0) := h _ (getD_mem hi)
theorem remN {p n : Int} (h : 0 ≤ p) (hn : 0 < n) : 0 ≤ p.tmod n ∧ p.tmod n ≤ n - 1 := by
  have h1 := Int.tmod_lt_of_pos p hn; have h2 := Int.tmod_nonneg n h; omega
/-- A number drawn from one byte. -/
def atN (xs : List Int) (i : Nat) (n : Int) : Int := if i < xs.length then (xs.getD i 0).tmod n else ((i : Int) * 37 + 11).tmod n
theorem atN_rng {xs : List Int} {i : Nat} {n : Int} (h : ∀ x ∈ xs, 0 ≤ x ∧ x ≤ 255) (hn : 0 < n) : 0 ≤ atN xs i n ∧ atN xs i n ≤ n - 1 := by
  unfold atN
  split
  · rename_i h0; exact remN (getD_P h h0).1 hn
  · exact remN (by omega) hn
theorem atN_yes {xs : List Int} {i : Nat} {n : Int} (h : i < xs.length) : atN xs i n = (xs.getD i 0).tmod n := if_pos h
theorem atN_no {xs : List Int} {i : Nat} {n : Int} (h : ¬ i < xs.length) : atN xs i n = ((i : Int) * 37 + 11).tmod n := if_neg h
theorem dr_mk {x0 x1 x2 x3 : List Int} {L : Int} (hL : 2 ≤ L ∧ L ≤ 4) (h0 : x0.length ≤ 1 ∧ ∀ x ∈ x0, 0 ≤ x ∧ x ≤ L - 1) (h1 : 1 ≤ x1.length ∧ x1.length ≤ 2 ∧ ∀ x ∈ x1, 0 ≤ x ∧ x ≤ L - 1) (h2 : x2.length ≤ 2 ∧ ∀ x ∈ x2, 0 ≤ x ∧ x ≤ L - 1) (h3 : x3.length ≤ 1 ∧ ∀ x ∈ x3, 0 ≤ x ∧ x ≤ L - 1) : drC (x0, x1, x2, x3) L := by
  have f : ∀ xs : List Int, xs.length ≤ 4 → (∀ x ∈ xs, 0 ≤ x ∧ x ≤ L - 1) → fourB xs L = true := fun xs h k => by
    simp only [fourB, Bool.and_eq_true, decide_eq_true_eq]; exact ⟨longB_mk (by omega) (by omega) k, h⟩
  refine ⟨?_, h1.2.1, h2.1⟩
  simp only [chB, f x0 (by omega) h0.2, f x1 (by omega) h1.2.2, f x2 (by omega) h2.2, f x3 (by omega) h3.2, Bool.true_and, decide_eq_true_eq]; exact h1.1
theorem there_all {wd part : List Int} {a : Int} (h : 0 ≤ a) (h2 : a + part.length ≤ wd.length) (he : ∀ j : Nat, j < part.length → wd.getD (a + j).toNat 0 = part.getD j 0) : true = thereB wd part a := by
  unfold thereB; rw [decide_eq_true]
  refine ⟨h, h2, ?_⟩
  apply List.ext_getElem (by simp; omega)
  intro i h3 h4
  have h5 := he i h4
  rw [show (a + (i : Int)).toNat = a.toNat + i from by omega, List.getD_eq_getElem?_getD, List.getD_eq_getElem?_getD, List.getElem?_eq_getElem (by omega), List.getElem?_eq_getElem h4] at h5
  simpa using h5
theorem there_bad {wd part : List Int} {a : Int} {j : Nat} (hj : j < part.length) (he : ¬ wd.getD (a + j).toNat 0 = part.getD j 0) : false = thereB wd part a := by
  cases h : thereB wd part a
  · rfl
  · exfalso; apply he
    have h2 := there_y h
    simp only [thereB, decide_eq_true_eq] at h
    have h3 := h.2.2
    conv => rhs; rw [← h3]
    rw [List.getD_eq_getElem?_getD, List.getD_eq_getElem?_getD, List.getElem?_drop, List.getElem?_take_of_lt (by omega), show (a + (j : Int)).toNat = a.toNat + j from by omega]
/-- A change at its first place. -/
def cfL (c : C4) (xs : List Int) : List Int := if firstI c xs < 0 then xs else putL c xs (firstI c xs)
def cfB (c : C4) (xs : List Int) (L : Int) : Bool := chB c L && longB xs L && decide ((cfL c xs).length ≤ 24)
theorem cf_n {c : C4} {xs : List Int} {L : Int} (h : (chB c L && longB xs L) = false) : cfB c xs L = false := by unfold cfB; rw [h]; rfl
theorem cf_y {c : C4} {xs : List Int} {L : Int} (h : (chB c L && longB xs L) = true) (h2 : (cfL c xs).length ≤ 24) : cfB c xs L = true := by unfold cfB; rw [h, decide_eq_true h2]; rfl
theorem cf_l {c : C4} {xs : List Int} {L : Int} (h2 : ¬ (cfL c xs).length ≤ 24) : cfB c xs L = false := by unfold cfB; rw [decide_eq_false h2]; simp
theorem cfL_no {c : C4} {xs : List Int} (h : firstI c xs < 0) : cfL c xs = xs := if_pos h
theorem cfL_put {c : C4} {xs : List Int} (h : ¬ firstI c xs < 0) : cfL c xs = putL c xs (firstI c xs) := if_neg h
theorem places_pre (c : C4) (wd : List Int) (k : Nat) : ∀ n, k ≤ n → ∃ r, placesL c wd n = placesL c wd k ++ r ∧ ∀ x ∈ r, (k : Int) ≤ x
  | 0, h => ⟨[], by rw [show k = 0 from by omega]; simp, by simp⟩
  | n + 1, h => by
    by_cases e : k = n + 1
    · subst e; exact ⟨[], by simp, by simp⟩
    · obtain ⟨r, h1, h2⟩ := places_pre c wd k n (by omega)
      cases hf : fitsB c wd (n : Int)
      · exact ⟨r, by rw [← places_n hf, h1], h2⟩
      · refine ⟨r ++ [(n : Int)], by rw [← places_y hf, h1, List.append_assoc], fun x hx => ?_⟩
        rcases List.mem_append.1 hx with h3 | h3
        · exact h2 x h3
        · simp at h3; omega
theorem place_at {c : C4} {wd : List Int} {k n : Nat} (hk : k < n) (h : fitsB c wd (k : Int) = true) : (placesL c wd k).length < (placesL c wd n).length ∧ (placesL c wd n).getD (placesL c wd k).length 0 = (k : Int) := by
  obtain ⟨r, h1, _⟩ := places_pre c wd (k + 1) n (by omega)
  rw [h1, ← places_y h]
  exact ⟨by simp, by simp [List.getD_eq_getElem?_getD]⟩
theorem place_not {c : C4} {wd : List Int} {k n : Nat} (hk : k < n) (h : fitsB c wd (k : Int) = false) : ¬ ((placesL c wd k).length < (placesL c wd n).length ∧ (placesL c wd n).getD (placesL c wd k).length 0 = (k : Int)) := by
  rintro ⟨h3, h4⟩
  obtain ⟨r, h1, h2⟩ := places_pre c wd (k + 1) n (by omega)
  rw [h1, ← places_n h] at h3 h4
  rw [List.length_append] at h3
  have h5 : (placesL c wd k ++ r).getD (placesL c wd k).length 0 = r.getD 0 0 := by
    rw [List.getD_eq_getElem?_getD, List.getElem?_append_right (Nat.le_refl _), Nat.sub_self, ← List.getD_eq_getElem?_getD]
  rw [h5] at h4
  have h6 := h2 (r.getD 0 0) (by
    rw [List.getD_eq_getElem?_getD, List.getElem?_eq_getElem (by omega)]; exact List.getElem_mem _)
  omega
end Go.WX
