/- Plain laws on the cheapest trees of a grammar; no program. No condition. -/
import Derived.Test.YthemmoceomdccaaPlG
import Derived.Test.YthemmoceomdccaaPlIt
namespace Go.WX
open Go
def candC (co : List Int) (r : R4) : Prop := co.getD r.1.toNat 0 < 0 ∧ (0 ≤ r.2.2.1 → 0 ≤ co.getD r.2.1.toNat 0 ∧ 0 ≤ co.getD r.2.2.1.toNat 0)
instance (co : List Int) (r : R4) : Decidable (candC co r) := inferInstanceAs (Decidable (_ ∧ _))
def valC (co : List Int) (r : R4) : Int := if 0 ≤ r.2.2.1 then r.2.2.2 + (co.getD r.2.1.toNat 0 + co.getD r.2.2.1.toNat 0) else r.2.2.2
def pickC (s : Option (Nat × Int)) (k : Nat) (x : Int) : Option (Nat × Int) := match s with
  | none => some (k, x)
  | some (b, y) => if x < y then some (k, x) else some (b, y)
def selC (co : List Int) (rs : List R4) : Nat → Option (Nat × Int)
  | 0 => none
  | k + 1 => if candC co (rs.getD k ((0, 0, 0, 0) : R4)) then pickC (selC co rs k) k (valC co (rs.getD k ((0, 0, 0, 0) : R4))) else selC co rs k
def bI (s : Option (Nat × Int)) : Int := match s with | none => -1 | some (b, _) => (b : Int)
def lI (d : Int) (s : Option (Nat × Int)) : Int := match s with | none => d | some (_, x) => x
theorem selC_no {co : List Int} {rs : List R4} {k : Nat} (h : ¬ candC co (rs.getD k ((0, 0, 0, 0) : R4))) : selC co rs (k + 1) = selC co rs k := if_neg h
theorem selC_spec (co : List Int) (rs : List R4) : ∀ k b x, selC co rs k = some (b, x) → b < k ∧ candC co (rs.getD b ((0, 0, 0, 0) : R4)) ∧ x = valC co (rs.getD b ((0, 0, 0, 0) : R4))
  | 0, b, x, h => by cases h
  | k + 1, b, x, h => by
    have ih := selC_spec co rs k
    simp only [selC] at h
    split at h
    · rename_i hc
      cases hs : selC co rs k with
      | none => rw [hs] at h; simp [pickC] at h; obtain ⟨rfl, rfl⟩ := h; exact ⟨by omega, hc, rfl⟩
      | some y =>
        obtain ⟨b', x'⟩ := y
        rw [hs] at h; simp only [pickC] at h
        split at h
        · simp at h; obtain ⟨rfl, rfl⟩ := h; exact ⟨by omega, hc, rfl⟩
        · simp at h; obtain ⟨rfl, rfl⟩ := h
          have := ih _ _ hs
          exact ⟨by omega, this.2⟩
    · have := ih _ _ h
      exact ⟨by omega, this.2⟩
/-- What the loop over rules keeps: the best rule and its cost, d where there is none. -/
def SelI (d : Int) (co : List Int) (rs : List R4) (k : Nat) (b l : Int) : Prop := b = bI (selC co rs k) ∧ l = lI d (selC co rs k)
theorem SelI.zero (d : Int) (co : List Int) (rs : List R4) : SelI d co rs 0 (-1) d := ⟨rfl, rfl⟩
theorem SelI.no {d : Int} {co : List Int} {rs : List R4} {k : Nat} {b l : Int} (h : SelI d co rs k b l) (hc : ¬ candC co (rs.getD k ((0, 0, 0, 0) : R4))) : SelI d co rs (k + 1) b l := by
  unfold SelI; rw [selC_no hc]; exact h
theorem SelI.keep {d : Int} {co : List Int} {rs : List R4} {k : Nat} {b l : Int} (h : SelI d co rs k b l) (hb : 0 ≤ b) (hx : ¬ valC co (rs.getD k ((0, 0, 0, 0) : R4)) < l) : SelI d co rs (k + 1) b l := by
  by_cases hc : candC co (rs.getD k ((0, 0, 0, 0) : R4))
  · obtain ⟨h1, h2⟩ := h
    cases hs : selC co rs k with
    | none => rw [hs] at h1; simp [bI] at h1; omega
    | some y =>
      obtain ⟨b', x'⟩ := y
      rw [hs] at h1 h2; simp only [bI, lI] at h1 h2
      unfold SelI
      simp only [selC, if_pos hc, hs, pickC]
      rw [if_neg (by omega)]; exact ⟨h1, h2⟩
  · exact h.no hc
theorem SelI.take {d : Int} {co : List Int} {rs : List R4} {k : Nat} {b l x : Int} (h : SelI d co rs k b l) (hc : candC co (rs.getD k ((0, 0, 0, 0) : R4))) (hx : x = valC co (rs.getD k ((0, 0, 0, 0) : R4))) (hlt : b < 0 ∨ x < l) : SelI d co rs (k + 1) (k : Int) x := by
  obtain ⟨h1, h2⟩ := h
  unfold SelI
  simp only [selC, if_pos hc]
  cases hs : selC co rs k with
  | none => simp [pickC, bI, lI, hx]
  | some y =>
    obtain ⟨b', x'⟩ := y
    rw [hs] at h1 h2; simp only [bI, lI] at h1 h2
    simp only [pickC]
    rw [if_pos (by omega)]; simp [bI, lI, hx]
theorem SelI.far {d : Int} {co : List Int} {rs : List R4} {k : Nat} {b l : Int} (h : SelI d co rs k b l) (hb : b < 0) : l = d := by
  obtain ⟨h1, h2⟩ := h
  cases hs : selC co rs k with
  | none => rw [hs] at h2; exact h2
  | some y => obtain ⟨b', x'⟩ := y; rw [hs] at h1; simp [bI] at h1; omega
theorem SelI.rng {d : Int} {co : List Int} {rs : List R4} {k : Nat} {b l : Int} (h : SelI d co rs k b l) (hb : ¬ b < 0) : 0 ≤ b ∧ b < k := by
  obtain ⟨h1, h2⟩ := h
  cases hs : selC co rs k with
  | none => rw [hs] at h1; simp [bI] at h1; omega
  | some y =>
    obtain ⟨b', x'⟩ := y
    have := (selC_spec co rs k _ _ hs).1
    rw [hs] at h1; simp [bI] at h1; omega

def cntZ (l : List Int) : Nat := (l.filter fun x => decide (0 ≤ x)).length
theorem cntZ_le (l : List Int) : cntZ l ≤ l.length := List.length_filter_le _ _
theorem cntZ_set : ∀ (l : List Int) (i : Nat) (x : Int), i < l.length → l.getD i 0 < 0 → 0 ≤ x → cntZ (l.set i x) = cntZ l + 1
  | [], i, x, h, _, _ => by simp at h
  | a :: r, 0, x, h, h1, h2 => by
    simp only [List.getD_cons_zero] at h1
    simp only [cntZ, List.set_cons_zero]
    rw [List.filter_cons_of_pos (by simpa using h2), List.filter_cons_of_neg (by simpa using h1)]; simp
  | a :: r, i + 1, x, h, h1, h2 => by
    simp only [List.getD_cons_succ] at h1
    have ih := cntZ_set r i x (by simpa using h) h1 h2
    simp only [cntZ, List.set_cons_succ] at *
    by_cases ha : 0 ≤ a
    · rw [List.filter_cons_of_pos (by simpa using ha), List.filter_cons_of_pos (by simpa using ha)]; simp [ih]
    · rw [List.filter_cons_of_neg (by simpa using ha), List.filter_cons_of_neg (by simpa using ha)]; exact ih
theorem cntZ_rep (n : Nat) : cntZ (List.replicate n (-1)) = 0 := by simp [cntZ]
theorem getD_set_self {l : List Int} {i : Nat} {x d : Int} (h : i < l.length) : (l.set i x).getD i d = x := by simp [List.getD_eq_getElem?_getD, h]
theorem getD_set_ne {l : List Int} {i j : Nat} {x d : Int} (h : i ≠ j) : (l.set i x).getD j d = l.getD j d := by simp [List.getD_eq_getElem?_getD, List.getElem?_set, h]

def stepG (rs : List R4) (st : List Int × List Int) : List Int × List Int := match selC st.2 rs rs.length with
  | none => st
  | some (b, x) => (st.1.set (rs.getD b ((0, 0, 0, 0) : R4)).1.toNat (b : Int), st.2.set (rs.getD b ((0, 0, 0, 0) : R4)).1.toNat x)
def givC (n : Int) (rs : List R4) (t : Nat) : List Int × List Int := itN (fun _ => stepG rs) t (List.replicate n.toNat (-1), List.replicate n.toNat (-1))
structure InvC (n : Int) (t : Nat) (st : List Int × List Int) : Prop where
  l1 : st.1.length = n.toNat
  l2 : st.2.length = n.toNat
  same : ∀ q, q < n.toNat → (st.1.getD q 0 < 0 ↔ st.2.getD q 0 < 0)
  lo : ∀ q : Nat, -1 ≤ st.2.getD q 0
  lo1 : ∀ q : Nat, -1 ≤ st.1.getD q 0
  hi : ∀ q : Nat, st.2.getD q 0 ≤ 1000 * 2 ^ t - 1000
  c : cntZ st.2 = t
theorem rep_getD (n q : Nat) : (List.replicate n (-1 : Int)).getD q 0 = -1 ∨ (List.replicate n (-1 : Int)).getD q 0 = 0 := by
  rw [List.getD_eq_getElem?_getD]
  by_cases h : q < n
  · simp [h]
  · rw [List.getElem?_eq_none (by simp; omega)]; simp
theorem InvC.zero (n : Int) (rs : List R4) : InvC n 0 (givC n rs 0) := by
  refine ⟨by simp [givC, itN], by simp [givC, itN], fun q _ => Iff.rfl, fun q => ?_, fun q => ?_, fun q => ?_, cntZ_rep _⟩ <;> (have := rep_getD n.toNat q; simp only [givC, itN]; omega)
theorem InvC.le {n : Int} {t : Nat} {st : List Int × List Int} (h : InvC n t st) : t ≤ n.toNat := by rw [← h.c, ← h.l2]; exact cntZ_le _
theorem pow_le8 {t : Nat} (h : t ≤ 8) : (2 : Int) ^ t ≤ 256 ∧ 1 ≤ (2 : Int) ^ t := by
  have : t = 0 ∨ t = 1 ∨ t = 2 ∨ t = 3 ∨ t = 4 ∨ t = 5 ∨ t = 6 ∨ t = 7 ∨ t = 8 := by omega
  rcases this with rfl | rfl | rfl | rfl | rfl | rfl | rfl | rfl | rfl <;> decide
theorem InvC.rng {n : Int} {t : Nat} {st : List Int × List Int} (h : InvC n t st) (hn : n ≤ 8) (q : Nat) : -1 ≤ st.2.getD q 0 ∧ st.2.getD q 0 ≤ 255000 := by
  have h1 := h.le; have h2 := h.lo q; have h3 := h.hi q; have h4 := pow_le8 (t := t) (by omega)
  omega
theorem InvC.step {n l : Int} {rs : List R4} {t : Nat} {st : List Int × List Int} (h : InvC n t st) (hg : gramV n l rs) {b : Nat} {x : Int} (hs : selC st.2 rs rs.length = some (b, x)) : InvC n (t + 1) (stepG rs st) := by
  obtain ⟨hb, hc, rfl⟩ := selC_spec _ _ _ _ _ hs
  have ok := hg.2.2.2 b hb
  have hn := hg.1
  have e : stepG rs st = (st.1.set (rs.getD b ((0, 0, 0, 0) : R4)).1.toNat (b : Int), st.2.set (rs.getD b ((0, 0, 0, 0) : R4)).1.toNat (valC st.2 (rs.getD b ((0, 0, 0, 0) : R4)))) := by unfold stepG; rw [hs]
  rw [e]
  obtain ⟨hc1, hc2⟩ := hc
  have o1 := ok.1; have o2 := ok.2.1; have o3 := ok.2.2.1
  have hv : 0 ≤ valC st.2 (rs.getD b ((0, 0, 0, 0) : R4)) ∧ valC st.2 (rs.getD b ((0, 0, 0, 0) : R4)) ≤ 1000 * 2 ^ (t + 1) - 1000 := by
    have hp : (2 : Int) ^ (t + 1) = 2 * 2 ^ t := by rw [Int.pow_succ, Int.mul_comm]
    have hp1 : (1 : Int) ≤ 2 ^ t := (pow_le8 (t := t) (by have := h.le; omega)).2
    unfold valC
    split
    · rename_i h2
      have k1 := hc2 h2
      have k2 := h.hi (rs.getD b ((0, 0, 0, 0) : R4)).2.1.toNat; have k3 := h.hi (rs.getD b ((0, 0, 0, 0) : R4)).2.2.1.toNat
      omega
    · omega
  have hi1 : (rs.getD b ((0, 0, 0, 0) : R4)).1.toNat < n.toNat := by omega
  have hp : (2 : Int) ^ (t + 1) = 2 * 2 ^ t := by rw [Int.pow_succ, Int.mul_comm]
  have hp1 : (1 : Int) ≤ 2 ^ t := (pow_le8 (t := t) (by have := h.le; omega)).2
  refine ⟨by simp [h.l1], by simp [h.l2], fun q hq => ?_, fun q => ?_, fun q => ?_, fun q => ?_, ?_⟩
  · by_cases hqe : (rs.getD b ((0, 0, 0, 0) : R4)).1.toNat = q
    · rw [hqe, getD_set_self (by rw [h.l1]; omega), getD_set_self (by rw [h.l2]; omega)]; omega
    · rw [getD_set_ne hqe, getD_set_ne hqe]; exact h.same q hq
  · by_cases hqe : (rs.getD b ((0, 0, 0, 0) : R4)).1.toNat = q
    · rw [hqe, getD_set_self (by rw [h.l2]; omega)]; omega
    · rw [getD_set_ne hqe]; exact h.lo q
  · by_cases hqe : (rs.getD b ((0, 0, 0, 0) : R4)).1.toNat = q
    · rw [hqe, getD_set_self (by rw [h.l1]; omega)]; omega
    · rw [getD_set_ne hqe]; exact h.lo1 q
  · by_cases hqe : (rs.getD b ((0, 0, 0, 0) : R4)).1.toNat = q
    · rw [hqe, getD_set_self (by rw [h.l2]; omega)]; omega
    · rw [getD_set_ne hqe]; have := h.hi q; omega
  · show cntZ (st.2.set _ _) = _
    rw [cntZ_set _ _ _ (by rw [h.l2]; omega) hc1 hv.1, h.c]
theorem givC_step {n : Int} {rs : List R4} {t : Nat} {d b l : Int} (h : SelI d (givC n rs t).2 rs rs.length b l) (hb : ¬ b < 0) :
    (givC n rs t).1.set (rs.getD b.toNat ((0, 0, 0, 0) : R4)).1.toNat b = (givC n rs (t + 1)).1 ∧ (givC n rs t).2.set (rs.getD b.toNat ((0, 0, 0, 0) : R4)).1.toNat l = (givC n rs (t + 1)).2 := by
  obtain ⟨h1, h2⟩ := h
  have e : givC n rs (t + 1) = stepG rs (givC n rs t) := rfl
  rw [e]; unfold stepG
  cases hs : selC (givC n rs t).2 rs rs.length with
  | none => rw [hs] at h1; simp [bI] at h1; omega
  | some y => obtain ⟨b', x'⟩ := y; rw [hs] at h1 h2; simp only [bI, lI] at h1 h2; subst h1 h2; simp
theorem InvC.next {n l2 : Int} {rs : List R4} {t : Nat} {d b l : Int} (h : InvC n t (givC n rs t)) (hg : gramV n l2 rs) (hs : SelI d (givC n rs t).2 rs rs.length b l) (hb : ¬ b < 0) : InvC n (t + 1) (givC n rs (t + 1)) := by
  cases hs' : selC (givC n rs t).2 rs rs.length with
  | none => obtain ⟨h1, h2⟩ := hs; rw [hs'] at h1; simp [bI] at h1; omega
  | some y => obtain ⟨b', x'⟩ := y; exact h.step hg hs'
theorem givC_stay {n : Int} {rs : List R4} {t : Nat} (h : selC (givC n rs t).2 rs rs.length = none) : ∀ s, givC n rs (t + s) = givC n rs t
  | 0 => rfl
  | s + 1 => by
    have e : givC n rs (t + (s + 1)) = stepG rs (givC n rs (t + s)) := rfl
    rw [e, givC_stay h s]; unfold stepG; rw [h]
/-- The rules and the costs that are given at last. -/
def allC (n : Int) (rs : List R4) : List Int × List Int := givC n rs n.toNat
theorem givC_done {n : Int} {rs : List R4} {t : Nat} {d b l : Int} (hi : InvC n t (givC n rs t)) (h : SelI d (givC n rs t).2 rs rs.length b l) (hb : b < 0) : givC n rs t = allC n rs := by
  have hn : selC (givC n rs t).2 rs rs.length = none := by
    cases hs : selC (givC n rs t).2 rs rs.length with
    | none => rfl
    | some y => obtain ⟨b', x'⟩ := y; obtain ⟨h1, _⟩ := h; rw [hs] at h1; simp [bI] at h1; omega
  have := givC_stay hn (n.toNat - t)
  have h1 := hi.le
  unfold allC
  rw [← this]; congr 1; omega
theorem allC_inv {n l : Int} {rs : List R4} (hg : gramV n l rs) : ∃ t, InvC n t (allC n rs) := by
  have : ∀ t, ∃ s, InvC n s (givC n rs t) := fun t => by
    induction t with
    | zero => exact ⟨0, InvC.zero n rs⟩
    | succ t ih =>
      obtain ⟨s, hs⟩ := ih
      have e : givC n rs (t + 1) = stepG rs (givC n rs t) := rfl
      cases hq : selC (givC n rs t).2 rs rs.length with
      | none => exact ⟨s, by rw [e]; unfold stepG; rw [hq]; exact hs⟩
      | some y => obtain ⟨b, x⟩ := y; exact ⟨s + 1, by rw [e]; exact hs.step hg hq⟩
  exact this _
theorem allC_len (n l : Int) (rs : List R4) : (onT (gramB n l rs) (allC n rs).2).length ≤ 8 := by
  by_cases h : gramV n l rs
  · rw [onT_yes (gramB_yes h)]
    obtain ⟨t, ht⟩ := allC_inv h
    rw [ht.l2]; have := h.1; omega
  · rw [onT_no (gramB_no h)]; simp
end Go.WX
