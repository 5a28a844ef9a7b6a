/- Plain laws on overlaps and on the words from which two ways lead to different words; no program. No condition. -/
import Derived.Test.YthemmoceomdccaaLibY
import Derived.Test.YthemmoceomdccaaPlQ
namespace Go.WX
open Go
section
variable {cs : List C4} {i j n : Nat} {L M : Int}
theorem mostN_eq (h : i = j) (hl : 1 ≤ (patL cs i).length) : ((mostN cs i j : Nat) : Int) = (if ((patL cs j).length : Int) < ((patL cs i).length : Int) then ((patL cs j).length : Int) else ((patL cs i).length : Int)) - 1 := by
  subst h; unfold mostN; rw [if_pos rfl, if_neg (by omega)]; omega
theorem mostN_ne (h : ¬ i = j) : ((mostN cs i j : Nat) : Int) = (if ((patL cs j).length : Int) < ((patL cs i).length : Int) then ((patL cs j).length : Int) else ((patL cs i).length : Int)) := by
  unfold mostN; rw [if_neg h]; split <;> omega
theorem mostN_rng (cs : List C4) (i j : Nat) : mostN cs i j ≤ (patL cs i).length ∧ mostN cs i j ≤ (patL cs j).length := by
  unfold mostN; split <;> omega
theorem ovW_put (h : ovP cs i j (n + 1) = true) {l : List (List Int)} (e : l = (ovQ cs i j n).map (ovW cs)) {x : List Int} (hx : x = patL cs i ++ (patL cs j).drop (n + 1)) : l ++ [x] = (ovQ cs i j (n + 1)).map (ovW cs) := by
  subst e; subst hx; rw [← ovQ_put h, List.map_append]; rfl
/-- Which pairs there are. -/
def okT3 (cs : List C4) (t : T3) : Prop := t.1 < cs.length ∧ t.2.1 < cs.length ∧ t.2.2 ≤ (patL cs t.1).length ∧ t.2.2 ≤ (patL cs t.2.1).length
theorem ov1_ok : ∀ t ∈ ov1 cs cs.length, okT3 cs t := fun t ht => by
  unfold ov1 at ht
  obtain ⟨i, hi, ht⟩ := List.mem_flatMap.1 ht
  unfold ov2 at ht
  obtain ⟨j, hj, ht⟩ := List.mem_flatMap.1 ht
  unfold ov3 at ht
  obtain ⟨k, hk, rfl⟩ := List.mem_map.1 ht
  have h1 : k < mostN cs i j := by simpa using (List.mem_filter.1 hk).1
  have h2 := mostN_rng cs i j
  exact ⟨by simpa using hi, by simpa using hj, by show k + 1 ≤ (patL cs i).length; omega, by show k + 1 ≤ (patL cs j).length; omega⟩
theorem ov1_get {k : Nat} (hk : k < (ov1 cs cs.length).length) : okT3 cs ((ov1 cs cs.length).getD k (0, 0, 0)) := ov1_ok _ (getD_mem hk)
theorem patL_of (h : ∀ k : Nat, k < cs.length → okC (cs.getD k d4)) (i : Nat) : (patL cs i).length ≤ 4 := by
  unfold patL
  by_cases e : i < cs.length
  · exact (h i e).2.1.2
  · simp [List.getD_eq_getElem?_getD, List.getElem?_eq_none (show cs.length ≤ i from by omega)]
theorem ovQ_300 (h8 : cs.length ≤ 8) (h : ∀ k : Nat, k < cs.length → okC (cs.getD k d4)) (hi : i ≤ cs.length) (hj : j ≤ cs.length) (hn : n ≤ mostN cs i j) : (ovQ cs i j n).length ≤ 300 :=
  ovQ_len h8 (patL_of h) (by omega) (by omega) (Nat.le_trans hn (mostN_le (patL_of h i)))
theorem ov1_300 (h8 : cs.length ≤ 8) (h : ∀ k : Nat, k < cs.length → okC (cs.getD k d4)) : (ov1 cs cs.length).length ≤ 300 := by
  have := ov1_len h8 (patL_of h) cs.length; omega
theorem ovW_at (h : ∀ k : Nat, k < cs.length → okC (cs.getD k d4)) {k : Nat} (hk : k < (ov1 cs cs.length).length) : ((ov1 cs cs.length).map (ovW cs)).getD k [] = ovW cs ((ov1 cs cs.length).getD k (0, 0, 0)) ∧ (ovW cs ((ov1 cs cs.length).getD k (0, 0, 0))).length ≤ 8 :=
  ⟨by simp [List.getD_eq_getElem?_getD, hk], ovW_len (patL_of h) _⟩
theorem ovW_lenT {t : T3} (h : okT3 cs t) : ((ovW cs t).length : Int) = (patL cs t.1).length + (patL cs t.2.1).length - (t.2.2 : Nat) := by
  have h1 := h.2.2.2
  unfold ovW; rw [List.length_append, List.length_drop]; omega
/-- What is told of overlaps. -/
def ovR (cs : List C4) (L : Int) : List (List Int) := onT (plnB cs L) ((ov1 cs cs.length).map (ovW cs))
theorem ovR_len : (ovR cs L).length ≤ 300 ∧ sumL (ovR cs L) ≤ 2400 := by
  unfold ovR
  by_cases h : plnB cs L = true
  · rw [onT_yes h]
    have hl := listB_y (pln_y h).1
    have h1 := ov1_300 hl.1 hl.2.2.2
    have h2 := sumL_le_len (c := 8) ((ov1 cs cs.length).map (ovW cs)) (fun x hx => by
      obtain ⟨t, ht, rfl⟩ := List.mem_map.1 hx
      have := ovW_len (patL_of hl.2.2.2) t; omega)
    rw [List.length_map] at h2 ⊢
    exact ⟨h1, by omega⟩
  · rw [onT_no h]; simp [sumL]
/-! ### Loose pairs -/
def lsX (cs : List C4) (m : Nat) (t : T3) : Option (List Int × Int) := normF cs m (putL (cs.getD t.1 d4) (ovW cs t) 0)
def lsY (cs : List C4) (m : Nat) (t : T3) : Option (List Int × Int) := normF cs m (putL (cs.getD t.2.1 d4) (ovW cs t) (((patL cs t.1).length : Int) - (t.2.2 : Nat)))
def lsO (cs : List C4) (m : Nat) (k : Nat) : Bool := nB (lsX cs m ((ov1 cs cs.length).getD k (0, 0, 0))) && nB (lsY cs m ((ov1 cs cs.length).getD k (0, 0, 0)))
def lsP (cs : List C4) (m : Nat) (k : Nat) : Bool := !decide (nL (lsX cs m ((ov1 cs cs.length).getD k (0, 0, 0))) = nL (lsY cs m ((ov1 cs cs.length).getD k (0, 0, 0))))
def lsB (cs : List C4) (L M : Int) : Bool := plnB cs L && decide (0 ≤ M ∧ M ≤ 200) && (List.range (ov1 cs cs.length).length).all (lsO cs M.toNat)
def lsL (cs : List C4) (m : Nat) : List (List Int) := sel (lsP cs m) [] ((ov1 cs cs.length).map (ovW cs)) (ov1 cs cs.length).length
theorem ls_n1 (h : plnB cs L = false) : lsB cs L M = false := by simp [lsB, h]
theorem ls_n2 (h : ¬ (0 ≤ M ∧ M ≤ 200)) : lsB cs L M = false := by simp only [lsB, decide_eq_false h, Bool.and_false, Bool.false_and]
theorem ls_n3 {k : Nat} (hk : k < (ov1 cs cs.length).length) (h : lsO cs M.toNat k = false) : lsB cs L M = false := by
  have : (List.range (ov1 cs cs.length).length).all (lsO cs M.toNat) = false := by
    rw [List.all_eq_false]; exact ⟨k, by simpa using hk, by rw [h]; decide⟩
  simp [lsB, this]
theorem ls_y (h : plnB cs L = true) (h2 : 0 ≤ M ∧ M ≤ 200) (h3 : ∀ j : Nat, j < (ov1 cs cs.length).length → lsO cs M.toNat j = true) : lsB cs L M = true := by
  have : (List.range (ov1 cs cs.length).length).all (lsO cs M.toNat) = true := by
    rw [List.all_eq_true]; intro j hj; exact h3 j (by simpa using hj)
  simp only [lsB, h, decide_eq_true h2, this, Bool.and_self]
theorem lsO_y {m k : Nat} {t : T3} (e : t = (ov1 cs cs.length).getD k (0, 0, 0)) (h1 : nB (lsX cs m t) = true) (h2 : nB (lsY cs m t) = true) : lsO cs m k = true := by subst e; simp only [lsO, h1, h2, Bool.and_self]
theorem lsO_n1 {m k : Nat} {t : T3} (e : t = (ov1 cs cs.length).getD k (0, 0, 0)) (h1 : nB (lsX cs m t) = false) : lsO cs m k = false := by subst e; simp only [lsO, h1, Bool.false_and]
theorem lsO_n2 {m k : Nat} {t : T3} (e : t = (ov1 cs cs.length).getD k (0, 0, 0)) (h1 : nB (lsY cs m t) = false) : lsO cs m k = false := by subst e; simp only [lsO, h1, Bool.and_false]
theorem lsP_y {m k : Nat} {t : T3} (e : t = (ov1 cs cs.length).getD k (0, 0, 0)) (h : ¬ nL (lsX cs m t) = nL (lsY cs m t)) : lsP cs m k = true := by subst e; simp only [lsP, decide_eq_false h, Bool.not_false]
theorem lsP_n {m k : Nat} {t : T3} (e : t = (ov1 cs cs.length).getD k (0, 0, 0)) (h : nL (lsX cs m t) = nL (lsY cs m t)) : lsP cs m k = false := by subst e; simp only [lsP, decide_eq_true h, Bool.not_true]
theorem lsR_len : (onT (lsB cs L M) (lsL cs M.toNat)).length ≤ 300 ∧ sumL (onT (lsB cs L M) (lsL cs M.toNat)) ≤ 2400 := by
  by_cases h : lsB cs L M = true
  · rw [onT_yes h]
    simp only [lsB, Bool.and_eq_true] at h
    have hl := listB_y (pln_y h.1.1).1
    have h1 := ov1_300 hl.1 hl.2.2.2
    have h0 : (lsL cs M.toNat).length ≤ (ov1 cs cs.length).length := sel_len _ _ _ _
    have h2 := sumL_le_len (c := 8) (lsL cs M.toNat) (fun x hx => by
      have h5 := sel_mem (by rw [List.length_map]; exact Nat.le_refl _) x hx
      obtain ⟨t, ht, rfl⟩ := List.mem_map.1 h5
      have := ovW_len (patL_of hl.2.2.2) t; omega)
    exact ⟨by omega, by omega⟩
  · rw [onT_no h]; simp [sumL]
end
end Go.WX
