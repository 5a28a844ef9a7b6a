/- Plain laws on the words that lead to a word; no program. No condition. -/
import Derived.Test.YthemmoceomdccaaPlO
import Derived.Test.YthemmoceomdccaaLibW
namespace Go.WX
open Go

def srcP (cs : List C4) (xs : List Int) (ws : List (List Int)) (k : Nat) : Bool := rB (runF cs (ws.getD k [])) && decide (rL (runF cs (ws.getD k [])) = xs)
def leadP (f : List Int → Option (List Int)) (xs : List Int) (ws : List (List Int)) (k : Nat) : Bool := rB (f (ws.getD k [])) && decide (rL (f (ws.getD k [])) = xs)
section
variable {f : List Int → Option (List Int)} {cs : List C4} {xs : List Int} {ws : List (List Int)} {k : Nat} {L m : Int}
theorem leadP_n1 (h : rB (f (ws.getD k [])) = false) : leadP f xs ws k = false := by unfold leadP; rw [h]; rfl
theorem leadP_n2 (h : ¬ rL (f (ws.getD k [])) = xs) : leadP f xs ws k = false := by unfold leadP; rw [decide_eq_false h]; simp
theorem leadP_y (h : rB (f (ws.getD k [])) = true) (h2 : rL (f (ws.getD k [])) = xs) : leadP f xs ws k = true := by unfold leadP; rw [h, decide_eq_true h2]; rfl
/-- All words up to m letters that lead to xs. -/
def srcL (f : List Int → Option (List Int)) (xs : List Int) (L m : Int) : List (List Int) := sel (leadP f xs (wordsP L (m.toNat + 1))) [] (wordsP L (m.toNat + 1)) (wordsP L (m.toNat + 1)).length
def srcB (cs : List C4) (xs : List Int) (L m : Int) : Bool := listB cs L && longB xs L && decide (0 ≤ m ∧ m ≤ 5)
theorem src_n1 (h : listB cs L = false) : srcB cs xs L m = false := by simp [srcB, h]
theorem src_n2 (h : longB xs L = false) : srcB cs xs L m = false := by simp [srcB, h]
theorem src_n3 (h : ¬ (0 ≤ m ∧ m ≤ 5)) : srcB cs xs L m = false := by simp only [srcB, decide_eq_false h, Bool.and_false]
theorem src_y (h : listB cs L = true) (h2 : longB xs L = true) (h3 : 0 ≤ m ∧ m ≤ 5) : srcB cs xs L m = true := by simp only [srcB, h, h2, decide_eq_true h3, Bool.and_self]
theorem sumL_le_len {c : Int} : ∀ (xss : List (List Int)), (∀ x ∈ xss, (x.length : Int) ≤ c) → sumL xss ≤ c * xss.length
  | [], _ => by simp [sumL]
  | a :: r, h => by
    have h1 := sumL_le_len r (fun x hx => h x (List.mem_cons_of_mem _ hx))
    have h2 := h a (by simp)
    have : c * ((r.length + 1 : Nat) : Int) = c * r.length + c := by rw [Int.natCast_add, Int.mul_add]; simp
    simp only [sumL, List.length_cons, List.map_cons, List.sum_cons] at *
    omega
theorem srcL_len (hL : L ≤ 4) (hm : 0 ≤ m ∧ m ≤ 5) : (srcL f xs L m).length ≤ 1365 := Nat.le_trans (sel_len _ _ _ _) (wordsP_len hL _ (by omega))
theorem srcL_sum (hL : L ≤ 4) (hm : 0 ≤ m ∧ m ≤ 5) : sumL (srcL f xs L m) ≤ 6825 := by
  have h1 := sumL_le_len (c := 5) (srcL f xs L m) (fun x hx => by
    obtain ⟨j, hj, rfl⟩ := mem_getD (d := []) (sel_mem (Nat.le_refl _) x hx)
    have := wordsP_get (L := L) (m := m.toNat) (k := j) hj
    omega)
  have h2 := srcL_len (f := f) (xs := xs) hL hm
  omega
theorem srcs_len : (onT (srcB cs xs L m) (srcL f xs L m)).length ≤ 1365 ∧ sumL (onT (srcB cs xs L m) (srcL f xs L m)) ≤ 6825 := by
  by_cases h : srcB cs xs L m = true
  · rw [onT_yes h]
    simp only [srcB, Bool.and_eq_true, decide_eq_true_eq] at h
    have h2 := (longB_y h.1.2).1
    exact ⟨srcL_len h2.2 h.2, srcL_sum h2.2 h.2⟩
  · rw [onT_no h]; simp [sumL]
/-- Transliterated, when it is not too long. -/
def traF (cs : List C4) (wd : List Int) : Option (List Int) := if okT' cs wd = true then some (traL cs wd) else none
theorem traF_B (cs : List C4) (wd : List Int) : okT' cs wd = rB (traF cs wd) := by
  unfold traF
  cases h : okT' cs wd <;> simp [rB]
theorem traF_L (cs : List C4) (wd : List Int) : onT (okT' cs wd) (traL cs wd) = rL (traF cs wd) := by
  unfold traF
  cases h : okT' cs wd <;> simp [rL, onT]
theorem traP_n1 (h : okT' cs (ws.getD k []) = false) : leadP (traF cs) xs ws k = false := leadP_n1 (by rw [← traF_B]; exact h)
theorem traP_n2 (h : ¬ traL cs (ws.getD k []) = xs) : leadP (traF cs) xs ws k = false := by
  cases e : okT' cs (ws.getD k [])
  · exact traP_n1 e
  · exact leadP_n2 (by rw [← traF_L, onT_yes e]; exact h)
theorem traP_y (h : okT' cs (ws.getD k []) = true) (h2 : traL cs (ws.getD k []) = xs) : leadP (traF cs) xs ws k = true := leadP_y (by rw [← traF_B]; exact h) (by rw [← traF_L, onT_yes h]; exact h2)
def bckB (cs : List C4) (xs : List Int) (L : Int) : Bool := plnB cs L && longB xs L
theorem bck_n1 (h : plnB cs L = false) : bckB cs xs L = false := by simp [bckB, h]
theorem bck_n2 (h : longB xs L = false) : bckB cs xs L = false := by simp [bckB, h]
theorem bck_y (h : plnB cs L = true) (h2 : longB xs L = true) : bckB cs xs L = true := by simp only [bckB, h, h2, Bool.and_self]
theorem bcks_len : (onT (bckB cs xs L) (srcL f xs L 5)).length ≤ 1365 ∧ sumL (onT (bckB cs xs L) (srcL f xs L 5)) ≤ 6825 := by
  by_cases h : bckB cs xs L = true
  · rw [onT_yes h]
    simp only [bckB, Bool.and_eq_true] at h
    have h2 := (longB_y h.2).1
    exact ⟨srcL_len h2.2 (by decide), srcL_sum h2.2 (by decide)⟩
  · rw [onT_no h]; simp [sumL]
end
end Go.WX
