/- Plain laws on the number of words that a grammar makes; no program. No condition. -/
import Derived.Test.YthemmoceomdccaaPlH
import Derived.Test.YthemmoceomdccaaPlI
namespace Go.WX
open Go

open Classical in
/-- How many of the first k words of a list have a tree. -/
noncomputable def cntW (rs : List R4) (wss : List (List Int)) : Nat → Int := sumN fun k => if ∃ c, DC rs (wss.getD k []) 0 (wss.getD k []).length 0 c then 1 else 0
theorem cntW_zero (rs : List R4) (wss : List (List Int)) : (0 : Int) = cntW rs wss 0 := rfl
theorem cntW_y {rs : List R4} {wss : List (List Int)} {k : Nat} (h : ∃ c, DC rs (wss.getD k []) 0 (wss.getD k []).length 0 c) : cntW rs wss k + 1 = cntW rs wss (k + 1) := by unfold cntW; rw [sumN_succ, if_pos h]
theorem cntW_n {rs : List R4} {wss : List (List Int)} {k : Nat} (h : ¬ ∃ c, DC rs (wss.getD k []) 0 (wss.getD k []).length 0 c) : cntW rs wss k = cntW rs wss (k + 1) := by unfold cntW; rw [sumN_succ, if_neg h]; omega
theorem cntW_rng (rs : List R4) (wss : List (List Int)) : ∀ k, 0 ≤ cntW rs wss k ∧ cntW rs wss k ≤ k
  | 0 => by simp [cntW, sumN]
  | k + 1 => by
    have := cntW_rng rs wss k
    by_cases h : ∃ c, DC rs (wss.getD k []) 0 (wss.getD k []).length 0 c
    · rw [← cntW_y h]; omega
    · rw [← cntW_n h]; omega
theorem leastC_iff {rs : List R4} {wd : List Int} {nm l : Int} (g : gramV nm l rs) {i j : Nat} {a : Int} : 0 ≤ leastC rs wd i j a ↔ ∃ c, DC rs wd i j a c := by
  constructor
  · intro h
    by_cases e : ∃ c, DC rs wd i j a c
    · exact e
    · rw [← leastC_no e] at h; omega
  · rintro ⟨c, hc⟩
    obtain ⟨b, hb⟩ := Lst.ex g hc
    rw [← leastC_of hb.d hb.le]; exact (hb.d.rng g).2.1
theorem TC.topB {nm : Int} {rs : List R4} {wd : List Int} {ys : List Bool} {I m q : Nat} (h : TCB rs wd nm 13 8 1248 ys (wd.length + 1) I) (hm : wd.length = m) (h1 : 1 ≤ m) (hn : 1 ≤ nm) (hq : q = m * 8) : (∃ c, DC rs wd 0 wd.length 0 c) ↔ ys.getD q false = true := by
  subst hm hq
  have o := h.atB (i := 0) (j := wd.length) (k := 0) (by omega) (Nat.le_refl _) (by omega)
  have e : 0 * 104 + wd.length * 8 + 0 = wd.length * 8 := by omega
  rw [e] at o
  exact o.symm
/-- Whether CountRead answers. -/
noncomputable def canN (a0 a1 : Int) (rs : List R4) (n : Int) : Bool := gramB a0 a1 rs && decide (1 ≤ n ∧ n ≤ 5)
theorem canN_n1 {a0 a1 n : Int} {rs : List R4} (h : ¬ gramV a0 a1 rs) : false = canN a0 a1 rs n := by simp [canN, Bool.eq_false_iff.2 (gramB_no h)]
theorem canN_n2 {a0 a1 n : Int} {rs : List R4} (h : ¬ (1 ≤ n ∧ n ≤ 5)) : false = canN a0 a1 rs n := by simp only [canN, decide_eq_false h, Bool.and_false]
theorem canN_y {a0 a1 n : Int} {rs : List R4} (h : gramV a0 a1 rs) (h2 : 1 ≤ n ∧ n ≤ 5) : true = canN a0 a1 rs n := by simp [canN, gramB_yes h, h2]
end Go.WX
