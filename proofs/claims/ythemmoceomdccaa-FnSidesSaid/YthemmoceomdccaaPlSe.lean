/- Plain laws that the law on two-sided machines wants; no program. No condition. -/
import Derived.Test.YthemmoceomdccaaPlSd
import Derived.Test.YthemmoceomdccaaPlI3
namespace Go.WX
open Go
section
variable {rs xs ys : List R4} {ins outs ws o o2 : List Int} {en xe ye : List Bool} {L mo S m n : Int} {k : Nat}
theorem isWB (hL : 1 ≤ L ∧ L ≤ 4) {w : List Int} (h : w.length ≤ 12) (hx : ∀ x ∈ w, 0 ≤ x ∧ x ≤ L - 1) : isWordB w L = true := by
  have h1 : allIn w 0 (L - 1) = true := by unfold allIn; simpa [List.all_eq_true] using hx
  simp only [isWordB, wordB, h1]; simp; omega
theorem out_get (hL : 1 ≤ L ∧ L ≤ 4) (hm : mo ≤ 4) (hk : k < (outL rs en ins L mo).length) : rdP rs ins ((outL rs en ins L mo).getD k []) en ∧ isWordB ((outL rs en ins L mo).getD k []) L = true := by
  have hmem : (outL rs en ins L mo).getD k [] ∈ outL rs en ins L mo := getD_mem hk
  revert hmem
  generalize (outL rs en ins L mo).getD k [] = w
  intro hmem
  unfold outL sel at hmem
  obtain ⟨q, hq, rfl⟩ := List.mem_map.1 hmem
  obtain ⟨h1, h2⟩ := List.mem_filter.1 hq
  have h3 := List.mem_range.1 h1
  have h4 : (wordsP L (mo.toNat + 1)).getD q [] ∈ wordsP L (mo.toNat + 1) := getD_mem h3
  exact ⟨rdB_iff.1 h2, isWB hL (by have := wordsP_each _ h4; omega) (wordsP_in _ h4)⟩
theorem rdT (h : rdP rs ins outs en) : rdB rs ins outs en = true := rdB_iff.2 h
theorem sided_turn {l : Int} (hv : sidedV S l rs en) : sidedV S l (turnL rs) en := by
  refine ⟨hv.1, hv.2.1, by unfold turnL; rw [List.length_map]; exact hv.2.2.1, hv.2.2.2.1, fun i hi => ?_⟩
  have hi2 : i < rs.length := by simpa [turnL] using hi
  have h1 := hv.2.2.2.2 i hi2
  have e : (turnL rs).getD i (0, 0, 0, 0) = turnR (rs.getD i (0, 0, 0, 0)) := by simp [turnL, List.getD_eq_getElem?_getD, hi2]
  rw [e]; exact ⟨h1.1, h1.2.1, h1.2.2.2, h1.2.2.1⟩
theorem bothV {l l' : Int} (h : bothB m l xs xe n l' ys ye = true) : sidedV (onI (bothB m l xs xe n l' ys ye) (1 + m + n)) (onI (bothB m l xs xe n l' ys ye) l) (onT (bothB m l xs xe n l' ys ye) (eA m xs ys)) (onT (bothB m l xs xe n l' ys ye) (eE xe ye)) := by
  rw [onI_yes h, onI_yes h, onT_yes h, onT_yes h]
  simp only [bothB, sidedB, Bool.and_eq_true, decide_eq_true_eq] at h; exact h.2
theorem chainV {l l' : Int} (h : chainB m l xs xe n l' ys ye = true) : sidedV (onI (chainB m l xs xe n l' ys ye) (wI (m * n))) (onI (chainB m l xs xe n l' ys ye) l) (onT (chainB m l xs xe n l' ys ye) (cC m n xs ys)) (onT (chainB m l xs xe n l' ys ye) (cE xe ye)) := by
  rw [onI_yes h, onI_yes h, onT_yes h, onT_yes h]
  simp only [chainB, sidedB, Bool.and_eq_true, decide_eq_true_eq] at h; exact h.2
theorem onW {B : Bool} {w : List Int} {l : Int} (h : B = true) (hw : isWordB w l = true) : isWordB w (onI B l) = true := by rw [onI_yes h]; exact hw
theorem onR {B : Bool} (h : B = true) (hr : rdP rs ins outs en) : rdB (onT B rs) ins outs (onT B en) = true := by rw [onT_yes h, onT_yes h]; exact rdT hr
theorem out_len (h : outB S L rs en ins mo = true) : (outL rs en ins L mo).length ≤ 1365 := by
  have h9 := (outR_len (S := S) (L := L) (rs := rs) (en := en) (ins := ins) (m := mo)).1
  rw [onT_yes h] at h9; exact h9
end
end Go.WX
