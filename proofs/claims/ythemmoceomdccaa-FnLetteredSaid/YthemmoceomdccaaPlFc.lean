/- Plain laws on drawn changes: lengths and letters of what they make; no program. No condition. -/
import Derived.Test.YthemmoceomdccaaPlO
namespace Go.WX
open Go

theorem allIn_mem {xs : List Int} {lo hi : Int} : allIn xs lo hi = true ↔ ∀ x ∈ xs, lo ≤ x ∧ x ≤ hi := by unfold allIn; simp [List.all_eq_true]
theorem fourB_y {xs : List Int} {L : Int} (h : fourB xs L = true) : longB xs L = true ∧ xs.length ≤ 4 := by
  simp only [fourB, Bool.and_eq_true, decide_eq_true_eq] at h; exact ⟨h.1, h.2⟩
theorem longB_mem {xs : List Int} {L : Int} (h : longB xs L = true) : ∀ x ∈ xs, 0 ≤ x ∧ x ≤ L - 1 := allIn_mem.1 (longB_y h).2.2
theorem longB_mk {xs : List Int} {L : Int} (hL : 1 ≤ L ∧ L ≤ 4) (hl : xs.length ≤ 24) (h : ∀ x ∈ xs, 0 ≤ x ∧ x ≤ L - 1) : longB xs L = true := by
  simp only [longB, Bool.and_eq_true, decide_eq_true_eq]; exact ⟨⟨hL, hl⟩, allIn_mem.2 h⟩
/-- A drawn change: one or two letters found, at most two given. -/
def drC (c : C4) (L : Int) : Prop := chB c L = true ∧ c.2.1.length ≤ 2 ∧ c.2.2.1.length ≤ 2
theorem chB_give {c : C4} {L : Int} (h : chB c L = true) : ∀ x ∈ c.2.2.1, 0 ≤ x ∧ x ≤ L - 1 := by
  simp only [chB, Bool.and_eq_true] at h; exact longB_mem (fourB_y h.1.1.2).1
theorem allR_in {c : C4} {wd : List Int} {lo hi : Int} (hg : ∀ x ∈ c.2.2.1, lo ≤ x ∧ x ≤ hi) (hw : ∀ x ∈ wd, lo ≤ x ∧ x ≤ hi) : ∀ (n a : Nat), ∀ x ∈ allR c wd n a, lo ≤ x ∧ x ≤ hi
  | 0, _, x, hx => by simp [allR] at hx
  | n + 1, a, x, hx => by
    unfold allR at hx
    split at hx
    · rename_i h1
      split at hx
      · rcases List.mem_append.1 hx with h | h
        · exact hg x h
        · exact allR_in hg hw n _ x h
      · rcases List.mem_cons.1 hx with h | h
        · subst h; exact hw _ (by have e : wd.getD a 0 = wd[a] := (by simp [List.getD_eq_getElem?_getD, h1]); rw [e]; exact List.getElem_mem h1)
        · exact allR_in hg hw n _ x h
    · cases hx
theorem allR_len {c : C4} {wd : List Int} (h1 : 1 ≤ c.2.1.length) (h2 : c.2.2.1.length ≤ 2) : ∀ (n a : Nat), (allR c wd n a).length ≤ 2 * (wd.length - a)
  | 0, _ => by simp [allR]
  | n + 1, a => by
    unfold allR
    split
    · split
      · have := allR_len h1 h2 (wd := wd) n (a + c.2.1.length); rw [List.length_append]; omega
      · have := allR_len h1 h2 (wd := wd) n (a + 1); rw [List.length_cons]; omega
    · simp
section
variable {c c2 : C4} {wd : List Int} {L : Int}
theorem allL_nil (c : C4) : allL c [] = [] := rfl
theorem allL_len2 (hd : drC c L) : (allL c wd).length ≤ 2 * wd.length := by
  have := allR_len (wd := wd) (chB_y hd.1).1.2.1.1 hd.2.2 (wd.length - 0) 0
  unfold allL restL; omega
theorem allL_in (h : chB c L = true) (hw : ∀ x ∈ wd, 0 ≤ x ∧ x ≤ L - 1) : ∀ x ∈ allL c wd, 0 ≤ x ∧ x ≤ L - 1 := allR_in (chB_give h) hw _ _
/-- All of a drawn change, at a word of at most twelve letters. -/
theorem dr_all (hd : drC c L) (hw : longB wd L = true) (h12 : wd.length ≤ 12) : okA c wd = true ∧ longB (allL c wd) L = true := by
  have h1 := allL_len2 (wd := wd) hd
  have h2 := (chB_y hd.1).2
  exact ⟨decide_eq_true (by omega), longB_mk h2 (by omega) (allL_in hd.1 (longB_mem hw))⟩
/-- Two drawn changes, one after another, at a word of at most six letters. -/
theorem dr_run (hd : drC c L) (hd2 : drC c2 L) (hw : longB wd L = true) (h6 : wd.length ≤ 6) : runF [c, c2] wd = some (allL c2 (allL c wd)) ∧ okA c2 (allL c wd) = true ∧ longB (allL c wd) L = true ∧ (allL c wd).length ≤ 12 := by
  have h1 := allL_len2 (wd := wd) hd
  have h2 := dr_all hd hw (by omega)
  have h3 := dr_all hd2 h2.2 (by omega)
  refine ⟨?_, h3.1, h2.2, by omega⟩
  show (if okA c wd = true then (if okA c2 (allL c wd) = true then some (allL c2 (allL c wd)) else none) else none) = _
  rw [if_pos h2.1, if_pos h3.1]
theorem dr_runNil (c c2 : C4) : runF [c, c2] [] = some [] := rfl
end
end Go.WX
