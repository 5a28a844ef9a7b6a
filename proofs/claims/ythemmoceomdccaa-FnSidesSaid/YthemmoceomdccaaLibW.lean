/- Chosen inner lists of a list of lists, shared with it; no condition. -/
import Derived.Test.YthemmoceomdccaaLibV
namespace Go.WX
open Go

/-- What is chosen of the first n. -/
def sel {α : Type} (p : Nat → Bool) (d : α) (xs : List α) (n : Nat) : List α := ((List.range n).filter p).map (fun k => xs.getD k d)
theorem sel_zero {α : Type} (p : Nat → Bool) (d : α) (xs : List α) : [] = sel p d xs 0 := by simp [sel]
theorem sel_put {α : Type} {p : Nat → Bool} {d : α} {xs : List α} {k : Nat} (h : p k = true) : sel p d xs k ++ [xs.getD k d] = sel p d xs (k + 1) := by
  unfold sel; rw [List.range_succ, List.filter_append, List.map_append]; simp [h]
theorem sel_no {α : Type} {p : Nat → Bool} {d : α} {xs : List α} {k : Nat} (h : p k = false) : sel p d xs k = sel p d xs (k + 1) := by
  unfold sel; rw [List.range_succ, List.filter_append, List.map_append]; simp [h]
theorem sel_len {α : Type} (p : Nat → Bool) (d : α) (xs : List α) (n : Nat) : (sel p d xs n).length ≤ n := by
  unfold sel; rw [List.length_map]; exact Nat.le_trans (List.length_filter_le _ _) (by simp)
theorem sel_mem {α : Type} {p : Nat → Bool} {d : α} {xs : List α} {n : Nat} (hn : n ≤ xs.length) : ∀ x ∈ sel p d xs n, x ∈ xs := fun x hx => by
  unfold sel at hx
  obtain ⟨k, hk, rfl⟩ := List.mem_map.1 hx
  have h1 : k < n := by simpa using (List.mem_filter.1 hk).1
  exact getD_mem (by omega)
section
variable {w : World} {os : List (Option Nat)} {vs : List Value} {xss : List (List Int)} {p : Nat → Bool} {og : Option Nat}
theorem Inn.sel (h : Inn w os vs xss) : ∀ n, n ≤ xss.length → Inn w (sel p none os n) (Go.WX.sel p (.slice none 0 0) vs n) (Go.WX.sel p [] xss n)
  | 0, _ => by rw [← sel_zero, ← sel_zero, ← sel_zero]; exact Inn.zero w
  | n + 1, hn => by
    have ih := Inn.sel h n (by omega)
    by_cases e : p n = true
    · rw [← sel_put e, ← sel_put e, ← sel_put e]
      refine ih.put (h.get n (by omega)) (fun o ho => ?_)
      unfold Go.WX.sel at ho
      obtain ⟨k, hk, rfl⟩ := List.mem_map.1 ho
      have h1 : k < n := by simpa using (List.mem_filter.1 hk).1
      exact h.pw k n h1 (by rw [h.lo]; omega)
    · have e2 : p n = false := by simpa using e
      rw [← sel_no e2, ← sel_no e2, ← sel_no e2]; exact ih
theorem LoI.sel {b : World} (h : LoI b os) {n : Nat} (hn : n ≤ os.length) : LoI b (Go.WX.sel p none os n) := fun o ho => h o (sel_mem hn o ho)
theorem DI.sel (h : DI os og) {n : Nat} (hn : n ≤ os.length) : DI (Go.WX.sel p none os n) og := fun o ho => h o (sel_mem hn o ho)
end
end Go.WX
