/- Small laws for a walk's ends. No condition. -/
import Derived.Test.YthemmoceomdccaaLibE
namespace Go.WX
open Go

theorem bT {p : Prop} [Decidable p] (h : p) : Value.bool true = .bool (decide p) := by simp [h]
theorem bF {p : Prop} [Decidable p] (h : ¬ p) : Value.bool false = .bool (decide p) := by simp [h]
theorem bD {p q : Prop} [Decidable p] [Decidable q] (h : p ↔ q) : Value.bool (decide p) = .bool (decide q) := by simp [h]
theorem bE {b c : Bool} (h : b = c) : Value.bool b = .bool c := by rw [h]
theorem iE {k : IntKind} {a b : Int} (h : a = b) : Value.int k a = .int k b := by rw [h]
theorem tE2 {a b c d : Value} (h : a = c) (h2 : b = d) : Value.tuple #[a, b] = .tuple #[c, d] := by rw [h, h2]
theorem tE3 {a b c d e f : Value} (h : a = d) (h2 : b = e) (h3 : c = f) : Value.tuple #[a, b, c] = .tuple #[d, e, f] := by rw [h, h2, h3]
/-- One step of a list that is taken from the front. -/
theorem take_succ {α : Type} {l : List α} {k : Nat} (h : k < l.length) (d : α) : l.take (k + 1) = l.take k ++ [l.getD k d] := by
  rw [List.take_succ_eq_append_getElem h, List.getD_eq_getElem?_getD]; simp [h]
theorem drop_cons {α : Type} {l : List α} {k : Nat} (h : k < l.length) (d : α) : l.drop k = l.getD k d :: l.drop (k + 1) := by
  rw [List.drop_eq_getElem_cons h, List.getD_eq_getElem?_getD]; simp [h]
theorem all_take_succ {α : Type} {l : List α} {k : Nat} (p : α → Bool) (h : k < l.length) (d : α) : (l.take (k + 1)).all p = ((l.take k).all p && p (l.getD k d)) := by
  rw [take_succ h d]; simp
theorem all_of_take {α : Type} {l : List α} {k : Nat} {p : α → Bool} (h : k < l.length) (d : α) (hp : p (l.getD k d) = false) : l.all p = false := by
  rw [List.all_eq_false]
  refine ⟨l[k], List.getElem_mem _, ?_⟩
  have : l.getD k d = l[k] := by simp [h]
  rw [← this, hp]; simp
end Go.WX
