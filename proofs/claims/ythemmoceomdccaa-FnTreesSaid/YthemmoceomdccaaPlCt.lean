/- Plain laws on counting the trees that a machine reads; no program. No condition. -/
import Derived.Test.YthemmoceomdccaaPlM
namespace Go.WX
open Go

def bmp (r : List Int) (c : Nat) (v : Int) : List Int := r.set c (IntKind.i64.wrap (r.getD c 0 + v))
theorem bmp_len (r : List Int) (c : Nat) (v : Int) : (bmp r c v).length = r.length := by simp [bmp]
def zr (S : Nat) : List Int := List.replicate S 0
theorem zr_len (S : Nat) : (zr S).length = S := by simp [zr]
def r1 (S : Nat) (lf : List Int) (k : Nat) : List Int := (lf.take k).foldl (fun r c => bmp r c.toNat 1) (zr S)
def inB (nx : List Int) (a0 : Int) (p q : List Int) (a : Nat) (r : List Int) (b : Nat) : List Int := (List.range b).foldl (fun (r : List Int) (b' : Nat) => bmp r (nx.getD ((a : Int) * a0 + (b' : Int)).toNat 0).toNat (IntKind.i64.wrap (p.getD a 0 * q.getD b' 0))) r
def inA (nx : List Int) (a0 : Int) (p q r : List Int) (a : Nat) : List Int := (List.range a).foldl (fun (r : List Int) (a' : Nat) => inB nx a0 p q a' r a0.toNat) r
def inL (nx : List Int) (a0 : Int) (T : List (List Int)) (m : Nat) (r : List Int) (l : Nat) : List Int := (List.range l).foldl (fun (r : List Int) (l' : Nat) => inA nx a0 (T.getD (l' + 1) []) (T.getD (m - (l' + 1)) []) r a0.toNat) r
def rowC (nx : List Int) (a0 : Int) (T : List (List Int)) (m : Nat) : List Int := inL nx a0 T m (zr a0.toNat) (m - 1)
def tabC (a0 : Int) (lf nx : List Int) : Nat → List (List Int)
  | 0 => [zr a0.toNat] ++ [r1 a0.toNat lf lf.length]
  | k + 1 => tabC a0 lf nx k ++ [rowC nx a0 (tabC a0 lf nx k) (k + 2)]
section
variable {S m l a b k : Nat} {lf nx p q r : List Int} {a0 : Int} {T : List (List Int)}
theorem fold_len {α : Type} (f : List Int → α → List Int) (hf : ∀ r x, (f r x).length = r.length) : ∀ (l : List α) (r : List Int), (l.foldl f r).length = r.length
  | [], _ => rfl
  | x :: t, r => by rw [List.foldl_cons, fold_len f hf t, hf]
theorem r1_len : (r1 S lf k).length = S := by unfold r1; rw [fold_len _ (fun r c => bmp_len _ _ _), zr_len]
theorem inB_len : (inB nx a0 p q a r b).length = r.length := fold_len _ (fun r c => bmp_len _ _ _) _ _
theorem inA_len : (inA nx a0 p q r a).length = r.length := fold_len _ (fun r c => inB_len) _ _
theorem inL_len : (inL nx a0 T m r l).length = r.length := fold_len _ (fun r c => inA_len) _ _
theorem rowC_len : (rowC nx a0 T m).length = a0.toNat := by unfold rowC; rw [inL_len, zr_len]
theorem r1_zero (S : Nat) (lf : List Int) : zr S = r1 S lf 0 := rfl
theorem r1_succ (hk : k < lf.length) : bmp (r1 S lf k) (lf.getD k 0).toNat 1 = r1 S lf (k + 1) := by unfold r1; rw [take_succ hk (0 : Int), List.foldl_append]; rfl
theorem inB_zero : r = inB nx a0 p q a r 0 := rfl
theorem inB_succ : bmp (inB nx a0 p q a r b) (nx.getD ((a : Int) * a0 + (b : Int)).toNat 0).toNat (IntKind.i64.wrap (p.getD a 0 * q.getD b 0)) = inB nx a0 p q a r (b + 1) := by unfold inB; rw [List.range_succ, List.foldl_append]; rfl
theorem inA_zero : r = inA nx a0 p q r 0 := rfl
theorem inA_succ : inB nx a0 p q a (inA nx a0 p q r a) a0.toNat = inA nx a0 p q r (a + 1) := by unfold inA; rw [List.range_succ, List.foldl_append]; rfl
theorem inL_zero : r = inL nx a0 T m r 0 := rfl
theorem inL_succ : inA nx a0 (T.getD (l + 1) []) (T.getD (m - (l + 1)) []) (inL nx a0 T m r l) a0.toNat = inL nx a0 T m r (l + 1) := by unfold inL; rw [List.range_succ, List.foldl_append]; rfl
theorem tabC_len : ∀ k, (tabC a0 lf nx k).length = k + 2
  | 0 => rfl
  | k + 1 => by rw [tabC, List.length_append, tabC_len k]; rfl
theorem tabC_row : ∀ k, ∀ r ∈ tabC a0 lf nx k, r.length = a0.toNat
  | 0, r, h => by
    simp only [tabC, List.cons_append, List.nil_append, List.mem_cons, List.not_mem_nil, or_false] at h
    rcases h with rfl | rfl
    · exact zr_len _
    · exact r1_len
  | k + 1, r, h => by
    rw [tabC] at h
    rcases List.mem_append.1 h with h | h
    · exact tabC_row k r h
    · rw [List.mem_singleton] at h; rw [h]; exact rowC_len
theorem getD_mem' {α : Type} {l : List α} {j : Nat} {d : α} (h : j < l.length) : l.getD j d ∈ l := by simp [List.getD_eq_getElem?_getD, h]
theorem tabC_get (h : l < k + 2) : ((tabC a0 lf nx k).getD l []).length = a0.toNat := tabC_row k _ (getD_mem' (by rw [tabC_len]; exact h))
theorem tabC_last : inL nx a0 (tabC a0 lf nx k) (k + 2) (zr a0.toNat) (k + 1) = rowC nx a0 (tabC a0 lf nx k) (k + 2) := rfl
end
/-- The flat table holds the rows, sixteen numbers a row. -/
def Rp (ys : List Int) (R : List (List Int)) : Prop := ys.length = 144 ∧ ∀ l s : Nat, l < 9 → s < 16 → ys.getD (l * 16 + s) 0 = (R.getD l []).getD s 0
section
variable {ys r : List Int} {R T : List (List Int)} {l s m c S : Nat} {v : Int}
theorem zr_get : (zr S).getD s 0 = 0 := by
  by_cases h : s < S <;> simp [zr, List.getD_eq_getElem?_getD, List.getElem?_replicate, h]
theorem Rp.get (h : Rp ys R) (hl : l < 9) (hs : s < 16) : ys.getD (l * 16 + s) 0 = (R.getD l []).getD s 0 := h.2 l s hl hs
theorem Rp.zero (S : Nat) : Rp (List.replicate 144 0) ([zr S] ++ [zr S]) := by
  refine ⟨by simp, fun l s _ _ => ?_⟩
  have e : (List.replicate 144 (0 : Int)).getD (l * 16 + s) 0 = 0 := zr_get (S := 144)
  rw [e]
  match l with
  | 0 => exact zr_get.symm
  | 1 => exact zr_get.symm
  | l + 2 => simp
theorem Rp.grow (h : Rp ys T) (S : Nat) : Rp ys (T ++ [zr S]) := by
  refine ⟨h.1, fun l s hl hs => ?_⟩
  rw [h.2 l s hl hs]
  by_cases e : l < T.length
  · simp [List.getD_eq_getElem?_getD, List.getElem?_append_left e]
  · have e1 : T.getD l [] = [] := by simp [List.getD_eq_getElem?_getD, show T.length ≤ l from by omega]
    rw [e1]
    by_cases e2 : l = T.length
    · subst e2
      have e3 : (T ++ [zr S]).getD T.length [] = zr S := by simp [List.getD_eq_getElem?_getD]
      rw [e3, zr_get]; rfl
    · have e3 : (T ++ [zr S]).getD l [] = [] := by
        rw [List.getD_eq_getElem?_getD, List.getElem?_eq_none (by simp; omega)]; rfl
      rw [e3]
theorem Rp.row (h : Rp ys (T ++ [r])) (hm : m = T.length) (hm9 : m < 9) (hc : c < r.length) (hc16 : c < 16) : Rp (ys.set (m * 16 + c) v) (T ++ [r.set c v]) := by
  refine ⟨by rw [List.length_set]; exact h.1, fun l s hl hs => ?_⟩
  have h1 := h.2 l s hl hs
  by_cases e : l = m
  · subst e
    have e3 : ∀ u : List Int, (T ++ [u]).getD l [] = u := fun u => by subst hm; simp [List.getD_eq_getElem?_getD]
    rw [e3] at h1 ⊢
    by_cases e4 : s = c
    · subst e4
      have hn := h.1
      rw [List.getD_eq_getElem?_getD, List.getElem?_set, if_pos rfl, if_pos (by omega), List.getD_eq_getElem?_getD, List.getElem?_set, if_pos rfl, if_pos hc]
    · rw [List.getD_eq_getElem?_getD, List.getElem?_set, if_neg (by omega), ← List.getD_eq_getElem?_getD, h1, List.getD_eq_getElem?_getD, List.getD_eq_getElem?_getD, List.getElem?_set, if_neg (by omega)]
  · rw [List.getD_eq_getElem?_getD, List.getElem?_set, if_neg (by omega), ← List.getD_eq_getElem?_getD, h1]
    have e5 : (T ++ [r]).getD l [] = (T ++ [r.set c v]).getD l [] := by
      by_cases e6 : l < T.length
      · simp [List.getD_eq_getElem?_getD, List.getElem?_append_left e6]
      · rw [List.getD_eq_getElem?_getD, List.getD_eq_getElem?_getD, List.getElem?_eq_none (by simp; omega), List.getElem?_eq_none (by simp; omega)]
    rw [e5]
/-- One more is counted, both ways. -/
theorem Rp.bmp (h : Rp ys (T ++ [r])) (hm : m = T.length) (hm9 : m < 9) (hc : c < r.length) (hc16 : c < 16) : Rp (ys.set (m * 16 + c) (IntKind.i64.wrap (ys.getD (m * 16 + c) 0 + v))) (T ++ [bmp r c v]) := by
  have e : ys.getD (m * 16 + c) 0 = r.getD c 0 := by
    rw [h.get hm9 hc16]; subst hm; simp [List.getD_eq_getElem?_getD]
  rw [e]; exact h.row hm hm9 hc hc16
theorem Rp.old (h : Rp ys (T ++ [r])) (hl : l < T.length) (hl9 : l < 9) (hs : s < 16) : ys.getD (l * 16 + s) 0 = (T.getD l []).getD s 0 := by
  rw [h.get hl9 hs]; simp [List.getD_eq_getElem?_getD, List.getElem?_append_left hl]
end
/-- What is read at the end. -/
def sumE (en : List Bool) (row : List Int) (k : Nat) : Int := (List.range k).foldl (fun (n : Int) (i : Nat) => if en.getD i false = true then IntKind.i64.wrap (n + row.getD i 0) else n) 0
theorem sumE_yes {en : List Bool} {row : List Int} {k : Nat} (h : en.getD k false = true) : IntKind.i64.wrap (sumE en row k + row.getD k 0) = sumE en row (k + 1) := by
  unfold sumE; rw [List.range_succ, List.foldl_append]; simp only [List.foldl_cons, List.foldl_nil]; rw [if_pos h]
theorem sumE_no {en : List Bool} {row : List Int} {k : Nat} (h : en.getD k false = false) : sumE en row k = sumE en row (k + 1) := by
  unfold sumE; rw [List.range_succ, List.foldl_append]; simp only [List.foldl_cons, List.foldl_nil]; rw [if_neg (by rw [h]; decide)]
def ctB (ok : Bool) (n : Int) : Bool := ok && decide (1 ≤ n ∧ n ≤ 8)
def ctI (ok : Bool) (a0 : Int) (lf nx : List Int) (en : List Bool) (n : Int) : Int := if ctB ok n = true then sumE en ((tabC a0 lf nx (n - 1).toNat).getD n.toNat []) a0.toNat else 0
end Go.WX
namespace Go.WX
open Go
section
variable {ok : Bool} {a0 n : Int} {lf nx : List Int} {en : List Bool}
theorem ct_n1b (h : ¬ ok = true) : ctB ok n = false := by simp [ctB, h]
theorem ct_n2b (h : ¬ (1 ≤ n ∧ n ≤ 8)) : ctB ok n = false := by simp only [ctB, decide_eq_false h, Bool.and_false]
theorem ct_yb (h : ok = true) (h2 : 1 ≤ n ∧ n ≤ 8) : ctB ok n = true := by rw [ctB, h, decide_eq_true h2]; rfl
theorem ct_n1 (h : ¬ ok = true) : ctI ok a0 lf nx en n = 0 := by rw [ctI, ct_n1b h]; rfl
theorem ct_n2 (h : ¬ (1 ≤ n ∧ n ≤ 8)) : ctI ok a0 lf nx en n = 0 := by rw [ctI, ct_n2b h]; rfl
theorem ct_y {j k : Nat} (h : ok = true) (h2 : 1 ≤ n ∧ n ≤ 8) (hj : n = (j : Int) + 1) (hk : (k : Int) = a0) : ctI ok a0 lf nx en n = sumE en ((tabC a0 lf nx j).getD n.toNat []) k := by
  rw [ctI, if_pos (ct_yb h h2), show (n - 1).toNat = j from by omega, show a0.toNat = k from by omega]
end
end Go.WX
