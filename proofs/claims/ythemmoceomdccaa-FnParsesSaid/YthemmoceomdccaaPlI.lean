/- Plain laws on all words of a length; no program. No condition. -/
import Derived.Test.YthemmoceomdccaaPlA
namespace Go.WX
open Go

def growOne (L : Int) (w : List Int) : List (List Int) := (List.range L.toNat).map fun q : Nat => w ++ [(q : Int)]
def growW (L : Int) (xss : List (List Int)) : List (List Int) := xss.flatMap (growOne L)
def wordsL (L : Int) : Nat → List (List Int)
  | 0 => [[]]
  | n + 1 => growW L (wordsL L n)
/-- k words are grown, and l letters are behind the next. -/
def gP (L : Int) (xss : List (List Int)) (k l : Nat) : List (List Int) := (xss.take k).flatMap (growOne L) ++ (List.range l).map fun q : Nat => xss.getD k [] ++ [(q : Int)]
section
variable {L : Int} {xss : List (List Int)} {k l n : Nat}
theorem gP_zero (L : Int) (xss : List (List Int)) : ([] : List (List Int)) = gP L xss 0 0 := by simp [gP]
theorem gP_put : gP L xss k l ++ [xss.getD k [] ++ [(l : Int)]] = gP L xss k (l + 1) := by simp [gP, List.range_succ]
theorem gP_next (hk : k < xss.length) : gP L xss k L.toNat = gP L xss (k + 1) 0 := by
  unfold gP
  rw [take_succ hk ([] : List Int), List.flatMap_append]
  simp [growOne]
theorem gP_done (hk : xss.length ≤ k) : gP L xss k 0 = growW L xss := by
  unfold gP growW; rw [List.take_of_length_le hk]; simp
theorem growOne_len (L : Int) (w : List Int) : (growOne L w).length = L.toNat := by simp [growOne]
theorem growW_len : ∀ (xss : List (List Int)), (growW L xss).length = xss.length * L.toNat
  | [] => by simp [growW]
  | w :: r => by
    have := growW_len r
    unfold growW at this ⊢
    rw [List.flatMap_cons, List.length_append, this, growOne_len, List.length_cons, Nat.add_mul]; omega
theorem gP_len (hk : k ≤ xss.length) (hl : l ≤ L.toNat) (hL : L ≤ 4) : (gP L xss k l).length ≤ 4 * k + l := by
  have h1 := growW_len (L := L) (xss.take k)
  unfold growW at h1
  have h2 : k * L.toNat ≤ k * 4 := Nat.mul_le_mul_left k (by omega)
  unfold gP
  rw [List.length_append, h1, List.length_take, Nat.min_eq_left hk, List.length_map, List.length_range]; omega
theorem wordsL_len (hL : L ≤ 4) : ∀ n, (wordsL L n).length ≤ 4 ^ n
  | 0 => by simp [wordsL]
  | n + 1 => by
    have := wordsL_len hL n
    unfold wordsL; rw [growW_len, Nat.pow_succ]
    exact Nat.mul_le_mul this (by omega)
theorem wordsL_256 (hL : L ≤ 4) (hn : n ≤ 4) : (wordsL L n).length ≤ 256 := Nat.le_trans (wordsL_len hL n) (Nat.pow_le_pow_right (by omega) hn)
theorem wordsL_1024 (hL : L ≤ 4) (hn : n ≤ 5) : (wordsL L n).length ≤ 1024 := Nat.le_trans (wordsL_len hL n) (Nat.pow_le_pow_right (by omega) hn)
theorem wordsL_each : ∀ n, ∀ x ∈ wordsL L n, x.length = n
  | 0, x, h => by simp [wordsL] at h; simp [h]
  | n + 1, x, h => by
    unfold wordsL growW at h
    obtain ⟨w, hw, hx⟩ := List.mem_flatMap.1 h
    unfold growOne at hx
    obtain ⟨q, _, rfl⟩ := List.mem_map.1 hx
    simp [wordsL_each n w hw]
theorem wordsL_get (hk : k < (wordsL L n).length) : ((wordsL L n).getD k []).length = n := by
  have e : (wordsL L n).getD k [] = (wordsL L n)[k] := by simp [List.getD_eq_getElem?_getD, hk]
  rw [e]; exact wordsL_each n _ (List.getElem_mem hk)
theorem wordsL_get' {m : Nat} (hk : k < (wordsL L n).length) (hn : n ≤ m) : ((wordsL L n).getD k []).length ≤ m := by rw [wordsL_get hk]; exact hn
end
end Go.WX
