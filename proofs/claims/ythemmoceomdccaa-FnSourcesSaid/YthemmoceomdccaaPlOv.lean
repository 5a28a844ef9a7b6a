/- Plain laws on the words in which two patterns overlap; no program. No condition. -/
import Derived.Test.YthemmoceomdccaaPlSo
namespace Go.WX
open Go

def patL (cs : List C4) (i : Nat) : List Int := (cs.getD i d4).2.1
/-- The most letters that patterns i and j may share. -/
def mostN (cs : List C4) (i j : Nat) : Nat := if i = j then min (patL cs i).length (patL cs j).length - 1 else min (patL cs i).length (patL cs j).length
def ovP (cs : List C4) (i j k : Nat) : Bool := decide ((patL cs i).drop ((patL cs i).length - k) = (patL cs j).take k)
def ov3 (cs : List C4) (i j n : Nat) : List (Nat × Nat × Nat) := ((List.range n).filter (fun k => ovP cs i j (k + 1))).map (fun k => (i, j, k + 1))
def ov2 (cs : List C4) (i n : Nat) : List (Nat × Nat × Nat) := (List.range n).flatMap (fun j => ov3 cs i j (mostN cs i j))
def ov1 (cs : List C4) (n : Nat) : List (Nat × Nat × Nat) := (List.range n).flatMap (fun i => ov2 cs i cs.length)
/-- What was found on the way: i patterns done, j others done with pattern i, n shares tried. -/
def ovQ (cs : List C4) (i j n : Nat) : List (Nat × Nat × Nat) := ov1 cs i ++ ov2 cs i j ++ ov3 cs i j n
def ovW (cs : List C4) (t : Nat × Nat × Nat) : List Int := patL cs t.1 ++ (patL cs t.2.1).drop t.2.2
section
variable {cs : List C4} {i j n : Nat}
theorem ov_zero (cs : List C4) : [] = ov1 cs 0 := rfl
theorem ovQ_zero2 (cs : List C4) (i : Nat) : ov1 cs i = ov1 cs i ++ ov2 cs i 0 := by simp [ov2]
theorem ovQ_zero3 (cs : List C4) (i j : Nat) : ov1 cs i ++ ov2 cs i j = ovQ cs i j 0 := by simp [ovQ, ov3]
theorem ov3_put (h : ovP cs i j (n + 1) = true) : ov3 cs i j n ++ [(i, j, n + 1)] = ov3 cs i j (n + 1) := by
  unfold ov3; rw [List.range_succ, List.filter_append, List.map_append]; simp [h]
theorem ov3_no (h : ovP cs i j (n + 1) = false) : ov3 cs i j n = ov3 cs i j (n + 1) := by
  unfold ov3; rw [List.range_succ, List.filter_append, List.map_append]; simp [h]
theorem ovQ_put (h : ovP cs i j (n + 1) = true) : ovQ cs i j n ++ [(i, j, n + 1)] = ovQ cs i j (n + 1) := by
  unfold ovQ; rw [← ov3_put h]; simp [List.append_assoc]
theorem ovQ_no (h : ovP cs i j (n + 1) = false) : ovQ cs i j n = ovQ cs i j (n + 1) := by
  unfold ovQ; rw [← ov3_no h]
theorem ovQ_next (h : n = mostN cs i j) : ovQ cs i j n = ov1 cs i ++ ov2 cs i (j + 1) := by
  subst h; unfold ovQ ov2; rw [List.range_succ, List.flatMap_append]; simp [List.append_assoc]
theorem ov1_next (h : j = cs.length) : ov1 cs i ++ ov2 cs i j = ov1 cs (i + 1) := by
  subst h; unfold ov1; rw [List.range_succ, List.flatMap_append]; simp
theorem ov3_len (cs : List C4) (i j n : Nat) : (ov3 cs i j n).length ≤ n := by
  unfold ov3; rw [List.length_map]; exact Nat.le_trans (List.length_filter_le _ _) (by simp)
theorem mostN_le (h : (patL cs i).length ≤ 4) : mostN cs i j ≤ 4 := by unfold mostN; split <;> omega
theorem ov2_len (hp : (patL cs i).length ≤ 4) : ∀ n, (ov2 cs i n).length ≤ 4 * n
  | 0 => by simp [ov2]
  | n + 1 => by
    have ih := ov2_len hp n
    have h1 := ov3_len cs i n (mostN cs i n); have h2 := mostN_le (cs := cs) (j := n) hp
    unfold ov2 at *; rw [List.range_succ, List.flatMap_append, List.length_append]; simp only [List.flatMap_cons, List.flatMap_nil, List.append_nil]; omega
theorem ov1_len (h8 : cs.length ≤ 8) (hp : ∀ i, (patL cs i).length ≤ 4) : ∀ n, (ov1 cs n).length ≤ 32 * n
  | 0 => by simp [ov1]
  | n + 1 => by
    have ih := ov1_len h8 hp n
    have h1 := ov2_len (cs := cs) (hp n) cs.length
    unfold ov1 at *; rw [List.range_succ, List.flatMap_append, List.length_append]; simp only [List.flatMap_cons, List.flatMap_nil, List.append_nil]; omega
theorem ovQ_len (h8 : cs.length ≤ 8) (hp : ∀ i, (patL cs i).length ≤ 4) (hi : i ≤ 8) (hj : j ≤ 8) (hn : n ≤ 4) : (ovQ cs i j n).length ≤ 300 := by
  have h1 := ov1_len h8 hp i; have h2 := ov2_len (cs := cs) (hp i) j; have h3 := ov3_len cs i j n
  unfold ovQ; simp only [List.length_append]; omega
theorem ovW_len (hp : ∀ i, (patL cs i).length ≤ 4) (t : Nat × Nat × Nat) : (ovW cs t).length ≤ 8 := by
  unfold ovW; have h1 := hp t.1; have h2 := hp t.2.1; simp only [List.length_append, List.length_drop]; omega
/-- A place to see a word at is a share. -/
theorem ovP_there {k : Nat} (hk : k ≤ (patL cs i).length) (hk2 : k ≤ (patL cs j).length) : thereB (patL cs i) ((patL cs j).take k) (((patL cs i).length : Int) - k) = ovP cs i j k := by
  have e3 : ((patL cs j).take k).length = k := by simp; omega
  rw [← there_e (by omega) (by rw [e3]; omega), e3, show (((patL cs i).length : Int) - k).toNat = (patL cs i).length - k from by omega, show (((patL cs i).length : Int) - k + (k : Nat)).toNat = (patL cs i).length from by omega, List.take_of_length_le (Nat.le_refl _)]
  rfl
end
end Go.WX
