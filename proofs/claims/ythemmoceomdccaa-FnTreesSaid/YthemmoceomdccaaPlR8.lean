/- Plain laws on what a law draws from its input: numbers, lists backwards, trees. No condition. -/
import Derived.Test.YthemmoceomdccaaPlDq
import Derived.Test.YthemmoceomdccaaLibE
import Derived.Test.YthemmoceomdccaaPlFy
namespace Go.WX
open Go
def at8 (xs : List Int) (i : Nat) (n : Int) : Int := if i < xs.length then (xs.getD i 0).tmod n else 0
theorem at8_rng {xs : List Int} {i : Nat} {n : Int} (h : ∀ x ∈ xs, 0 ≤ x ∧ x ≤ 255) (hn : 0 < n) : 0 ≤ at8 xs i n ∧ at8 xs i n ≤ n - 1 := by
  unfold at8; split
  · rename_i hi; exact remN (getD_P h hi).1 hn
  · omega
theorem rev_put {xs : List Int} {k : Nat} (h : k < xs.length) : xs.reverse.take k ++ [xs.getD (xs.length - 1 - k) 0] = xs.reverse.take (k + 1) := by
  rw [List.take_add_one, List.getElem?_reverse h, List.getD_eq_getElem?_getD, List.getElem?_eq_getElem (show xs.length - 1 - k < xs.length by omega)]; simp
theorem dr_in {xs : List Int} {x lo hi : Int} (h : ∀ y ∈ xs, lo ≤ y ∧ y ≤ hi) (hx : lo ≤ x ∧ x ≤ hi) : ∀ y ∈ xs ++ [x], lo ≤ y ∧ y ≤ hi := fun y hy => by
  rcases List.mem_append.1 hy with hy | hy
  · exact h y hy
  · rw [List.mem_singleton] at hy; subst hy; exact hx
theorem half {m : Int} (h : 0 ≤ m) : m.tdiv 2 = m / 2 := Int.tdiv_eq_ediv_of_nonneg h
theorem flt_le {t : Tre} {n : Int} (h : ((lvT t).length : Int) ≤ n) : ((flatT t).length : Int) ≤ 2 * n - 1 := by
  have := flt_len t; omega
theorem Calls.ret {P : Program} {f : FuncId} {args : Array Value} {w : World} {R R' : Value → World → Prop} (h : Calls P f args w (Ret1 R)) (k : ∀ v w', R v w' → R' v w') : Calls P f args w (Ret1 R') :=
  Go.Calls.mono h (fun e w' he => by
    unfold Ret1 at he ⊢
    split at he
    · exact k _ _ he
    · exact he)
theorem shp_int {n : Int} (h : 1 ≤ n ∧ n ≤ 6) (l : Nat) : ([1, 1, 2, 5, 14, 42] : List Int).getD (n - 1).toNat 0 = ((shpN n.toNat * l ^ 0 : Nat) : Int) := by
  obtain ⟨m, rfl⟩ : ∃ m : Nat, n = (m : Int) := ⟨n.toNat, by omega⟩
  have key : ∀ k : Fin 7, 1 ≤ k.val → ([1, 1, 2, 5, 14, 42] : List Int).getD (k.val - 1) 0 = ((shpN k.val : Nat) : Int) := by decide +kernel
  have h1 := key ⟨m, by omega⟩ (by show 1 ≤ m; omega)
  rw [show ((m : Int) - 1).toNat = m - 1 by omega, Int.toNat_natCast, Nat.pow_zero, Nat.mul_one]
  exact h1
theorem pw_step {c l k : Nat} {L : Int} (h : (l : Int) = L) : ((c * l ^ k : Nat) : Int) * L = ((c * l ^ (k + 1) : Nat) : Int) := by
  subst h; rw [Nat.pow_succ, ← Nat.mul_assoc]; push_cast; rfl
theorem pw_le {n l k : Nat} (hn : n ≤ 6) (hl : l ≤ 3) (hk : k ≤ 6) : shpN n * l ^ k ≤ 1000000 := by
  have key : ∀ n : Fin 7, ∀ l : Fin 4, ∀ k : Fin 7, shpN n.val * l.val ^ k.val ≤ 1000000 := by decide +kernel
  exact key ⟨n, by omega⟩ ⟨l, by omega⟩ ⟨k, by omega⟩
theorem ct_rng {a0 L : Int} {lf nx : List Int} {en : List Bool} (t : TV a0 L lf nx) (hL : 1 ≤ L ∧ L ≤ 3) {n : Nat} (hn : 1 ≤ n ∧ n ≤ 6) : 0 ≤ ctI true a0 lf nx en (n : Int) ∧ ctI true a0 lf nx en (n : Int) ≤ 1000000 := by
  rw [ct_count t (by omega) (all_le hL hn)]
  have hc := List.countP_le_length (p := fun T => en.getD (stT a0 lf nx T).toNat false) (l := (tabT L (n - 1)).getD n [])
  have := all_le hL hn
  omega
theorem not_get {en : List Bool} {i : Nat} (h : i < en.length) : (en.map not).getD i false = !en.getD i false := by
  simp [List.getD_eq_getElem?_getD, h]
end Go.WX
