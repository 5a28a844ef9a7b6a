/- Plain laws on what a law draws from its input: numbers, lists backwards. No condition. -/
import Derived.Test.YthemmoceomdccaaPlDq
import Derived.Test.YthemmoceomdccaaLibE
namespace Go.WX
open Go
def at8 (xs : List Int) (i : Nat) (n : Int) : Int := if i < xs.length then (xs.getD i 0).tmod n else 0
theorem at8_rng {xs : List Int} {i : Nat} {n : Int} (h : ∀ x ∈ xs, 0 ≤ x ∧ x ≤ 255) (hn : 0 < n) : 0 ≤ at8 xs i n ∧ at8 xs i n ≤ n - 1 := by
  unfold at8; split
  · rename_i hi; exact remN (getD_P h hi).1 hn
  · omega
theorem rev_put {xs : List Int} {k : Nat} (h : k < xs.length) : xs.reverse.take k ++ [xs.getD (xs.length - 1 - k) 0] = xs.reverse.take (k + 1) := by
  rw [List.take_add_one, List.getElem?_reverse h, List.getD_eq_getElem?_getD, List.getElem?_eq_getElem (show xs.length - 1 - k < xs.length by omega)]; simp
theorem dr_in {xs : List Int} {x lo hi : Int} (h : ∀ y ∈ xs, lo ≤ y ∧ y ≤ hi) (hx : lo ≤ x ∧ x ≤ hi) : ∀ y ∈ xs ++ [x], lo ≤ y ∧ y ≤ hi := fun y hy => by
  rcases List.mem_append.1 hy with hy | hy
  · exact h y hy
  · rw [List.mem_singleton] at hy; subst hy; exact hx
theorem half {m : Int} (h : 0 ≤ m) : m.tdiv 2 = m / 2 := Int.tdiv_eq_ediv_of_nonneg h
theorem Calls.ret {P : Program} {f : FuncId} {args : Array Value} {w : World} {R R' : Value → World → Prop} (h : Calls P f args w (Ret1 R)) (k : ∀ v w', R v w' → R' v w') : Calls P f args w (Ret1 R') :=
  Go.Calls.mono h (fun e w' he => by
    unfold Ret1 at he ⊢
    split at he
    · exact k _ _ he
    · exact he)
end Go.WX
