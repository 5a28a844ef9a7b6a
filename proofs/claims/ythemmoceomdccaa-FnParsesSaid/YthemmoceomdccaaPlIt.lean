/- Plain laws on steps; no program. No condition. -/
import Derived.Test.YthemmoceomdccaaPl
namespace Go.WX
open Go
/-- Steps 0 to n - 1. -/
def itN {β : Type} (f : Nat → β → β) : Nat → β → β
  | 0, x => x
  | n + 1, x => f n (itN f n x)
theorem itN_len {α : Type} {f : Nat → List α → List α} (h : ∀ n x, (f n x).length = x.length) : ∀ n x, (itN f n x).length = x.length
  | 0, _ => rfl
  | n + 1, x => by show (f n (itN f n x)).length = _; rw [h, itN_len h n x]
end Go.WX
