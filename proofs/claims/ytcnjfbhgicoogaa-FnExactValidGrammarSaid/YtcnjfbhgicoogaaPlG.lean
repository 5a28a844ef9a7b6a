/- Plain laws on grammars; no program. No condition. -/
import Derived.Test.YtcnjfbhgicoogaaPlA
import Derived.Test.YtcnjfbhgicoogaaLibL
namespace Go.WX
open Go
def okR (n l : Int) (r : R4) : Prop := (0 ≤ r.1 ∧ r.1 ≤ n - 1) ∧ (-1 ≤ r.2.2.1 ∧ r.2.2.1 ≤ n - 1) ∧ (0 ≤ r.2.2.2 ∧ r.2.2.2 ≤ 1000) ∧ (r.2.2.1 = -1 → 0 ≤ r.2.1 ∧ r.2.1 ≤ l - 1) ∧ (r.2.2.1 ≠ -1 → 0 ≤ r.2.1 ∧ r.2.1 ≤ n - 1)
def gramV (n l : Int) (rs : List R4) : Prop := (1 ≤ n ∧ n ≤ 8) ∧ (1 ≤ l ∧ l ≤ 4) ∧ (rs.length : Int) ≤ 32 ∧ ∀ i : Nat, i < rs.length → okR n l (rs.getD i (0, 0, 0, 0))
noncomputable instance (n l : Int) (rs : List R4) : Decidable (gramV n l rs) := Classical.propDecidable _
end Go.WX
