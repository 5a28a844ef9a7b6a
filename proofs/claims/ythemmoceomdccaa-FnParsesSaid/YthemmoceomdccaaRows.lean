/-
  No cell of these rows narrows 'for every input' (looked for: loops, veiled, ifaces, maps, wideKeys, modest, calm, conditions, laid).
  DERIVED. THE GIVEN ROWS OF THIS SEAT. 6 by the template 'for every input the law returns true; each argument reads behind the call as it read before'; 0 by the template 'total and deterministic' (their statements: YthemmoceomdccaaTotals.lean).
  GIVEN WITH THE SEED: the statements are not yours to turn. If you find one false, say at which input.
  Laid BY PROGRAM, IN A SANDBOX (cutbox-rows.mjs): the forced cells as the released guide's own fill.sh prints them over the translation 293685b336b22325… (all of the seat's roots in one cut). By AI agents, Wed Nov 11 2026. No macro, syntax, notation, axiom, sorry.
-/
import Derived.Test.YthemmoceomdccaaChecked
import GoSem.Claim
import GoSem.ClaimJoined
import GoSem.ClaimMapViews
import Derived.JoinedTies
import Derived.KernelRfl
namespace Go.Proofs.Ythemmoceomdccaa
/- THE CELL 'sum', in the pinned program and in every row, IS THE sha256 OF THE DUMP (.gsa) THAT YthemmoceomdccaaProg.lean LOADS. Nothing in Lean hashes anything: it is a label: what it is worth is what the hold of that sum in a sandbox is worth. -/
noncomputable def Try.pinned : Pinned := { name := "ythemmoceomdccaa", sum := "293685b336b22325b921b081b1aaea9166094fd315cef9480c36ad6e5e3b3fcd", checked := Try.checked }
namespace Rows
def none {H : Type} : Left H := { results := [], args := [] }

/-- 'laws.FnExactParsesShared': WHATEVER THE INPUT: true; the input reads as it did. -/
def fnExactParsesSharedSpec : ChangeSpec := { name := "fnExactParsesShared", fn := fun _ => fun
  | [d1, d2, d3] => { results := [.lit (.bool true)], args := [d1, d2, d3] }
  | _ => none }
def fnExactParsesSharedRow : OpenClaim := { program := "ythemmoceomdccaa", sum := "293685b336b22325b921b081b1aaea9166094fd315cef9480c36ad6e5e3b3fcd", func := "loop.example/g01357/laws.FnExactParsesShared", spec := "fnExactParsesShared", unfollowed := true, recurses := true, plainKeys := false, apart := false }
def FnExactParsesSharedSaid : Prop := fnExactParsesSharedRow.holds Try.pinned (OpenSpec.ofChange fnExactParsesSharedSpec)

/-- ITS FALSE NEIGHBOUR: 'it returns false'. Refute it at one input. -/
def fnExactParsesSharedWrong : ChangeSpec := { name := "fnExactParsesShared", fn := fun _ => fun
  | [d1, d2, d3] => { results := [.lit (.bool false)], args := [d1, d2, d3] }
  | _ => none }
def FnExactParsesSharedWrongFalsely : Prop := fnExactParsesSharedRow.holds Try.pinned (OpenSpec.ofChange fnExactParsesSharedWrong)

/-- 'laws.FnParses': WHATEVER THE INPUT: true; the input reads as it did. -/
def fnParsesSpec : ChangeSpec := { name := "fnParses", fn := fun _ => fun
  | [d1, d2] => { results := [.lit (.bool true)], args := [d1, d2] }
  | _ => none }
def fnParsesRow : OpenClaim := { program := "ythemmoceomdccaa", sum := "293685b336b22325b921b081b1aaea9166094fd315cef9480c36ad6e5e3b3fcd", func := "loop.example/g01357/laws.FnParses", spec := "fnParses", unfollowed := true, recurses := true, plainKeys := false, apart := false }
def FnParsesSaid : Prop := fnParsesRow.holds Try.pinned (OpenSpec.ofChange fnParsesSpec)

/-- ITS FALSE NEIGHBOUR: 'it returns false'. Refute it at one input. -/
def fnParsesWrong : ChangeSpec := { name := "fnParses", fn := fun _ => fun
  | [d1, d2] => { results := [.lit (.bool false)], args := [d1, d2] }
  | _ => none }
def FnParsesWrongFalsely : Prop := fnParsesRow.holds Try.pinned (OpenSpec.ofChange fnParsesWrong)

/-- 'laws.FnTrees': WHATEVER THE INPUT: true; the input reads as it did. -/
def fnTreesSpec : ChangeSpec := { name := "fnTrees", fn := fun _ => fun
  | [d1, d2] => { results := [.lit (.bool true)], args := [d1, d2] }
  | _ => none }
def fnTreesRow : OpenClaim := { program := "ythemmoceomdccaa", sum := "293685b336b22325b921b081b1aaea9166094fd315cef9480c36ad6e5e3b3fcd", func := "loop.example/g01357/laws.FnTrees", spec := "fnTrees", unfollowed := true, recurses := true, plainKeys := false, apart := false }
def FnTreesSaid : Prop := fnTreesRow.holds Try.pinned (OpenSpec.ofChange fnTreesSpec)

/-- ITS FALSE NEIGHBOUR: 'it returns false'. Refute it at one input. -/
def fnTreesWrong : ChangeSpec := { name := "fnTrees", fn := fun _ => fun
  | [d1, d2] => { results := [.lit (.bool false)], args := [d1, d2] }
  | _ => none }
def FnTreesWrongFalsely : Prop := fnTreesRow.holds Try.pinned (OpenSpec.ofChange fnTreesWrong)

/-- 'laws.FnSides': WHATEVER THE INPUT: true; the input reads as it did. -/
def fnSidesSpec : ChangeSpec := { name := "fnSides", fn := fun _ => fun
  | [d1, d2] => { results := [.lit (.bool true)], args := [d1, d2] }
  | _ => none }
def fnSidesRow : OpenClaim := { program := "ythemmoceomdccaa", sum := "293685b336b22325b921b081b1aaea9166094fd315cef9480c36ad6e5e3b3fcd", func := "loop.example/g01357/laws.FnSides", spec := "fnSides", plainKeys := false, apart := false }
def FnSidesSaid : Prop := fnSidesRow.holds Try.pinned (OpenSpec.ofChange fnSidesSpec)

/-- ITS FALSE NEIGHBOUR: 'it returns false'. Refute it at one input. -/
def fnSidesWrong : ChangeSpec := { name := "fnSides", fn := fun _ => fun
  | [d1, d2] => { results := [.lit (.bool false)], args := [d1, d2] }
  | _ => none }
def FnSidesWrongFalsely : Prop := fnSidesRow.holds Try.pinned (OpenSpec.ofChange fnSidesWrong)

/-- 'laws.FnLettered': WHATEVER THE INPUT: true; the input reads as it did. -/
def fnLetteredSpec : ChangeSpec := { name := "fnLettered", fn := fun _ => fun
  | [d1, d2] => { results := [.lit (.bool true)], args := [d1, d2] }
  | _ => none }
def fnLetteredRow : OpenClaim := { program := "ythemmoceomdccaa", sum := "293685b336b22325b921b081b1aaea9166094fd315cef9480c36ad6e5e3b3fcd", func := "loop.example/g01357/laws.FnLettered", spec := "fnLettered", unfollowed := true, recurses := true, plainKeys := false, apart := false }
def FnLetteredSaid : Prop := fnLetteredRow.holds Try.pinned (OpenSpec.ofChange fnLetteredSpec)

/-- ITS FALSE NEIGHBOUR: 'it returns false'. Refute it at one input. -/
def fnLetteredWrong : ChangeSpec := { name := "fnLettered", fn := fun _ => fun
  | [d1, d2] => { results := [.lit (.bool false)], args := [d1, d2] }
  | _ => none }
def FnLetteredWrongFalsely : Prop := fnLetteredRow.holds Try.pinned (OpenSpec.ofChange fnLetteredWrong)

/-- 'laws.FnSources': WHATEVER THE INPUT: true; the input reads as it did. -/
def fnSourcesSpec : ChangeSpec := { name := "fnSources", fn := fun _ => fun
  | [d1, d2] => { results := [.lit (.bool true)], args := [d1, d2] }
  | _ => none }
def fnSourcesRow : OpenClaim := { program := "ythemmoceomdccaa", sum := "293685b336b22325b921b081b1aaea9166094fd315cef9480c36ad6e5e3b3fcd", func := "loop.example/g01357/laws.FnSources", spec := "fnSources", unfollowed := true, recurses := true, plainKeys := false, apart := false }
def FnSourcesSaid : Prop := fnSourcesRow.holds Try.pinned (OpenSpec.ofChange fnSourcesSpec)

/-- ITS FALSE NEIGHBOUR: 'it returns false'. Refute it at one input. -/
def fnSourcesWrong : ChangeSpec := { name := "fnSources", fn := fun _ => fun
  | [d1, d2] => { results := [.lit (.bool false)], args := [d1, d2] }
  | _ => none }
def FnSourcesWrongFalsely : Prop := fnSourcesRow.holds Try.pinned (OpenSpec.ofChange fnSourcesWrong)

/- THE SECOND FORM. 'bulk': how many values and letters a reading holds, each counted each time it is reached (what is shared counts as often as it is met; a slice's spare places count too). A statement '..UptoSaid' is the law's where the arguments, and the package variables that the reading takes, are together of bulk at most 1048576: NARROWER than '..Said'. Prove '..Said' where nothing that the law and all that it calls make is longer than what came in: it says more and counts as full. Else prove '..UptoSaid'. A law counts once. -/
mutual
def uptoBulk {H : Type} : DataW H → Nat
  | .lit (.string bytes) => bytes.length + 1
  | .lit _ => 1
  | .nil => 1
  | .ptr d => uptoBulk d + 1
  | .slice elems spare => uptoBulkAll elems + uptoBulkAll spare + 1
  | .agg parts => uptoBulkAll parts + 1
  | .iface _ d => uptoBulk d + 1
  | .map entries => uptoBulkEntries entries + 1
  | .held _ => 1
def uptoBulkAll {H : Type} : List (DataW H) → Nat
  | [] => 0
  | d :: r => uptoBulk d + uptoBulkAll r
def uptoBulkEntries {H : Type} : List (Lit × DataW H) → Nat
  | [] => 0
  | x :: r => uptoBulkEntry x + uptoBulkEntries r
def uptoBulkEntry {H : Type} : Lit × DataW H → Nat
  | (.string bytes, d) => bytes.length + uptoBulk d + 1
  | (_, d) => uptoBulk d + 1
 end
def uptoSmall : (H : Type) → List (DataW H) → Bool := fun _ ds => decide (uptoBulkAll ds ≤ 1048576)
def OpenSpec.upto (s : _root_.Go.ChangeSpec) : _root_.Go.OpenSpec := { _root_.Go.OpenSpec.ofChange s with cond := some uptoSmall }

/-- 'laws.FnExactParsesShared', WHERE WHAT IT READS IS OF BULK AT MOST 1048576: true; the input reads as it did. -/
def fnExactParsesSharedUptoRow : OpenClaim := { program := "ythemmoceomdccaa", sum := "293685b336b22325b921b081b1aaea9166094fd315cef9480c36ad6e5e3b3fcd", func := "loop.example/g01357/laws.FnExactParsesShared", spec := "fnExactParsesShared", unfollowed := true, recurses := true, plainKeys := false, apart := false, narrowed := true }
def FnExactParsesSharedUptoSaid : Prop := fnExactParsesSharedUptoRow.holds Try.pinned (OpenSpec.upto fnExactParsesSharedSpec)

/-- 'laws.FnParses', WHERE WHAT IT READS IS OF BULK AT MOST 1048576: true; the input reads as it did. -/
def fnParsesUptoRow : OpenClaim := { program := "ythemmoceomdccaa", sum := "293685b336b22325b921b081b1aaea9166094fd315cef9480c36ad6e5e3b3fcd", func := "loop.example/g01357/laws.FnParses", spec := "fnParses", unfollowed := true, recurses := true, plainKeys := false, apart := false, narrowed := true }
def FnParsesUptoSaid : Prop := fnParsesUptoRow.holds Try.pinned (OpenSpec.upto fnParsesSpec)

/-- 'laws.FnTrees', WHERE WHAT IT READS IS OF BULK AT MOST 1048576: true; the input reads as it did. -/
def fnTreesUptoRow : OpenClaim := { program := "ythemmoceomdccaa", sum := "293685b336b22325b921b081b1aaea9166094fd315cef9480c36ad6e5e3b3fcd", func := "loop.example/g01357/laws.FnTrees", spec := "fnTrees", unfollowed := true, recurses := true, plainKeys := false, apart := false, narrowed := true }
def FnTreesUptoSaid : Prop := fnTreesUptoRow.holds Try.pinned (OpenSpec.upto fnTreesSpec)

/-- 'laws.FnSides', WHERE WHAT IT READS IS OF BULK AT MOST 1048576: true; the input reads as it did. -/
def fnSidesUptoRow : OpenClaim := { program := "ythemmoceomdccaa", sum := "293685b336b22325b921b081b1aaea9166094fd315cef9480c36ad6e5e3b3fcd", func := "loop.example/g01357/laws.FnSides", spec := "fnSides", plainKeys := false, apart := false, narrowed := true }
def FnSidesUptoSaid : Prop := fnSidesUptoRow.holds Try.pinned (OpenSpec.upto fnSidesSpec)

/-- 'laws.FnLettered', WHERE WHAT IT READS IS OF BULK AT MOST 1048576: true; the input reads as it did. -/
def fnLetteredUptoRow : OpenClaim := { program := "ythemmoceomdccaa", sum := "293685b336b22325b921b081b1aaea9166094fd315cef9480c36ad6e5e3b3fcd", func := "loop.example/g01357/laws.FnLettered", spec := "fnLettered", unfollowed := true, recurses := true, plainKeys := false, apart := false, narrowed := true }
def FnLetteredUptoSaid : Prop := fnLetteredUptoRow.holds Try.pinned (OpenSpec.upto fnLetteredSpec)

/-- 'laws.FnSources', WHERE WHAT IT READS IS OF BULK AT MOST 1048576: true; the input reads as it did. -/
def fnSourcesUptoRow : OpenClaim := { program := "ythemmoceomdccaa", sum := "293685b336b22325b921b081b1aaea9166094fd315cef9480c36ad6e5e3b3fcd", func := "loop.example/g01357/laws.FnSources", spec := "fnSources", unfollowed := true, recurses := true, plainKeys := false, apart := false, narrowed := true }
def FnSourcesUptoSaid : Prop := fnSourcesUptoRow.holds Try.pinned (OpenSpec.upto fnSourcesSpec)

end Rows
end Go.Proofs.Ythemmoceomdccaa
