/-
  No cell of these rows narrows 'for every input' (looked for: loops, veiled, ifaces, maps, wideKeys, modest, calm, conditions, laid).
  DERIVED. THE GIVEN ROWS OF THIS SEAT. 12 by the template 'for every input the law returns true; each argument reads behind the call as it read before'; 0 by the template 'total and deterministic' (their statements: YtfnmkcncofjjkaaTotals.lean).
  GIVEN WITH THE SEED: the statements are not yours to turn. If you find one false, say at which input.
  Laid BY PROGRAM, IN A SANDBOX (cutbox-rows.mjs): the forced cells as the released guide's own fill.sh prints them over the translation 98815e0833642a72… (all of the seat's roots in one cut). By AI agents, Wed Nov 11 2026. No macro, syntax, notation, axiom, sorry.
-/
import Derived.Test.YtfnmkcncofjjkaaChecked
import GoSem.Claim
import GoSem.ClaimJoined
import GoSem.ClaimMapViews
import Derived.JoinedTies
import Derived.KernelRfl
namespace Go.Proofs.Ytfnmkcncofjjkaa
/- THE CELL 'sum', in the pinned program and in every row, IS THE sha256 OF THE DUMP (.gsa) THAT YtfnmkcncofjjkaaProg.lean LOADS. Nothing in Lean hashes anything: it is a label: what it is worth is what the hold of that sum in a sandbox is worth. -/
noncomputable def Try.pinned : Pinned := { name := "ytfnmkcncofjjkaa", sum := "98815e0833642a72794a6cd9e526db4601dbed49923f04000fe87448d96925fe", checked := Try.checked }
namespace Rows
def none {H : Type} : Left H := { results := [], args := [] }

/-- 'laws.FnExactDeepOfTree': WHATEVER THE INPUT: true; the input reads as it did. -/
def fnExactDeepOfTreeSpec : ChangeSpec := { name := "fnExactDeepOfTree", fn := fun _ => fun
  | [d] => { results := [.lit (.bool true)], args := [d] }
  | _ => none }
def fnExactDeepOfTreeRow : OpenClaim := { program := "ytfnmkcncofjjkaa", sum := "98815e0833642a72794a6cd9e526db4601dbed49923f04000fe87448d96925fe", func := "loop.example/g01357/laws.FnExactDeepOfTree", spec := "fnExactDeepOfTree", unfollowed := true, recurses := true, plainKeys := false, apart := false }
def FnExactDeepOfTreeSaid : Prop := fnExactDeepOfTreeRow.holds Try.pinned (OpenSpec.ofChange fnExactDeepOfTreeSpec)

/-- ITS FALSE NEIGHBOUR: 'it returns false'. Refute it at one input. -/
def fnExactDeepOfTreeWrong : ChangeSpec := { name := "fnExactDeepOfTree", fn := fun _ => fun
  | [d] => { results := [.lit (.bool false)], args := [d] }
  | _ => none }
def FnExactDeepOfTreeWrongFalsely : Prop := fnExactDeepOfTreeRow.holds Try.pinned (OpenSpec.ofChange fnExactDeepOfTreeWrong)

/-- 'laws.FnExactMirrorTree': WHATEVER THE INPUT: true; the input reads as it did. -/
def fnExactMirrorTreeSpec : ChangeSpec := { name := "fnExactMirrorTree", fn := fun _ => fun
  | [d] => { results := [.lit (.bool true)], args := [d] }
  | _ => none }
def fnExactMirrorTreeRow : OpenClaim := { program := "ytfnmkcncofjjkaa", sum := "98815e0833642a72794a6cd9e526db4601dbed49923f04000fe87448d96925fe", func := "loop.example/g01357/laws.FnExactMirrorTree", spec := "fnExactMirrorTree", unfollowed := true, recurses := true, plainKeys := false, apart := false }
def FnExactMirrorTreeSaid : Prop := fnExactMirrorTreeRow.holds Try.pinned (OpenSpec.ofChange fnExactMirrorTreeSpec)

/-- ITS FALSE NEIGHBOUR: 'it returns false'. Refute it at one input. -/
def fnExactMirrorTreeWrong : ChangeSpec := { name := "fnExactMirrorTree", fn := fun _ => fun
  | [d] => { results := [.lit (.bool false)], args := [d] }
  | _ => none }
def FnExactMirrorTreeWrongFalsely : Prop := fnExactMirrorTreeRow.holds Try.pinned (OpenSpec.ofChange fnExactMirrorTreeWrong)

/-- 'laws.FnExactStateOfTree': WHATEVER THE INPUT: true; the input reads as it did. -/
def fnExactStateOfTreeSpec : ChangeSpec := { name := "fnExactStateOfTree", fn := fun _ => fun
  | [d1, d2] => { results := [.lit (.bool true)], args := [d1, d2] }
  | _ => none }
def fnExactStateOfTreeRow : OpenClaim := { program := "ytfnmkcncofjjkaa", sum := "98815e0833642a72794a6cd9e526db4601dbed49923f04000fe87448d96925fe", func := "loop.example/g01357/laws.FnExactStateOfTree", spec := "fnExactStateOfTree", unfollowed := true, recurses := true, plainKeys := false, apart := false }
def FnExactStateOfTreeSaid : Prop := fnExactStateOfTreeRow.holds Try.pinned (OpenSpec.ofChange fnExactStateOfTreeSpec)

/-- ITS FALSE NEIGHBOUR: 'it returns false'. Refute it at one input. -/
def fnExactStateOfTreeWrong : ChangeSpec := { name := "fnExactStateOfTree", fn := fun _ => fun
  | [d1, d2] => { results := [.lit (.bool false)], args := [d1, d2] }
  | _ => none }
def FnExactStateOfTreeWrongFalsely : Prop := fnExactStateOfTreeRow.holds Try.pinned (OpenSpec.ofChange fnExactStateOfTreeWrong)

/-- 'laws.FnExactReadsTree': WHATEVER THE INPUT: true; the input reads as it did. -/
def fnExactReadsTreeSpec : ChangeSpec := { name := "fnExactReadsTree", fn := fun _ => fun
  | [d1, d2] => { results := [.lit (.bool true)], args := [d1, d2] }
  | _ => none }
def fnExactReadsTreeRow : OpenClaim := { program := "ytfnmkcncofjjkaa", sum := "98815e0833642a72794a6cd9e526db4601dbed49923f04000fe87448d96925fe", func := "loop.example/g01357/laws.FnExactReadsTree", spec := "fnExactReadsTree", unfollowed := true, recurses := true, plainKeys := false, apart := false }
def FnExactReadsTreeSaid : Prop := fnExactReadsTreeRow.holds Try.pinned (OpenSpec.ofChange fnExactReadsTreeSpec)

/-- ITS FALSE NEIGHBOUR: 'it returns false'. Refute it at one input. -/
def fnExactReadsTreeWrong : ChangeSpec := { name := "fnExactReadsTree", fn := fun _ => fun
  | [d1, d2] => { results := [.lit (.bool false)], args := [d1, d2] }
  | _ => none }
def FnExactReadsTreeWrongFalsely : Prop := fnExactReadsTreeRow.holds Try.pinned (OpenSpec.ofChange fnExactReadsTreeWrong)

/-- 'laws.FnExactCountTreesRead': WHATEVER THE INPUT: true; the input reads as it did. -/
def fnExactCountTreesReadSpec : ChangeSpec := { name := "fnExactCountTreesRead", fn := fun _ => fun
  | [d1, d2] => { results := [.lit (.bool true)], args := [d1, d2] }
  | _ => none }
def fnExactCountTreesReadRow : OpenClaim := { program := "ytfnmkcncofjjkaa", sum := "98815e0833642a72794a6cd9e526db4601dbed49923f04000fe87448d96925fe", func := "loop.example/g01357/laws.FnExactCountTreesRead", spec := "fnExactCountTreesRead", plainKeys := false, apart := false }
def FnExactCountTreesReadSaid : Prop := fnExactCountTreesReadRow.holds Try.pinned (OpenSpec.ofChange fnExactCountTreesReadSpec)

/-- ITS FALSE NEIGHBOUR: 'it returns false'. Refute it at one input. -/
def fnExactCountTreesReadWrong : ChangeSpec := { name := "fnExactCountTreesRead", fn := fun _ => fun
  | [d1, d2] => { results := [.lit (.bool false)], args := [d1, d2] }
  | _ => none }
def FnExactCountTreesReadWrongFalsely : Prop := fnExactCountTreesReadRow.holds Try.pinned (OpenSpec.ofChange fnExactCountTreesReadWrong)

/-- 'laws.FnExactFirstTree': WHATEVER THE INPUT: true; the input reads as it did. -/
def fnExactFirstTreeSpec : ChangeSpec := { name := "fnExactFirstTree", fn := fun _ => fun
  | [d] => { results := [.lit (.bool true)], args := [d] }
  | _ => none }
def fnExactFirstTreeRow : OpenClaim := { program := "ytfnmkcncofjjkaa", sum := "98815e0833642a72794a6cd9e526db4601dbed49923f04000fe87448d96925fe", func := "loop.example/g01357/laws.FnExactFirstTree", spec := "fnExactFirstTree", unfollowed := true, recurses := true, plainKeys := false, apart := false }
def FnExactFirstTreeSaid : Prop := fnExactFirstTreeRow.holds Try.pinned (OpenSpec.ofChange fnExactFirstTreeSpec)

/-- ITS FALSE NEIGHBOUR: 'it returns false'. Refute it at one input. -/
def fnExactFirstTreeWrong : ChangeSpec := { name := "fnExactFirstTree", fn := fun _ => fun
  | [d] => { results := [.lit (.bool false)], args := [d] }
  | _ => none }
def FnExactFirstTreeWrongFalsely : Prop := fnExactFirstTreeRow.holds Try.pinned (OpenSpec.ofChange fnExactFirstTreeWrong)

/-- 'laws.FnExactLeastTrees': WHATEVER THE INPUT: true; the input reads as it did. -/
def fnExactLeastTreesSpec : ChangeSpec := { name := "fnExactLeastTrees", fn := fun _ => fun
  | [d] => { results := [.lit (.bool true)], args := [d] }
  | _ => none }
def fnExactLeastTreesRow : OpenClaim := { program := "ytfnmkcncofjjkaa", sum := "98815e0833642a72794a6cd9e526db4601dbed49923f04000fe87448d96925fe", func := "loop.example/g01357/laws.FnExactLeastTrees", spec := "fnExactLeastTrees", unfollowed := true, recurses := true, plainKeys := false, apart := false }
def FnExactLeastTreesSaid : Prop := fnExactLeastTreesRow.holds Try.pinned (OpenSpec.ofChange fnExactLeastTreesSpec)

/-- ITS FALSE NEIGHBOUR: 'it returns false'. Refute it at one input. -/
def fnExactLeastTreesWrong : ChangeSpec := { name := "fnExactLeastTrees", fn := fun _ => fun
  | [d] => { results := [.lit (.bool false)], args := [d] }
  | _ => none }
def FnExactLeastTreesWrongFalsely : Prop := fnExactLeastTreesRow.holds Try.pinned (OpenSpec.ofChange fnExactLeastTreesWrong)

/-- 'laws.FnExactCountTrees': WHATEVER THE INPUT: true; the input reads as it did. -/
def fnExactCountTreesSpec : ChangeSpec := { name := "fnExactCountTrees", fn := fun _ => fun
  | [d1, d2] => { results := [.lit (.bool true)], args := [d1, d2] }
  | _ => none }
def fnExactCountTreesRow : OpenClaim := { program := "ytfnmkcncofjjkaa", sum := "98815e0833642a72794a6cd9e526db4601dbed49923f04000fe87448d96925fe", func := "loop.example/g01357/laws.FnExactCountTrees", spec := "fnExactCountTrees", unfollowed := true, recurses := true, plainKeys := false, apart := false }
def FnExactCountTreesSaid : Prop := fnExactCountTreesRow.holds Try.pinned (OpenSpec.ofChange fnExactCountTreesSpec)

/-- ITS FALSE NEIGHBOUR: 'it returns false'. Refute it at one input. -/
def fnExactCountTreesWrong : ChangeSpec := { name := "fnExactCountTrees", fn := fun _ => fun
  | [d1, d2] => { results := [.lit (.bool false)], args := [d1, d2] }
  | _ => none }
def FnExactCountTreesWrongFalsely : Prop := fnExactCountTreesRow.holds Try.pinned (OpenSpec.ofChange fnExactCountTreesWrong)

/-- 'laws.FnExactCountRead': WHATEVER THE INPUT: true; the input reads as it did. -/
def fnExactCountReadSpec : ChangeSpec := { name := "fnExactCountRead", fn := fun _ => fun
  | [d1, d2] => { results := [.lit (.bool true)], args := [d1, d2] }
  | _ => none }
def fnExactCountReadRow : OpenClaim := { program := "ytfnmkcncofjjkaa", sum := "98815e0833642a72794a6cd9e526db4601dbed49923f04000fe87448d96925fe", func := "loop.example/g01357/laws.FnExactCountRead", spec := "fnExactCountRead", unfollowed := true, recurses := true, plainKeys := false, apart := false }
def FnExactCountReadSaid : Prop := fnExactCountReadRow.holds Try.pinned (OpenSpec.ofChange fnExactCountReadSpec)

/-- ITS FALSE NEIGHBOUR: 'it returns false'. Refute it at one input. -/
def fnExactCountReadWrong : ChangeSpec := { name := "fnExactCountRead", fn := fun _ => fun
  | [d1, d2] => { results := [.lit (.bool false)], args := [d1, d2] }
  | _ => none }
def FnExactCountReadWrongFalsely : Prop := fnExactCountReadRow.holds Try.pinned (OpenSpec.ofChange fnExactCountReadWrong)

/-- 'laws.FnExactChartOf': WHATEVER THE INPUT: true; the input reads as it did. -/
def fnExactChartOfSpec : ChangeSpec := { name := "fnExactChartOf", fn := fun _ => fun
  | [d1, d2] => { results := [.lit (.bool true)], args := [d1, d2] }
  | _ => none }
def fnExactChartOfRow : OpenClaim := { program := "ytfnmkcncofjjkaa", sum := "98815e0833642a72794a6cd9e526db4601dbed49923f04000fe87448d96925fe", func := "loop.example/g01357/laws.FnExactChartOf", spec := "fnExactChartOf", unfollowed := true, recurses := true, plainKeys := false, apart := false }
def FnExactChartOfSaid : Prop := fnExactChartOfRow.holds Try.pinned (OpenSpec.ofChange fnExactChartOfSpec)

/-- ITS FALSE NEIGHBOUR: 'it returns false'. Refute it at one input. -/
def fnExactChartOfWrong : ChangeSpec := { name := "fnExactChartOf", fn := fun _ => fun
  | [d1, d2] => { results := [.lit (.bool false)], args := [d1, d2] }
  | _ => none }
def FnExactChartOfWrongFalsely : Prop := fnExactChartOfRow.holds Try.pinned (OpenSpec.ofChange fnExactChartOfWrong)

/-- 'laws.FnExactParseCost': WHATEVER THE INPUT: true; the input reads as it did. -/
def fnExactParseCostSpec : ChangeSpec := { name := "fnExactParseCost", fn := fun _ => fun
  | [d1, d2] => { results := [.lit (.bool true)], args := [d1, d2] }
  | _ => none }
def fnExactParseCostRow : OpenClaim := { program := "ytfnmkcncofjjkaa", sum := "98815e0833642a72794a6cd9e526db4601dbed49923f04000fe87448d96925fe", func := "loop.example/g01357/laws.FnExactParseCost", spec := "fnExactParseCost", unfollowed := true, recurses := true, plainKeys := false, apart := false }
def FnExactParseCostSaid : Prop := fnExactParseCostRow.holds Try.pinned (OpenSpec.ofChange fnExactParseCostSpec)

/-- ITS FALSE NEIGHBOUR: 'it returns false'. Refute it at one input. -/
def fnExactParseCostWrong : ChangeSpec := { name := "fnExactParseCost", fn := fun _ => fun
  | [d1, d2] => { results := [.lit (.bool false)], args := [d1, d2] }
  | _ => none }
def FnExactParseCostWrongFalsely : Prop := fnExactParseCostRow.holds Try.pinned (OpenSpec.ofChange fnExactParseCostWrong)

/-- 'laws.FnExactParseTree': WHATEVER THE INPUT: true; the input reads as it did. -/
def fnExactParseTreeSpec : ChangeSpec := { name := "fnExactParseTree", fn := fun _ => fun
  | [d1, d2] => { results := [.lit (.bool true)], args := [d1, d2] }
  | _ => none }
def fnExactParseTreeRow : OpenClaim := { program := "ytfnmkcncofjjkaa", sum := "98815e0833642a72794a6cd9e526db4601dbed49923f04000fe87448d96925fe", func := "loop.example/g01357/laws.FnExactParseTree", spec := "fnExactParseTree", unfollowed := true, recurses := true, plainKeys := false, apart := false }
def FnExactParseTreeSaid : Prop := fnExactParseTreeRow.holds Try.pinned (OpenSpec.ofChange fnExactParseTreeSpec)

/-- ITS FALSE NEIGHBOUR: 'it returns false'. Refute it at one input. -/
def fnExactParseTreeWrong : ChangeSpec := { name := "fnExactParseTree", fn := fun _ => fun
  | [d1, d2] => { results := [.lit (.bool false)], args := [d1, d2] }
  | _ => none }
def FnExactParseTreeWrongFalsely : Prop := fnExactParseTreeRow.holds Try.pinned (OpenSpec.ofChange fnExactParseTreeWrong)

/- THE SECOND FORM. 'bulk': how many values and letters a reading holds, each counted each time it is reached (what is shared counts as often as it is met; a slice's spare places count too). A statement '..UptoSaid' is the law's where the arguments, and the package variables that the reading takes, are together of bulk at most 1048576: NARROWER than '..Said'. Prove '..Said' where nothing that the law and all that it calls make is longer than what came in: it says more and counts as full. Else prove '..UptoSaid'. A law counts once. -/
mutual
def uptoBulk {H : Type} : DataW H → Nat
  | .lit (.string bytes) => bytes.length + 1
  | .lit _ => 1
  | .nil => 1
  | .ptr d => uptoBulk d + 1
  | .slice elems spare => uptoBulkAll elems + uptoBulkAll spare + 1
  | .agg parts => uptoBulkAll parts + 1
  | .iface _ d => uptoBulk d + 1
  | .map entries => uptoBulkEntries entries + 1
  | .held _ => 1
def uptoBulkAll {H : Type} : List (DataW H) → Nat
  | [] => 0
  | d :: r => uptoBulk d + uptoBulkAll r
def uptoBulkEntries {H : Type} : List (Lit × DataW H) → Nat
  | [] => 0
  | x :: r => uptoBulkEntry x + uptoBulkEntries r
def uptoBulkEntry {H : Type} : Lit × DataW H → Nat
  | (.string bytes, d) => bytes.length + uptoBulk d + 1
  | (_, d) => uptoBulk d + 1
 end
def uptoSmall : (H : Type) → List (DataW H) → Bool := fun _ ds => decide (uptoBulkAll ds ≤ 1048576)
def OpenSpec.upto (s : _root_.Go.ChangeSpec) : _root_.Go.OpenSpec := { _root_.Go.OpenSpec.ofChange s with cond := some uptoSmall }

/-- 'laws.FnExactDeepOfTree', WHERE WHAT IT READS IS OF BULK AT MOST 1048576: true; the input reads as it did. -/
def fnExactDeepOfTreeUptoRow : OpenClaim := { program := "ytfnmkcncofjjkaa", sum := "98815e0833642a72794a6cd9e526db4601dbed49923f04000fe87448d96925fe", func := "loop.example/g01357/laws.FnExactDeepOfTree", spec := "fnExactDeepOfTree", unfollowed := true, recurses := true, plainKeys := false, apart := false, narrowed := true }
def FnExactDeepOfTreeUptoSaid : Prop := fnExactDeepOfTreeUptoRow.holds Try.pinned (OpenSpec.upto fnExactDeepOfTreeSpec)

/-- 'laws.FnExactMirrorTree', WHERE WHAT IT READS IS OF BULK AT MOST 1048576: true; the input reads as it did. -/
def fnExactMirrorTreeUptoRow : OpenClaim := { program := "ytfnmkcncofjjkaa", sum := "98815e0833642a72794a6cd9e526db4601dbed49923f04000fe87448d96925fe", func := "loop.example/g01357/laws.FnExactMirrorTree", spec := "fnExactMirrorTree", unfollowed := true, recurses := true, plainKeys := false, apart := false, narrowed := true }
def FnExactMirrorTreeUptoSaid : Prop := fnExactMirrorTreeUptoRow.holds Try.pinned (OpenSpec.upto fnExactMirrorTreeSpec)

/-- 'laws.FnExactStateOfTree', WHERE WHAT IT READS IS OF BULK AT MOST 1048576: true; the input reads as it did. -/
def fnExactStateOfTreeUptoRow : OpenClaim := { program := "ytfnmkcncofjjkaa", sum := "98815e0833642a72794a6cd9e526db4601dbed49923f04000fe87448d96925fe", func := "loop.example/g01357/laws.FnExactStateOfTree", spec := "fnExactStateOfTree", unfollowed := true, recurses := true, plainKeys := false, apart := false, narrowed := true }
def FnExactStateOfTreeUptoSaid : Prop := fnExactStateOfTreeUptoRow.holds Try.pinned (OpenSpec.upto fnExactStateOfTreeSpec)

/-- 'laws.FnExactReadsTree', WHERE WHAT IT READS IS OF BULK AT MOST 1048576: true; the input reads as it did. -/
def fnExactReadsTreeUptoRow : OpenClaim := { program := "ytfnmkcncofjjkaa", sum := "98815e0833642a72794a6cd9e526db4601dbed49923f04000fe87448d96925fe", func := "loop.example/g01357/laws.FnExactReadsTree", spec := "fnExactReadsTree", unfollowed := true, recurses := true, plainKeys := false, apart := false, narrowed := true }
def FnExactReadsTreeUptoSaid : Prop := fnExactReadsTreeUptoRow.holds Try.pinned (OpenSpec.upto fnExactReadsTreeSpec)

/-- 'laws.FnExactCountTreesRead', WHERE WHAT IT READS IS OF BULK AT MOST 1048576: true; the input reads as it did. -/
def fnExactCountTreesReadUptoRow : OpenClaim := { program := "ytfnmkcncofjjkaa", sum := "98815e0833642a72794a6cd9e526db4601dbed49923f04000fe87448d96925fe", func := "loop.example/g01357/laws.FnExactCountTreesRead", spec := "fnExactCountTreesRead", plainKeys := false, apart := false, narrowed := true }
def FnExactCountTreesReadUptoSaid : Prop := fnExactCountTreesReadUptoRow.holds Try.pinned (OpenSpec.upto fnExactCountTreesReadSpec)

/-- 'laws.FnExactFirstTree', WHERE WHAT IT READS IS OF BULK AT MOST 1048576: true; the input reads as it did. -/
def fnExactFirstTreeUptoRow : OpenClaim := { program := "ytfnmkcncofjjkaa", sum := "98815e0833642a72794a6cd9e526db4601dbed49923f04000fe87448d96925fe", func := "loop.example/g01357/laws.FnExactFirstTree", spec := "fnExactFirstTree", unfollowed := true, recurses := true, plainKeys := false, apart := false, narrowed := true }
def FnExactFirstTreeUptoSaid : Prop := fnExactFirstTreeUptoRow.holds Try.pinned (OpenSpec.upto fnExactFirstTreeSpec)

/-- 'laws.FnExactLeastTrees', WHERE WHAT IT READS IS OF BULK AT MOST 1048576: true; the input reads as it did. -/
def fnExactLeastTreesUptoRow : OpenClaim := { program := "ytfnmkcncofjjkaa", sum := "98815e0833642a72794a6cd9e526db4601dbed49923f04000fe87448d96925fe", func := "loop.example/g01357/laws.FnExactLeastTrees", spec := "fnExactLeastTrees", unfollowed := true, recurses := true, plainKeys := false, apart := false, narrowed := true }
def FnExactLeastTreesUptoSaid : Prop := fnExactLeastTreesUptoRow.holds Try.pinned (OpenSpec.upto fnExactLeastTreesSpec)

/-- 'laws.FnExactCountTrees', WHERE WHAT IT READS IS OF BULK AT MOST 1048576: true; the input reads as it did. -/
def fnExactCountTreesUptoRow : OpenClaim := { program := "ytfnmkcncofjjkaa", sum := "98815e0833642a72794a6cd9e526db4601dbed49923f04000fe87448d96925fe", func := "loop.example/g01357/laws.FnExactCountTrees", spec := "fnExactCountTrees", unfollowed := true, recurses := true, plainKeys := false, apart := false, narrowed := true }
def FnExactCountTreesUptoSaid : Prop := fnExactCountTreesUptoRow.holds Try.pinned (OpenSpec.upto fnExactCountTreesSpec)

/-- 'laws.FnExactCountRead', WHERE WHAT IT READS IS OF BULK AT MOST 1048576: true; the input reads as it did. -/
def fnExactCountReadUptoRow : OpenClaim := { program := "ytfnmkcncofjjkaa", sum := "98815e0833642a72794a6cd9e526db4601dbed49923f04000fe87448d96925fe", func := "loop.example/g01357/laws.FnExactCountRead", spec := "fnExactCountRead", unfollowed := true, recurses := true, plainKeys := false, apart := false, narrowed := true }
def FnExactCountReadUptoSaid : Prop := fnExactCountReadUptoRow.holds Try.pinned (OpenSpec.upto fnExactCountReadSpec)

/-- 'laws.FnExactChartOf', WHERE WHAT IT READS IS OF BULK AT MOST 1048576: true; the input reads as it did. -/
def fnExactChartOfUptoRow : OpenClaim := { program := "ytfnmkcncofjjkaa", sum := "98815e0833642a72794a6cd9e526db4601dbed49923f04000fe87448d96925fe", func := "loop.example/g01357/laws.FnExactChartOf", spec := "fnExactChartOf", unfollowed := true, recurses := true, plainKeys := false, apart := false, narrowed := true }
def FnExactChartOfUptoSaid : Prop := fnExactChartOfUptoRow.holds Try.pinned (OpenSpec.upto fnExactChartOfSpec)

/-- 'laws.FnExactParseCost', WHERE WHAT IT READS IS OF BULK AT MOST 1048576: true; the input reads as it did. -/
def fnExactParseCostUptoRow : OpenClaim := { program := "ytfnmkcncofjjkaa", sum := "98815e0833642a72794a6cd9e526db4601dbed49923f04000fe87448d96925fe", func := "loop.example/g01357/laws.FnExactParseCost", spec := "fnExactParseCost", unfollowed := true, recurses := true, plainKeys := false, apart := false, narrowed := true }
def FnExactParseCostUptoSaid : Prop := fnExactParseCostUptoRow.holds Try.pinned (OpenSpec.upto fnExactParseCostSpec)

/-- 'laws.FnExactParseTree', WHERE WHAT IT READS IS OF BULK AT MOST 1048576: true; the input reads as it did. -/
def fnExactParseTreeUptoRow : OpenClaim := { program := "ytfnmkcncofjjkaa", sum := "98815e0833642a72794a6cd9e526db4601dbed49923f04000fe87448d96925fe", func := "loop.example/g01357/laws.FnExactParseTree", spec := "fnExactParseTree", unfollowed := true, recurses := true, plainKeys := false, apart := false, narrowed := true }
def FnExactParseTreeUptoSaid : Prop := fnExactParseTreeUptoRow.holds Try.pinned (OpenSpec.upto fnExactParseTreeSpec)

end Rows
end Go.Proofs.Ytfnmkcncofjjkaa
