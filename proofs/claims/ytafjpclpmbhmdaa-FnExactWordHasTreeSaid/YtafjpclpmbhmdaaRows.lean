/-
  No cell of these rows narrows 'for every input' (looked for: loops, veiled, ifaces, maps, wideKeys, modest, calm, conditions, laid).
  DERIVED. THE GIVEN ROWS OF THIS SEAT. 12 by the template 'for every input the law returns true; each argument reads behind the call as it read before'; 0 by the template 'total and deterministic' (their statements: YtafjpclpmbhmdaaTotals.lean).
  GIVEN WITH THE SEED: the statements are not yours to turn. If you find one false, say at which input.
  Laid BY PROGRAM, IN A SANDBOX (cutbox-rows.mjs): the forced cells as the released guide's own fill.sh prints them over the translation 7d79a656d88911c9… (all of the seat's roots in one cut). By AI agents, Wed Nov 11 2026. No macro, syntax, notation, axiom, sorry.
-/
import Derived.Test.YtafjpclpmbhmdaaChecked
import GoSem.Claim
import GoSem.ClaimJoined
import GoSem.ClaimMapViews
import Derived.JoinedTies
import Derived.KernelRfl
namespace Go.Proofs.Ytafjpclpmbhmdaa
/- THE CELL 'sum', in the pinned program and in every row, IS THE sha256 OF THE DUMP (.gsa) THAT YtafjpclpmbhmdaaProg.lean LOADS. Nothing in Lean hashes anything: it is a label: what it is worth is what the hold of that sum in a sandbox is worth. -/
noncomputable def Try.pinned : Pinned := { name := "ytafjpclpmbhmdaa", sum := "7d79a656d88911c99da2455d7725a9647dc7135399f300de52d1fd2efb8348ef", checked := Try.checked }
namespace Rows
def none {H : Type} : Left H := { results := [], args := [] }

/-- 'laws.FnExactDepthsOf': WHATEVER THE INPUT: true; the input reads as it did. -/
def fnExactDepthsOfSpec : ChangeSpec := { name := "fnExactDepthsOf", fn := fun _ => fun
  | [d1, d2] => { results := [.lit (.bool true)], args := [d1, d2] }
  | _ => none }
def fnExactDepthsOfRow : OpenClaim := { program := "ytafjpclpmbhmdaa", sum := "7d79a656d88911c99da2455d7725a9647dc7135399f300de52d1fd2efb8348ef", func := "loop.example/g01357/laws.FnExactDepthsOf", spec := "fnExactDepthsOf", plainKeys := false, apart := false }
def FnExactDepthsOfSaid : Prop := fnExactDepthsOfRow.holds Try.pinned (OpenSpec.ofChange fnExactDepthsOfSpec)

/-- ITS FALSE NEIGHBOUR: 'it returns false'. Refute it at one input. -/
def fnExactDepthsOfWrong : ChangeSpec := { name := "fnExactDepthsOf", fn := fun _ => fun
  | [d1, d2] => { results := [.lit (.bool false)], args := [d1, d2] }
  | _ => none }
def FnExactDepthsOfWrongFalsely : Prop := fnExactDepthsOfRow.holds Try.pinned (OpenSpec.ofChange fnExactDepthsOfWrong)

/-- 'laws.FnExactValidKept': WHATEVER THE INPUT: true; the input reads as it did. -/
def fnExactValidKeptSpec : ChangeSpec := { name := "fnExactValidKept", fn := fun _ => fun
  | [d] => { results := [.lit (.bool true)], args := [d] }
  | _ => none }
def fnExactValidKeptRow : OpenClaim := { program := "ytafjpclpmbhmdaa", sum := "7d79a656d88911c99da2455d7725a9647dc7135399f300de52d1fd2efb8348ef", func := "loop.example/g01357/laws.FnExactValidKept", spec := "fnExactValidKept", plainKeys := false, apart := false }
def FnExactValidKeptSaid : Prop := fnExactValidKeptRow.holds Try.pinned (OpenSpec.ofChange fnExactValidKeptSpec)

/-- ITS FALSE NEIGHBOUR: 'it returns false'. Refute it at one input. -/
def fnExactValidKeptWrong : ChangeSpec := { name := "fnExactValidKept", fn := fun _ => fun
  | [d] => { results := [.lit (.bool false)], args := [d] }
  | _ => none }
def FnExactValidKeptWrongFalsely : Prop := fnExactValidKeptRow.holds Try.pinned (OpenSpec.ofChange fnExactValidKeptWrong)

/-- 'laws.FnExactDeepOfTree': WHATEVER THE INPUT: true; the input reads as it did. -/
def fnExactDeepOfTreeSpec : ChangeSpec := { name := "fnExactDeepOfTree", fn := fun _ => fun
  | [d] => { results := [.lit (.bool true)], args := [d] }
  | _ => none }
def fnExactDeepOfTreeRow : OpenClaim := { program := "ytafjpclpmbhmdaa", sum := "7d79a656d88911c99da2455d7725a9647dc7135399f300de52d1fd2efb8348ef", func := "loop.example/g01357/laws.FnExactDeepOfTree", spec := "fnExactDeepOfTree", unfollowed := true, recurses := true, plainKeys := false, apart := false }
def FnExactDeepOfTreeSaid : Prop := fnExactDeepOfTreeRow.holds Try.pinned (OpenSpec.ofChange fnExactDeepOfTreeSpec)

/-- ITS FALSE NEIGHBOUR: 'it returns false'. Refute it at one input. -/
def fnExactDeepOfTreeWrong : ChangeSpec := { name := "fnExactDeepOfTree", fn := fun _ => fun
  | [d] => { results := [.lit (.bool false)], args := [d] }
  | _ => none }
def FnExactDeepOfTreeWrongFalsely : Prop := fnExactDeepOfTreeRow.holds Try.pinned (OpenSpec.ofChange fnExactDeepOfTreeWrong)

/-- 'laws.FnExactStateOfTree': WHATEVER THE INPUT: true; the input reads as it did. -/
def fnExactStateOfTreeSpec : ChangeSpec := { name := "fnExactStateOfTree", fn := fun _ => fun
  | [d1, d2] => { results := [.lit (.bool true)], args := [d1, d2] }
  | _ => none }
def fnExactStateOfTreeRow : OpenClaim := { program := "ytafjpclpmbhmdaa", sum := "7d79a656d88911c99da2455d7725a9647dc7135399f300de52d1fd2efb8348ef", func := "loop.example/g01357/laws.FnExactStateOfTree", spec := "fnExactStateOfTree", unfollowed := true, recurses := true, plainKeys := false, apart := false }
def FnExactStateOfTreeSaid : Prop := fnExactStateOfTreeRow.holds Try.pinned (OpenSpec.ofChange fnExactStateOfTreeSpec)

/-- ITS FALSE NEIGHBOUR: 'it returns false'. Refute it at one input. -/
def fnExactStateOfTreeWrong : ChangeSpec := { name := "fnExactStateOfTree", fn := fun _ => fun
  | [d1, d2] => { results := [.lit (.bool false)], args := [d1, d2] }
  | _ => none }
def FnExactStateOfTreeWrongFalsely : Prop := fnExactStateOfTreeRow.holds Try.pinned (OpenSpec.ofChange fnExactStateOfTreeWrong)

/-- 'laws.FnExactReadsTree': WHATEVER THE INPUT: true; the input reads as it did. -/
def fnExactReadsTreeSpec : ChangeSpec := { name := "fnExactReadsTree", fn := fun _ => fun
  | [d1, d2] => { results := [.lit (.bool true)], args := [d1, d2] }
  | _ => none }
def fnExactReadsTreeRow : OpenClaim := { program := "ytafjpclpmbhmdaa", sum := "7d79a656d88911c99da2455d7725a9647dc7135399f300de52d1fd2efb8348ef", func := "loop.example/g01357/laws.FnExactReadsTree", spec := "fnExactReadsTree", unfollowed := true, recurses := true, plainKeys := false, apart := false }
def FnExactReadsTreeSaid : Prop := fnExactReadsTreeRow.holds Try.pinned (OpenSpec.ofChange fnExactReadsTreeSpec)

/-- ITS FALSE NEIGHBOUR: 'it returns false'. Refute it at one input. -/
def fnExactReadsTreeWrong : ChangeSpec := { name := "fnExactReadsTree", fn := fun _ => fun
  | [d1, d2] => { results := [.lit (.bool false)], args := [d1, d2] }
  | _ => none }
def FnExactReadsTreeWrongFalsely : Prop := fnExactReadsTreeRow.holds Try.pinned (OpenSpec.ofChange fnExactReadsTreeWrong)

/-- 'laws.FnExactCountTreesRead': WHATEVER THE INPUT: true; the input reads as it did. -/
def fnExactCountTreesReadSpec : ChangeSpec := { name := "fnExactCountTreesRead", fn := fun _ => fun
  | [d1, d2] => { results := [.lit (.bool true)], args := [d1, d2] }
  | _ => none }
def fnExactCountTreesReadRow : OpenClaim := { program := "ytafjpclpmbhmdaa", sum := "7d79a656d88911c99da2455d7725a9647dc7135399f300de52d1fd2efb8348ef", func := "loop.example/g01357/laws.FnExactCountTreesRead", spec := "fnExactCountTreesRead", plainKeys := false, apart := false }
def FnExactCountTreesReadSaid : Prop := fnExactCountTreesReadRow.holds Try.pinned (OpenSpec.ofChange fnExactCountTreesReadSpec)

/-- ITS FALSE NEIGHBOUR: 'it returns false'. Refute it at one input. -/
def fnExactCountTreesReadWrong : ChangeSpec := { name := "fnExactCountTreesRead", fn := fun _ => fun
  | [d1, d2] => { results := [.lit (.bool false)], args := [d1, d2] }
  | _ => none }
def FnExactCountTreesReadWrongFalsely : Prop := fnExactCountTreesReadRow.holds Try.pinned (OpenSpec.ofChange fnExactCountTreesReadWrong)

/-- 'laws.FnExactChainSided': WHATEVER THE INPUT: true; the input reads as it did. -/
def fnExactChainSidedSpec : ChangeSpec := { name := "fnExactChainSided", fn := fun _ => fun
  | [d1, d2] => { results := [.lit (.bool true)], args := [d1, d2] }
  | _ => none }
def fnExactChainSidedRow : OpenClaim := { program := "ytafjpclpmbhmdaa", sum := "7d79a656d88911c99da2455d7725a9647dc7135399f300de52d1fd2efb8348ef", func := "loop.example/g01357/laws.FnExactChainSided", spec := "fnExactChainSided", plainKeys := false, apart := false }
def FnExactChainSidedSaid : Prop := fnExactChainSidedRow.holds Try.pinned (OpenSpec.ofChange fnExactChainSidedSpec)

/-- ITS FALSE NEIGHBOUR: 'it returns false'. Refute it at one input. -/
def fnExactChainSidedWrong : ChangeSpec := { name := "fnExactChainSided", fn := fun _ => fun
  | [d1, d2] => { results := [.lit (.bool false)], args := [d1, d2] }
  | _ => none }
def FnExactChainSidedWrongFalsely : Prop := fnExactChainSidedRow.holds Try.pinned (OpenSpec.ofChange fnExactChainSidedWrong)

/-- 'laws.FnExactEitherSided': WHATEVER THE INPUT: true; the input reads as it did. -/
def fnExactEitherSidedSpec : ChangeSpec := { name := "fnExactEitherSided", fn := fun _ => fun
  | [d1, d2] => { results := [.lit (.bool true)], args := [d1, d2] }
  | _ => none }
def fnExactEitherSidedRow : OpenClaim := { program := "ytafjpclpmbhmdaa", sum := "7d79a656d88911c99da2455d7725a9647dc7135399f300de52d1fd2efb8348ef", func := "loop.example/g01357/laws.FnExactEitherSided", spec := "fnExactEitherSided", plainKeys := false, apart := false }
def FnExactEitherSidedSaid : Prop := fnExactEitherSidedRow.holds Try.pinned (OpenSpec.ofChange fnExactEitherSidedSpec)

/-- ITS FALSE NEIGHBOUR: 'it returns false'. Refute it at one input. -/
def fnExactEitherSidedWrong : ChangeSpec := { name := "fnExactEitherSided", fn := fun _ => fun
  | [d1, d2] => { results := [.lit (.bool false)], args := [d1, d2] }
  | _ => none }
def FnExactEitherSidedWrongFalsely : Prop := fnExactEitherSidedRow.holds Try.pinned (OpenSpec.ofChange fnExactEitherSidedWrong)

/-- 'laws.FnExactWordHasTree': WHATEVER THE INPUT: true; the input reads as it did. -/
def fnExactWordHasTreeSpec : ChangeSpec := { name := "fnExactWordHasTree", fn := fun _ => fun
  | [d1, d2] => { results := [.lit (.bool true)], args := [d1, d2] }
  | _ => none }
def fnExactWordHasTreeRow : OpenClaim := { program := "ytafjpclpmbhmdaa", sum := "7d79a656d88911c99da2455d7725a9647dc7135399f300de52d1fd2efb8348ef", func := "loop.example/g01357/laws.FnExactWordHasTree", spec := "fnExactWordHasTree", unfollowed := true, recurses := true, plainKeys := false, apart := false }
def FnExactWordHasTreeSaid : Prop := fnExactWordHasTreeRow.holds Try.pinned (OpenSpec.ofChange fnExactWordHasTreeSpec)

/-- ITS FALSE NEIGHBOUR: 'it returns false'. Refute it at one input. -/
def fnExactWordHasTreeWrong : ChangeSpec := { name := "fnExactWordHasTree", fn := fun _ => fun
  | [d1, d2] => { results := [.lit (.bool false)], args := [d1, d2] }
  | _ => none }
def FnExactWordHasTreeWrongFalsely : Prop := fnExactWordHasTreeRow.holds Try.pinned (OpenSpec.ofChange fnExactWordHasTreeWrong)

/-- 'laws.FnExactMirrorTree': WHATEVER THE INPUT: true; the input reads as it did. -/
def fnExactMirrorTreeSpec : ChangeSpec := { name := "fnExactMirrorTree", fn := fun _ => fun
  | [d] => { results := [.lit (.bool true)], args := [d] }
  | _ => none }
def fnExactMirrorTreeRow : OpenClaim := { program := "ytafjpclpmbhmdaa", sum := "7d79a656d88911c99da2455d7725a9647dc7135399f300de52d1fd2efb8348ef", func := "loop.example/g01357/laws.FnExactMirrorTree", spec := "fnExactMirrorTree", unfollowed := true, recurses := true, plainKeys := false, apart := false }
def FnExactMirrorTreeSaid : Prop := fnExactMirrorTreeRow.holds Try.pinned (OpenSpec.ofChange fnExactMirrorTreeSpec)

/-- ITS FALSE NEIGHBOUR: 'it returns false'. Refute it at one input. -/
def fnExactMirrorTreeWrong : ChangeSpec := { name := "fnExactMirrorTree", fn := fun _ => fun
  | [d] => { results := [.lit (.bool false)], args := [d] }
  | _ => none }
def FnExactMirrorTreeWrongFalsely : Prop := fnExactMirrorTreeRow.holds Try.pinned (OpenSpec.ofChange fnExactMirrorTreeWrong)

/-- 'laws.FnExactFirstTree': WHATEVER THE INPUT: true; the input reads as it did. -/
def fnExactFirstTreeSpec : ChangeSpec := { name := "fnExactFirstTree", fn := fun _ => fun
  | [d] => { results := [.lit (.bool true)], args := [d] }
  | _ => none }
def fnExactFirstTreeRow : OpenClaim := { program := "ytafjpclpmbhmdaa", sum := "7d79a656d88911c99da2455d7725a9647dc7135399f300de52d1fd2efb8348ef", func := "loop.example/g01357/laws.FnExactFirstTree", spec := "fnExactFirstTree", unfollowed := true, recurses := true, plainKeys := false, apart := false }
def FnExactFirstTreeSaid : Prop := fnExactFirstTreeRow.holds Try.pinned (OpenSpec.ofChange fnExactFirstTreeSpec)

/-- ITS FALSE NEIGHBOUR: 'it returns false'. Refute it at one input. -/
def fnExactFirstTreeWrong : ChangeSpec := { name := "fnExactFirstTree", fn := fun _ => fun
  | [d] => { results := [.lit (.bool false)], args := [d] }
  | _ => none }
def FnExactFirstTreeWrongFalsely : Prop := fnExactFirstTreeRow.holds Try.pinned (OpenSpec.ofChange fnExactFirstTreeWrong)

/-- 'laws.FnExactLeastTrees': WHATEVER THE INPUT: true; the input reads as it did. -/
def fnExactLeastTreesSpec : ChangeSpec := { name := "fnExactLeastTrees", fn := fun _ => fun
  | [d] => { results := [.lit (.bool true)], args := [d] }
  | _ => none }
def fnExactLeastTreesRow : OpenClaim := { program := "ytafjpclpmbhmdaa", sum := "7d79a656d88911c99da2455d7725a9647dc7135399f300de52d1fd2efb8348ef", func := "loop.example/g01357/laws.FnExactLeastTrees", spec := "fnExactLeastTrees", unfollowed := true, recurses := true, plainKeys := false, apart := false }
def FnExactLeastTreesSaid : Prop := fnExactLeastTreesRow.holds Try.pinned (OpenSpec.ofChange fnExactLeastTreesSpec)

/-- ITS FALSE NEIGHBOUR: 'it returns false'. Refute it at one input. -/
def fnExactLeastTreesWrong : ChangeSpec := { name := "fnExactLeastTrees", fn := fun _ => fun
  | [d] => { results := [.lit (.bool false)], args := [d] }
  | _ => none }
def FnExactLeastTreesWrongFalsely : Prop := fnExactLeastTreesRow.holds Try.pinned (OpenSpec.ofChange fnExactLeastTreesWrong)

/- THE SECOND FORM. 'bulk': how many values and letters a reading holds, each counted each time it is reached (what is shared counts as often as it is met; a slice's spare places count too). A statement '..UptoSaid' is the law's where the arguments, and the package variables that the reading takes, are together of bulk at most 1048576: NARROWER than '..Said'. Prove '..Said' where nothing that the law and all that it calls make is longer than what came in: it says more and counts as full. Else prove '..UptoSaid'. A law counts once. -/
mutual
def uptoBulk {H : Type} : DataW H → Nat
  | .lit (.string bytes) => bytes.length + 1
  | .lit _ => 1
  | .nil => 1
  | .ptr d => uptoBulk d + 1
  | .slice elems spare => uptoBulkAll elems + uptoBulkAll spare + 1
  | .agg parts => uptoBulkAll parts + 1
  | .iface _ d => uptoBulk d + 1
  | .map entries => uptoBulkEntries entries + 1
  | .held _ => 1
def uptoBulkAll {H : Type} : List (DataW H) → Nat
  | [] => 0
  | d :: r => uptoBulk d + uptoBulkAll r
def uptoBulkEntries {H : Type} : List (Lit × DataW H) → Nat
  | [] => 0
  | x :: r => uptoBulkEntry x + uptoBulkEntries r
def uptoBulkEntry {H : Type} : Lit × DataW H → Nat
  | (.string bytes, d) => bytes.length + uptoBulk d + 1
  | (_, d) => uptoBulk d + 1
 end
def uptoSmall : (H : Type) → List (DataW H) → Bool := fun _ ds => decide (uptoBulkAll ds ≤ 1048576)
def OpenSpec.upto (s : _root_.Go.ChangeSpec) : _root_.Go.OpenSpec := { _root_.Go.OpenSpec.ofChange s with cond := some uptoSmall }

/-- 'laws.FnExactDepthsOf', WHERE WHAT IT READS IS OF BULK AT MOST 1048576: true; the input reads as it did. -/
def fnExactDepthsOfUptoRow : OpenClaim := { program := "ytafjpclpmbhmdaa", sum := "7d79a656d88911c99da2455d7725a9647dc7135399f300de52d1fd2efb8348ef", func := "loop.example/g01357/laws.FnExactDepthsOf", spec := "fnExactDepthsOf", plainKeys := false, apart := false, narrowed := true }
def FnExactDepthsOfUptoSaid : Prop := fnExactDepthsOfUptoRow.holds Try.pinned (OpenSpec.upto fnExactDepthsOfSpec)

/-- 'laws.FnExactValidKept', WHERE WHAT IT READS IS OF BULK AT MOST 1048576: true; the input reads as it did. -/
def fnExactValidKeptUptoRow : OpenClaim := { program := "ytafjpclpmbhmdaa", sum := "7d79a656d88911c99da2455d7725a9647dc7135399f300de52d1fd2efb8348ef", func := "loop.example/g01357/laws.FnExactValidKept", spec := "fnExactValidKept", plainKeys := false, apart := false, narrowed := true }
def FnExactValidKeptUptoSaid : Prop := fnExactValidKeptUptoRow.holds Try.pinned (OpenSpec.upto fnExactValidKeptSpec)

/-- 'laws.FnExactDeepOfTree', WHERE WHAT IT READS IS OF BULK AT MOST 1048576: true; the input reads as it did. -/
def fnExactDeepOfTreeUptoRow : OpenClaim := { program := "ytafjpclpmbhmdaa", sum := "7d79a656d88911c99da2455d7725a9647dc7135399f300de52d1fd2efb8348ef", func := "loop.example/g01357/laws.FnExactDeepOfTree", spec := "fnExactDeepOfTree", unfollowed := true, recurses := true, plainKeys := false, apart := false, narrowed := true }
def FnExactDeepOfTreeUptoSaid : Prop := fnExactDeepOfTreeUptoRow.holds Try.pinned (OpenSpec.upto fnExactDeepOfTreeSpec)

/-- 'laws.FnExactStateOfTree', WHERE WHAT IT READS IS OF BULK AT MOST 1048576: true; the input reads as it did. -/
def fnExactStateOfTreeUptoRow : OpenClaim := { program := "ytafjpclpmbhmdaa", sum := "7d79a656d88911c99da2455d7725a9647dc7135399f300de52d1fd2efb8348ef", func := "loop.example/g01357/laws.FnExactStateOfTree", spec := "fnExactStateOfTree", unfollowed := true, recurses := true, plainKeys := false, apart := false, narrowed := true }
def FnExactStateOfTreeUptoSaid : Prop := fnExactStateOfTreeUptoRow.holds Try.pinned (OpenSpec.upto fnExactStateOfTreeSpec)

/-- 'laws.FnExactReadsTree', WHERE WHAT IT READS IS OF BULK AT MOST 1048576: true; the input reads as it did. -/
def fnExactReadsTreeUptoRow : OpenClaim := { program := "ytafjpclpmbhmdaa", sum := "7d79a656d88911c99da2455d7725a9647dc7135399f300de52d1fd2efb8348ef", func := "loop.example/g01357/laws.FnExactReadsTree", spec := "fnExactReadsTree", unfollowed := true, recurses := true, plainKeys := false, apart := false, narrowed := true }
def FnExactReadsTreeUptoSaid : Prop := fnExactReadsTreeUptoRow.holds Try.pinned (OpenSpec.upto fnExactReadsTreeSpec)

/-- 'laws.FnExactCountTreesRead', WHERE WHAT IT READS IS OF BULK AT MOST 1048576: true; the input reads as it did. -/
def fnExactCountTreesReadUptoRow : OpenClaim := { program := "ytafjpclpmbhmdaa", sum := "7d79a656d88911c99da2455d7725a9647dc7135399f300de52d1fd2efb8348ef", func := "loop.example/g01357/laws.FnExactCountTreesRead", spec := "fnExactCountTreesRead", plainKeys := false, apart := false, narrowed := true }
def FnExactCountTreesReadUptoSaid : Prop := fnExactCountTreesReadUptoRow.holds Try.pinned (OpenSpec.upto fnExactCountTreesReadSpec)

/-- 'laws.FnExactChainSided', WHERE WHAT IT READS IS OF BULK AT MOST 1048576: true; the input reads as it did. -/
def fnExactChainSidedUptoRow : OpenClaim := { program := "ytafjpclpmbhmdaa", sum := "7d79a656d88911c99da2455d7725a9647dc7135399f300de52d1fd2efb8348ef", func := "loop.example/g01357/laws.FnExactChainSided", spec := "fnExactChainSided", plainKeys := false, apart := false, narrowed := true }
def FnExactChainSidedUptoSaid : Prop := fnExactChainSidedUptoRow.holds Try.pinned (OpenSpec.upto fnExactChainSidedSpec)

/-- 'laws.FnExactEitherSided', WHERE WHAT IT READS IS OF BULK AT MOST 1048576: true; the input reads as it did. -/
def fnExactEitherSidedUptoRow : OpenClaim := { program := "ytafjpclpmbhmdaa", sum := "7d79a656d88911c99da2455d7725a9647dc7135399f300de52d1fd2efb8348ef", func := "loop.example/g01357/laws.FnExactEitherSided", spec := "fnExactEitherSided", plainKeys := false, apart := false, narrowed := true }
def FnExactEitherSidedUptoSaid : Prop := fnExactEitherSidedUptoRow.holds Try.pinned (OpenSpec.upto fnExactEitherSidedSpec)

/-- 'laws.FnExactWordHasTree', WHERE WHAT IT READS IS OF BULK AT MOST 1048576: true; the input reads as it did. -/
def fnExactWordHasTreeUptoRow : OpenClaim := { program := "ytafjpclpmbhmdaa", sum := "7d79a656d88911c99da2455d7725a9647dc7135399f300de52d1fd2efb8348ef", func := "loop.example/g01357/laws.FnExactWordHasTree", spec := "fnExactWordHasTree", unfollowed := true, recurses := true, plainKeys := false, apart := false, narrowed := true }
def FnExactWordHasTreeUptoSaid : Prop := fnExactWordHasTreeUptoRow.holds Try.pinned (OpenSpec.upto fnExactWordHasTreeSpec)

/-- 'laws.FnExactMirrorTree', WHERE WHAT IT READS IS OF BULK AT MOST 1048576: true; the input reads as it did. -/
def fnExactMirrorTreeUptoRow : OpenClaim := { program := "ytafjpclpmbhmdaa", sum := "7d79a656d88911c99da2455d7725a9647dc7135399f300de52d1fd2efb8348ef", func := "loop.example/g01357/laws.FnExactMirrorTree", spec := "fnExactMirrorTree", unfollowed := true, recurses := true, plainKeys := false, apart := false, narrowed := true }
def FnExactMirrorTreeUptoSaid : Prop := fnExactMirrorTreeUptoRow.holds Try.pinned (OpenSpec.upto fnExactMirrorTreeSpec)

/-- 'laws.FnExactFirstTree', WHERE WHAT IT READS IS OF BULK AT MOST 1048576: true; the input reads as it did. -/
def fnExactFirstTreeUptoRow : OpenClaim := { program := "ytafjpclpmbhmdaa", sum := "7d79a656d88911c99da2455d7725a9647dc7135399f300de52d1fd2efb8348ef", func := "loop.example/g01357/laws.FnExactFirstTree", spec := "fnExactFirstTree", unfollowed := true, recurses := true, plainKeys := false, apart := false, narrowed := true }
def FnExactFirstTreeUptoSaid : Prop := fnExactFirstTreeUptoRow.holds Try.pinned (OpenSpec.upto fnExactFirstTreeSpec)

/-- 'laws.FnExactLeastTrees', WHERE WHAT IT READS IS OF BULK AT MOST 1048576: true; the input reads as it did. -/
def fnExactLeastTreesUptoRow : OpenClaim := { program := "ytafjpclpmbhmdaa", sum := "7d79a656d88911c99da2455d7725a9647dc7135399f300de52d1fd2efb8348ef", func := "loop.example/g01357/laws.FnExactLeastTrees", spec := "fnExactLeastTrees", unfollowed := true, recurses := true, plainKeys := false, apart := false, narrowed := true }
def FnExactLeastTreesUptoSaid : Prop := fnExactLeastTreesUptoRow.holds Try.pinned (OpenSpec.upto fnExactLeastTreesSpec)

end Rows
end Go.Proofs.Ytafjpclpmbhmdaa
