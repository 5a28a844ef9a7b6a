/-
  No cell of these rows narrows 'for every input' (looked for: loops, veiled, ifaces, maps, wideKeys, modest, calm, conditions, laid).
  DERIVED. THE GIVEN ROWS OF THIS SEAT. 12 by the template 'for every input the law returns true; each argument reads behind the call as it read before'; 0 by the template 'total and deterministic' (their statements: YthjeebjgdeldkaaTotals.lean).
  GIVEN WITH THE SEED: the statements are not yours to turn. If you find one false, say at which input.
  Laid BY PROGRAM, IN A SANDBOX (cutbox-rows.mjs): the forced cells as the released guide's own fill.sh prints them over the translation 37214de37007c704… (all of the seat's roots in one cut). By AI agents, Wed Nov 11 2026. No macro, syntax, notation, axiom, sorry.
-/
import Derived.Test.YthjeebjgdeldkaaChecked
import GoSem.Claim
import GoSem.ClaimJoined
import GoSem.ClaimMapViews
import Derived.JoinedTies
import Derived.KernelRfl
namespace Go.Proofs.Ythjeebjgdeldkaa
/- THE CELL 'sum', in the pinned program and in every row, IS THE sha256 OF THE DUMP (.gsa) THAT YthjeebjgdeldkaaProg.lean LOADS. Nothing in Lean hashes anything: it is a label: what it is worth is what the hold of that sum in a sandbox is worth. -/
noncomputable def Try.pinned : Pinned := { name := "ythjeebjgdeldkaa", sum := "37214de37007c704a62fc5a9280bd0531405c530834d6d7b0df92a6300102224", checked := Try.checked }
namespace Rows
def none {H : Type} : Left H := { results := [], args := [] }

/-- 'laws.FnExactOutputsOf': WHATEVER THE INPUT: true; the input reads as it did. -/
def fnExactOutputsOfSpec : ChangeSpec := { name := "fnExactOutputsOf", fn := fun _ => fun
  | [d1, d2, d3] => { results := [.lit (.bool true)], args := [d1, d2, d3] }
  | _ => none }
def fnExactOutputsOfRow : OpenClaim := { program := "ythjeebjgdeldkaa", sum := "37214de37007c704a62fc5a9280bd0531405c530834d6d7b0df92a6300102224", func := "loop.example/g01357/laws.FnExactOutputsOf", spec := "fnExactOutputsOf", plainKeys := false, apart := false }
def FnExactOutputsOfSaid : Prop := fnExactOutputsOfRow.holds Try.pinned (OpenSpec.ofChange fnExactOutputsOfSpec)

/-- ITS FALSE NEIGHBOUR: 'it returns false'. Refute it at one input. -/
def fnExactOutputsOfWrong : ChangeSpec := { name := "fnExactOutputsOf", fn := fun _ => fun
  | [d1, d2, d3] => { results := [.lit (.bool false)], args := [d1, d2, d3] }
  | _ => none }
def FnExactOutputsOfWrongFalsely : Prop := fnExactOutputsOfRow.holds Try.pinned (OpenSpec.ofChange fnExactOutputsOfWrong)

/-- 'laws.FnExactLoosePairs': WHATEVER THE INPUT: true; the input reads as it did. -/
def fnExactLoosePairsSpec : ChangeSpec := { name := "fnExactLoosePairs", fn := fun _ => fun
  | [d1, d2, d3] => { results := [.lit (.bool true)], args := [d1, d2, d3] }
  | _ => none }
def fnExactLoosePairsRow : OpenClaim := { program := "ythjeebjgdeldkaa", sum := "37214de37007c704a62fc5a9280bd0531405c530834d6d7b0df92a6300102224", func := "loop.example/g01357/laws.FnExactLoosePairs", spec := "fnExactLoosePairs", unfollowed := true, recurses := true, plainKeys := false, apart := false }
def FnExactLoosePairsSaid : Prop := fnExactLoosePairsRow.holds Try.pinned (OpenSpec.ofChange fnExactLoosePairsSpec)

/-- ITS FALSE NEIGHBOUR: 'it returns false'. Refute it at one input. -/
def fnExactLoosePairsWrong : ChangeSpec := { name := "fnExactLoosePairs", fn := fun _ => fun
  | [d1, d2, d3] => { results := [.lit (.bool false)], args := [d1, d2, d3] }
  | _ => none }
def FnExactLoosePairsWrongFalsely : Prop := fnExactLoosePairsRow.holds Try.pinned (OpenSpec.ofChange fnExactLoosePairsWrong)

/-- 'laws.FnExactOverlapsOf': WHATEVER THE INPUT: true; the input reads as it did. -/
def fnExactOverlapsOfSpec : ChangeSpec := { name := "fnExactOverlapsOf", fn := fun _ => fun
  | [d1, d2] => { results := [.lit (.bool true)], args := [d1, d2] }
  | _ => none }
def fnExactOverlapsOfRow : OpenClaim := { program := "ythjeebjgdeldkaa", sum := "37214de37007c704a62fc5a9280bd0531405c530834d6d7b0df92a6300102224", func := "loop.example/g01357/laws.FnExactOverlapsOf", spec := "fnExactOverlapsOf", unfollowed := true, recurses := true, plainKeys := false, apart := false }
def FnExactOverlapsOfSaid : Prop := fnExactOverlapsOfRow.holds Try.pinned (OpenSpec.ofChange fnExactOverlapsOfSpec)

/-- ITS FALSE NEIGHBOUR: 'it returns false'. Refute it at one input. -/
def fnExactOverlapsOfWrong : ChangeSpec := { name := "fnExactOverlapsOf", fn := fun _ => fun
  | [d1, d2] => { results := [.lit (.bool false)], args := [d1, d2] }
  | _ => none }
def FnExactOverlapsOfWrongFalsely : Prop := fnExactOverlapsOfRow.holds Try.pinned (OpenSpec.ofChange fnExactOverlapsOfWrong)

/-- 'laws.FnExactChangeEnd': WHATEVER THE INPUT: true; the input reads as it did. -/
def fnExactChangeEndSpec : ChangeSpec := { name := "fnExactChangeEnd", fn := fun _ => fun
  | [d1, d2, d3, d4] => { results := [.lit (.bool true)], args := [d1, d2, d3, d4] }
  | _ => none }
def fnExactChangeEndRow : OpenClaim := { program := "ythjeebjgdeldkaa", sum := "37214de37007c704a62fc5a9280bd0531405c530834d6d7b0df92a6300102224", func := "loop.example/g01357/laws.FnExactChangeEnd", spec := "fnExactChangeEnd", unfollowed := true, recurses := true, plainKeys := false, apart := false }
def FnExactChangeEndSaid : Prop := fnExactChangeEndRow.holds Try.pinned (OpenSpec.ofChange fnExactChangeEndSpec)

/-- ITS FALSE NEIGHBOUR: 'it returns false'. Refute it at one input. -/
def fnExactChangeEndWrong : ChangeSpec := { name := "fnExactChangeEnd", fn := fun _ => fun
  | [d1, d2, d3, d4] => { results := [.lit (.bool false)], args := [d1, d2, d3, d4] }
  | _ => none }
def FnExactChangeEndWrongFalsely : Prop := fnExactChangeEndRow.holds Try.pinned (OpenSpec.ofChange fnExactChangeEndWrong)

/-- 'laws.FnExactOrderWord': WHATEVER THE INPUT: true; the input reads as it did. -/
def fnExactOrderWordSpec : ChangeSpec := { name := "fnExactOrderWord", fn := fun _ => fun
  | [d1, d2, d3, d4] => { results := [.lit (.bool true)], args := [d1, d2, d3, d4] }
  | _ => none }
def fnExactOrderWordRow : OpenClaim := { program := "ythjeebjgdeldkaa", sum := "37214de37007c704a62fc5a9280bd0531405c530834d6d7b0df92a6300102224", func := "loop.example/g01357/laws.FnExactOrderWord", spec := "fnExactOrderWord", plainKeys := false, apart := false }
def FnExactOrderWordSaid : Prop := fnExactOrderWordRow.holds Try.pinned (OpenSpec.ofChange fnExactOrderWordSpec)

/-- ITS FALSE NEIGHBOUR: 'it returns false'. Refute it at one input. -/
def fnExactOrderWordWrong : ChangeSpec := { name := "fnExactOrderWord", fn := fun _ => fun
  | [d1, d2, d3, d4] => { results := [.lit (.bool false)], args := [d1, d2, d3, d4] }
  | _ => none }
def FnExactOrderWordWrongFalsely : Prop := fnExactOrderWordRow.holds Try.pinned (OpenSpec.ofChange fnExactOrderWordWrong)

/-- 'laws.FnExactRunChanges': WHATEVER THE INPUT: true; the input reads as it did. -/
def fnExactRunChangesSpec : ChangeSpec := { name := "fnExactRunChanges", fn := fun _ => fun
  | [d1, d2, d3] => { results := [.lit (.bool true)], args := [d1, d2, d3] }
  | _ => none }
def fnExactRunChangesRow : OpenClaim := { program := "ythjeebjgdeldkaa", sum := "37214de37007c704a62fc5a9280bd0531405c530834d6d7b0df92a6300102224", func := "loop.example/g01357/laws.FnExactRunChanges", spec := "fnExactRunChanges", plainKeys := false, apart := false }
def FnExactRunChangesSaid : Prop := fnExactRunChangesRow.holds Try.pinned (OpenSpec.ofChange fnExactRunChangesSpec)

/-- ITS FALSE NEIGHBOUR: 'it returns false'. Refute it at one input. -/
def fnExactRunChangesWrong : ChangeSpec := { name := "fnExactRunChanges", fn := fun _ => fun
  | [d1, d2, d3] => { results := [.lit (.bool false)], args := [d1, d2, d3] }
  | _ => none }
def FnExactRunChangesWrongFalsely : Prop := fnExactRunChangesRow.holds Try.pinned (OpenSpec.ofChange fnExactRunChangesWrong)

/-- 'laws.FnExactTransliterate': WHATEVER THE INPUT: true; the input reads as it did. -/
def fnExactTransliterateSpec : ChangeSpec := { name := "fnExactTransliterate", fn := fun _ => fun
  | [d1, d2, d3] => { results := [.lit (.bool true)], args := [d1, d2, d3] }
  | _ => none }
def fnExactTransliterateRow : OpenClaim := { program := "ythjeebjgdeldkaa", sum := "37214de37007c704a62fc5a9280bd0531405c530834d6d7b0df92a6300102224", func := "loop.example/g01357/laws.FnExactTransliterate", spec := "fnExactTransliterate", unfollowed := true, recurses := true, plainKeys := false, apart := false }
def FnExactTransliterateSaid : Prop := fnExactTransliterateRow.holds Try.pinned (OpenSpec.ofChange fnExactTransliterateSpec)

/-- ITS FALSE NEIGHBOUR: 'it returns false'. Refute it at one input. -/
def fnExactTransliterateWrong : ChangeSpec := { name := "fnExactTransliterate", fn := fun _ => fun
  | [d1, d2, d3] => { results := [.lit (.bool false)], args := [d1, d2, d3] }
  | _ => none }
def FnExactTransliterateWrongFalsely : Prop := fnExactTransliterateRow.holds Try.pinned (OpenSpec.ofChange fnExactTransliterateWrong)

/-- 'laws.FnExactNormalOf': WHATEVER THE INPUT: true; the input reads as it did. -/
def fnExactNormalOfSpec : ChangeSpec := { name := "fnExactNormalOf", fn := fun _ => fun
  | [d1, d2, d3, d4] => { results := [.lit (.bool true)], args := [d1, d2, d3, d4] }
  | _ => none }
def fnExactNormalOfRow : OpenClaim := { program := "ythjeebjgdeldkaa", sum := "37214de37007c704a62fc5a9280bd0531405c530834d6d7b0df92a6300102224", func := "loop.example/g01357/laws.FnExactNormalOf", spec := "fnExactNormalOf", unfollowed := true, recurses := true, plainKeys := false, apart := false }
def FnExactNormalOfSaid : Prop := fnExactNormalOfRow.holds Try.pinned (OpenSpec.ofChange fnExactNormalOfSpec)

/-- ITS FALSE NEIGHBOUR: 'it returns false'. Refute it at one input. -/
def fnExactNormalOfWrong : ChangeSpec := { name := "fnExactNormalOf", fn := fun _ => fun
  | [d1, d2, d3, d4] => { results := [.lit (.bool false)], args := [d1, d2, d3, d4] }
  | _ => none }
def FnExactNormalOfWrongFalsely : Prop := fnExactNormalOfRow.holds Try.pinned (OpenSpec.ofChange fnExactNormalOfWrong)

/-- 'laws.FnExactChangesShared': WHATEVER THE INPUT: true; the input reads as it did. -/
def fnExactChangesSharedSpec : ChangeSpec := { name := "fnExactChangesShared", fn := fun _ => fun
  | [d1, d2, d3, d4] => { results := [.lit (.bool true)], args := [d1, d2, d3, d4] }
  | _ => none }
def fnExactChangesSharedRow : OpenClaim := { program := "ythjeebjgdeldkaa", sum := "37214de37007c704a62fc5a9280bd0531405c530834d6d7b0df92a6300102224", func := "loop.example/g01357/laws.FnExactChangesShared", spec := "fnExactChangesShared", plainKeys := false, apart := false }
def FnExactChangesSharedSaid : Prop := fnExactChangesSharedRow.holds Try.pinned (OpenSpec.ofChange fnExactChangesSharedSpec)

/-- ITS FALSE NEIGHBOUR: 'it returns false'. Refute it at one input. -/
def fnExactChangesSharedWrong : ChangeSpec := { name := "fnExactChangesShared", fn := fun _ => fun
  | [d1, d2, d3, d4] => { results := [.lit (.bool false)], args := [d1, d2, d3, d4] }
  | _ => none }
def FnExactChangesSharedWrongFalsely : Prop := fnExactChangesSharedRow.holds Try.pinned (OpenSpec.ofChange fnExactChangesSharedWrong)

/-- 'laws.FnExactSourcesOf': WHATEVER THE INPUT: true; the input reads as it did. -/
def fnExactSourcesOfSpec : ChangeSpec := { name := "fnExactSourcesOf", fn := fun _ => fun
  | [d1, d2, d3, d4] => { results := [.lit (.bool true)], args := [d1, d2, d3, d4] }
  | _ => none }
def fnExactSourcesOfRow : OpenClaim := { program := "ythjeebjgdeldkaa", sum := "37214de37007c704a62fc5a9280bd0531405c530834d6d7b0df92a6300102224", func := "loop.example/g01357/laws.FnExactSourcesOf", spec := "fnExactSourcesOf", unfollowed := true, recurses := true, plainKeys := false, apart := false }
def FnExactSourcesOfSaid : Prop := fnExactSourcesOfRow.holds Try.pinned (OpenSpec.ofChange fnExactSourcesOfSpec)

/-- ITS FALSE NEIGHBOUR: 'it returns false'. Refute it at one input. -/
def fnExactSourcesOfWrong : ChangeSpec := { name := "fnExactSourcesOf", fn := fun _ => fun
  | [d1, d2, d3, d4] => { results := [.lit (.bool false)], args := [d1, d2, d3, d4] }
  | _ => none }
def FnExactSourcesOfWrongFalsely : Prop := fnExactSourcesOfRow.holds Try.pinned (OpenSpec.ofChange fnExactSourcesOfWrong)

/-- 'laws.FnExactBackLiterate': WHATEVER THE INPUT: true; the input reads as it did. -/
def fnExactBackLiterateSpec : ChangeSpec := { name := "fnExactBackLiterate", fn := fun _ => fun
  | [d1, d2, d3] => { results := [.lit (.bool true)], args := [d1, d2, d3] }
  | _ => none }
def fnExactBackLiterateRow : OpenClaim := { program := "ythjeebjgdeldkaa", sum := "37214de37007c704a62fc5a9280bd0531405c530834d6d7b0df92a6300102224", func := "loop.example/g01357/laws.FnExactBackLiterate", spec := "fnExactBackLiterate", unfollowed := true, recurses := true, plainKeys := false, apart := false }
def FnExactBackLiterateSaid : Prop := fnExactBackLiterateRow.holds Try.pinned (OpenSpec.ofChange fnExactBackLiterateSpec)

/-- ITS FALSE NEIGHBOUR: 'it returns false'. Refute it at one input. -/
def fnExactBackLiterateWrong : ChangeSpec := { name := "fnExactBackLiterate", fn := fun _ => fun
  | [d1, d2, d3] => { results := [.lit (.bool false)], args := [d1, d2, d3] }
  | _ => none }
def FnExactBackLiterateWrongFalsely : Prop := fnExactBackLiterateRow.holds Try.pinned (OpenSpec.ofChange fnExactBackLiterateWrong)

/-- 'laws.FnChanged': WHATEVER THE INPUT: true; the input reads as it did. -/
def fnChangedSpec : ChangeSpec := { name := "fnChanged", fn := fun _ => fun
  | [d1, d2] => { results := [.lit (.bool true)], args := [d1, d2] }
  | _ => none }
def fnChangedRow : OpenClaim := { program := "ythjeebjgdeldkaa", sum := "37214de37007c704a62fc5a9280bd0531405c530834d6d7b0df92a6300102224", func := "loop.example/g01357/laws.FnChanged", spec := "fnChanged", unfollowed := true, recurses := true, plainKeys := false, apart := false }
def FnChangedSaid : Prop := fnChangedRow.holds Try.pinned (OpenSpec.ofChange fnChangedSpec)

/-- ITS FALSE NEIGHBOUR: 'it returns false'. Refute it at one input. -/
def fnChangedWrong : ChangeSpec := { name := "fnChanged", fn := fun _ => fun
  | [d1, d2] => { results := [.lit (.bool false)], args := [d1, d2] }
  | _ => none }
def FnChangedWrongFalsely : Prop := fnChangedRow.holds Try.pinned (OpenSpec.ofChange fnChangedWrong)

/- THE SECOND FORM. 'bulk': how many values and letters a reading holds, each counted each time it is reached (what is shared counts as often as it is met; a slice's spare places count too). A statement '..UptoSaid' is the law's where the arguments, and the package variables that the reading takes, are together of bulk at most 1048576: NARROWER than '..Said'. Prove '..Said' where nothing that the law and all that it calls make is longer than what came in: it says more and counts as full. Else prove '..UptoSaid'. A law counts once. -/
mutual
def uptoBulk {H : Type} : DataW H → Nat
  | .lit (.string bytes) => bytes.length + 1
  | .lit _ => 1
  | .nil => 1
  | .ptr d => uptoBulk d + 1
  | .slice elems spare => uptoBulkAll elems + uptoBulkAll spare + 1
  | .agg parts => uptoBulkAll parts + 1
  | .iface _ d => uptoBulk d + 1
  | .map entries => uptoBulkEntries entries + 1
  | .held _ => 1
def uptoBulkAll {H : Type} : List (DataW H) → Nat
  | [] => 0
  | d :: r => uptoBulk d + uptoBulkAll r
def uptoBulkEntries {H : Type} : List (Lit × DataW H) → Nat
  | [] => 0
  | x :: r => uptoBulkEntry x + uptoBulkEntries r
def uptoBulkEntry {H : Type} : Lit × DataW H → Nat
  | (.string bytes, d) => bytes.length + uptoBulk d + 1
  | (_, d) => uptoBulk d + 1
 end
def uptoSmall : (H : Type) → List (DataW H) → Bool := fun _ ds => decide (uptoBulkAll ds ≤ 1048576)
def OpenSpec.upto (s : _root_.Go.ChangeSpec) : _root_.Go.OpenSpec := { _root_.Go.OpenSpec.ofChange s with cond := some uptoSmall }

/-- 'laws.FnExactOutputsOf', WHERE WHAT IT READS IS OF BULK AT MOST 1048576: true; the input reads as it did. -/
def fnExactOutputsOfUptoRow : OpenClaim := { program := "ythjeebjgdeldkaa", sum := "37214de37007c704a62fc5a9280bd0531405c530834d6d7b0df92a6300102224", func := "loop.example/g01357/laws.FnExactOutputsOf", spec := "fnExactOutputsOf", plainKeys := false, apart := false, narrowed := true }
def FnExactOutputsOfUptoSaid : Prop := fnExactOutputsOfUptoRow.holds Try.pinned (OpenSpec.upto fnExactOutputsOfSpec)

/-- 'laws.FnExactLoosePairs', WHERE WHAT IT READS IS OF BULK AT MOST 1048576: true; the input reads as it did. -/
def fnExactLoosePairsUptoRow : OpenClaim := { program := "ythjeebjgdeldkaa", sum := "37214de37007c704a62fc5a9280bd0531405c530834d6d7b0df92a6300102224", func := "loop.example/g01357/laws.FnExactLoosePairs", spec := "fnExactLoosePairs", unfollowed := true, recurses := true, plainKeys := false, apart := false, narrowed := true }
def FnExactLoosePairsUptoSaid : Prop := fnExactLoosePairsUptoRow.holds Try.pinned (OpenSpec.upto fnExactLoosePairsSpec)

/-- 'laws.FnExactOverlapsOf', WHERE WHAT IT READS IS OF BULK AT MOST 1048576: true; the input reads as it did. -/
def fnExactOverlapsOfUptoRow : OpenClaim := { program := "ythjeebjgdeldkaa", sum := "37214de37007c704a62fc5a9280bd0531405c530834d6d7b0df92a6300102224", func := "loop.example/g01357/laws.FnExactOverlapsOf", spec := "fnExactOverlapsOf", unfollowed := true, recurses := true, plainKeys := false, apart := false, narrowed := true }
def FnExactOverlapsOfUptoSaid : Prop := fnExactOverlapsOfUptoRow.holds Try.pinned (OpenSpec.upto fnExactOverlapsOfSpec)

/-- 'laws.FnExactChangeEnd', WHERE WHAT IT READS IS OF BULK AT MOST 1048576: true; the input reads as it did. -/
def fnExactChangeEndUptoRow : OpenClaim := { program := "ythjeebjgdeldkaa", sum := "37214de37007c704a62fc5a9280bd0531405c530834d6d7b0df92a6300102224", func := "loop.example/g01357/laws.FnExactChangeEnd", spec := "fnExactChangeEnd", unfollowed := true, recurses := true, plainKeys := false, apart := false, narrowed := true }
def FnExactChangeEndUptoSaid : Prop := fnExactChangeEndUptoRow.holds Try.pinned (OpenSpec.upto fnExactChangeEndSpec)

/-- 'laws.FnExactOrderWord', WHERE WHAT IT READS IS OF BULK AT MOST 1048576: true; the input reads as it did. -/
def fnExactOrderWordUptoRow : OpenClaim := { program := "ythjeebjgdeldkaa", sum := "37214de37007c704a62fc5a9280bd0531405c530834d6d7b0df92a6300102224", func := "loop.example/g01357/laws.FnExactOrderWord", spec := "fnExactOrderWord", plainKeys := false, apart := false, narrowed := true }
def FnExactOrderWordUptoSaid : Prop := fnExactOrderWordUptoRow.holds Try.pinned (OpenSpec.upto fnExactOrderWordSpec)

/-- 'laws.FnExactRunChanges', WHERE WHAT IT READS IS OF BULK AT MOST 1048576: true; the input reads as it did. -/
def fnExactRunChangesUptoRow : OpenClaim := { program := "ythjeebjgdeldkaa", sum := "37214de37007c704a62fc5a9280bd0531405c530834d6d7b0df92a6300102224", func := "loop.example/g01357/laws.FnExactRunChanges", spec := "fnExactRunChanges", plainKeys := false, apart := false, narrowed := true }
def FnExactRunChangesUptoSaid : Prop := fnExactRunChangesUptoRow.holds Try.pinned (OpenSpec.upto fnExactRunChangesSpec)

/-- 'laws.FnExactTransliterate', WHERE WHAT IT READS IS OF BULK AT MOST 1048576: true; the input reads as it did. -/
def fnExactTransliterateUptoRow : OpenClaim := { program := "ythjeebjgdeldkaa", sum := "37214de37007c704a62fc5a9280bd0531405c530834d6d7b0df92a6300102224", func := "loop.example/g01357/laws.FnExactTransliterate", spec := "fnExactTransliterate", unfollowed := true, recurses := true, plainKeys := false, apart := false, narrowed := true }
def FnExactTransliterateUptoSaid : Prop := fnExactTransliterateUptoRow.holds Try.pinned (OpenSpec.upto fnExactTransliterateSpec)

/-- 'laws.FnExactNormalOf', WHERE WHAT IT READS IS OF BULK AT MOST 1048576: true; the input reads as it did. -/
def fnExactNormalOfUptoRow : OpenClaim := { program := "ythjeebjgdeldkaa", sum := "37214de37007c704a62fc5a9280bd0531405c530834d6d7b0df92a6300102224", func := "loop.example/g01357/laws.FnExactNormalOf", spec := "fnExactNormalOf", unfollowed := true, recurses := true, plainKeys := false, apart := false, narrowed := true }
def FnExactNormalOfUptoSaid : Prop := fnExactNormalOfUptoRow.holds Try.pinned (OpenSpec.upto fnExactNormalOfSpec)

/-- 'laws.FnExactChangesShared', WHERE WHAT IT READS IS OF BULK AT MOST 1048576: true; the input reads as it did. -/
def fnExactChangesSharedUptoRow : OpenClaim := { program := "ythjeebjgdeldkaa", sum := "37214de37007c704a62fc5a9280bd0531405c530834d6d7b0df92a6300102224", func := "loop.example/g01357/laws.FnExactChangesShared", spec := "fnExactChangesShared", plainKeys := false, apart := false, narrowed := true }
def FnExactChangesSharedUptoSaid : Prop := fnExactChangesSharedUptoRow.holds Try.pinned (OpenSpec.upto fnExactChangesSharedSpec)

/-- 'laws.FnExactSourcesOf', WHERE WHAT IT READS IS OF BULK AT MOST 1048576: true; the input reads as it did. -/
def fnExactSourcesOfUptoRow : OpenClaim := { program := "ythjeebjgdeldkaa", sum := "37214de37007c704a62fc5a9280bd0531405c530834d6d7b0df92a6300102224", func := "loop.example/g01357/laws.FnExactSourcesOf", spec := "fnExactSourcesOf", unfollowed := true, recurses := true, plainKeys := false, apart := false, narrowed := true }
def FnExactSourcesOfUptoSaid : Prop := fnExactSourcesOfUptoRow.holds Try.pinned (OpenSpec.upto fnExactSourcesOfSpec)

/-- 'laws.FnExactBackLiterate', WHERE WHAT IT READS IS OF BULK AT MOST 1048576: true; the input reads as it did. -/
def fnExactBackLiterateUptoRow : OpenClaim := { program := "ythjeebjgdeldkaa", sum := "37214de37007c704a62fc5a9280bd0531405c530834d6d7b0df92a6300102224", func := "loop.example/g01357/laws.FnExactBackLiterate", spec := "fnExactBackLiterate", unfollowed := true, recurses := true, plainKeys := false, apart := false, narrowed := true }
def FnExactBackLiterateUptoSaid : Prop := fnExactBackLiterateUptoRow.holds Try.pinned (OpenSpec.upto fnExactBackLiterateSpec)

/-- 'laws.FnChanged', WHERE WHAT IT READS IS OF BULK AT MOST 1048576: true; the input reads as it did. -/
def fnChangedUptoRow : OpenClaim := { program := "ythjeebjgdeldkaa", sum := "37214de37007c704a62fc5a9280bd0531405c530834d6d7b0df92a6300102224", func := "loop.example/g01357/laws.FnChanged", spec := "fnChanged", unfollowed := true, recurses := true, plainKeys := false, apart := false, narrowed := true }
def FnChangedUptoSaid : Prop := fnChangedUptoRow.holds Try.pinned (OpenSpec.upto fnChangedSpec)

end Rows
end Go.Proofs.Ythjeebjgdeldkaa
