/-
  No cell of these rows narrows 'for every input' (looked for: loops, veiled, ifaces, maps, wideKeys, modest, calm, conditions, laid).
  DERIVED. THE GIVEN ROWS OF THIS SEAT. 12 by the template 'for every input the law returns true; each argument reads behind the call as it read before'; 0 by the template 'total and deterministic' (their statements: YtliakkhlgflbcaaTotals.lean).
  GIVEN WITH THE SEED: the statements are not yours to turn. If you find one false, say at which input.
  Laid BY PROGRAM, IN A SANDBOX (cutbox-rows.mjs): the forced cells as the released guide's own fill.sh prints them over the translation 169276673d7d283a… (all of the seat's roots in one cut). By AI agents, Wed Nov 11 2026. No macro, syntax, notation, axiom, sorry.
-/
import Derived.Test.YtliakkhlgflbcaaChecked
import GoSem.Claim
import GoSem.ClaimJoined
import GoSem.ClaimMapViews
import Derived.JoinedTies
import Derived.KernelRfl
namespace Go.Proofs.Ytliakkhlgflbcaa
/- THE CELL 'sum', in the pinned program and in every row, IS THE sha256 OF THE DUMP (.gsa) THAT YtliakkhlgflbcaaProg.lean LOADS. Nothing in Lean hashes anything: it is a label: what it is worth is what the hold of that sum in a sandbox is worth. -/
noncomputable def Try.pinned : Pinned := { name := "ytliakkhlgflbcaa", sum := "169276673d7d283acefcf9d61de297fd2f137ec364cbf197b1dfc42be6ff5f6b", checked := Try.checked }
namespace Rows
def none {H : Type} : Left H := { results := [], args := [] }

/-- 'laws.FnExactSameZone': WHATEVER THE INPUT: true; the input reads as it did. -/
def fnExactSameZoneSpec : ChangeSpec := { name := "fnExactSameZone", fn := fun _ => fun
  | [d1, d2] => { results := [.lit (.bool true)], args := [d1, d2] }
  | _ => none }
def fnExactSameZoneRow : OpenClaim := { program := "ytliakkhlgflbcaa", sum := "169276673d7d283acefcf9d61de297fd2f137ec364cbf197b1dfc42be6ff5f6b", func := "loop.example/g01357/laws.FnExactSameZone", spec := "fnExactSameZone", apart := false }
def FnExactSameZoneSaid : Prop := fnExactSameZoneRow.holds Try.pinned (OpenSpec.ofChange fnExactSameZoneSpec)

/-- ITS FALSE NEIGHBOUR: 'it returns false'. Refute it at one input. -/
def fnExactSameZoneWrong : ChangeSpec := { name := "fnExactSameZone", fn := fun _ => fun
  | [d1, d2] => { results := [.lit (.bool false)], args := [d1, d2] }
  | _ => none }
def FnExactSameZoneWrongFalsely : Prop := fnExactSameZoneRow.holds Try.pinned (OpenSpec.ofChange fnExactSameZoneWrong)

/-- 'laws.FnExactValidLoop': WHATEVER THE INPUT: true; the input reads as it did. -/
def fnExactValidLoopSpec : ChangeSpec := { name := "fnExactValidLoop", fn := fun _ => fun
  | [d1, d2] => { results := [.lit (.bool true)], args := [d1, d2] }
  | _ => none }
def fnExactValidLoopRow : OpenClaim := { program := "ytliakkhlgflbcaa", sum := "169276673d7d283acefcf9d61de297fd2f137ec364cbf197b1dfc42be6ff5f6b", func := "loop.example/g01357/laws.FnExactValidLoop", spec := "fnExactValidLoop", apart := false }
def FnExactValidLoopSaid : Prop := fnExactValidLoopRow.holds Try.pinned (OpenSpec.ofChange fnExactValidLoopSpec)

/-- ITS FALSE NEIGHBOUR: 'it returns false'. Refute it at one input. -/
def fnExactValidLoopWrong : ChangeSpec := { name := "fnExactValidLoop", fn := fun _ => fun
  | [d1, d2] => { results := [.lit (.bool false)], args := [d1, d2] }
  | _ => none }
def FnExactValidLoopWrongFalsely : Prop := fnExactValidLoopRow.holds Try.pinned (OpenSpec.ofChange fnExactValidLoopWrong)

/-- 'laws.FnExactWholeZone': WHATEVER THE INPUT: true; the input reads as it did. -/
def fnExactWholeZoneSpec : ChangeSpec := { name := "fnExactWholeZone", fn := fun _ => fun
  | [d] => { results := [.lit (.bool true)], args := [d] }
  | _ => none }
def fnExactWholeZoneRow : OpenClaim := { program := "ytliakkhlgflbcaa", sum := "169276673d7d283acefcf9d61de297fd2f137ec364cbf197b1dfc42be6ff5f6b", func := "loop.example/g01357/laws.FnExactWholeZone", spec := "fnExactWholeZone", apart := false }
def FnExactWholeZoneSaid : Prop := fnExactWholeZoneRow.holds Try.pinned (OpenSpec.ofChange fnExactWholeZoneSpec)

/-- ITS FALSE NEIGHBOUR: 'it returns false'. Refute it at one input. -/
def fnExactWholeZoneWrong : ChangeSpec := { name := "fnExactWholeZone", fn := fun _ => fun
  | [d] => { results := [.lit (.bool false)], args := [d] }
  | _ => none }
def FnExactWholeZoneWrongFalsely : Prop := fnExactWholeZoneRow.holds Try.pinned (OpenSpec.ofChange fnExactWholeZoneWrong)

/-- 'laws.FnExactValidZone': WHATEVER THE INPUT: true; the input reads as it did. -/
def fnExactValidZoneSpec : ChangeSpec := { name := "fnExactValidZone", fn := fun _ => fun
  | [d] => { results := [.lit (.bool true)], args := [d] }
  | _ => none }
def fnExactValidZoneRow : OpenClaim := { program := "ytliakkhlgflbcaa", sum := "169276673d7d283acefcf9d61de297fd2f137ec364cbf197b1dfc42be6ff5f6b", func := "loop.example/g01357/laws.FnExactValidZone", spec := "fnExactValidZone", apart := false }
def FnExactValidZoneSaid : Prop := fnExactValidZoneRow.holds Try.pinned (OpenSpec.ofChange fnExactValidZoneSpec)

/-- ITS FALSE NEIGHBOUR: 'it returns false'. Refute it at one input. -/
def fnExactValidZoneWrong : ChangeSpec := { name := "fnExactValidZone", fn := fun _ => fun
  | [d] => { results := [.lit (.bool false)], args := [d] }
  | _ => none }
def FnExactValidZoneWrongFalsely : Prop := fnExactValidZoneRow.holds Try.pinned (OpenSpec.ofChange fnExactValidZoneWrong)

/-- 'laws.FnExactLetterAt': WHATEVER THE INPUT: true; the input reads as it did. -/
def fnExactLetterAtSpec : ChangeSpec := { name := "fnExactLetterAt", fn := fun _ => fun
  | [d1, d2, d3] => { results := [.lit (.bool true)], args := [d1, d2, d3] }
  | _ => none }
def fnExactLetterAtRow : OpenClaim := { program := "ytliakkhlgflbcaa", sum := "169276673d7d283acefcf9d61de297fd2f137ec364cbf197b1dfc42be6ff5f6b", func := "loop.example/g01357/laws.FnExactLetterAt", spec := "fnExactLetterAt", apart := false }
def FnExactLetterAtSaid : Prop := fnExactLetterAtRow.holds Try.pinned (OpenSpec.ofChange fnExactLetterAtSpec)

/-- ITS FALSE NEIGHBOUR: 'it returns false'. Refute it at one input. -/
def fnExactLetterAtWrong : ChangeSpec := { name := "fnExactLetterAt", fn := fun _ => fun
  | [d1, d2, d3] => { results := [.lit (.bool false)], args := [d1, d2, d3] }
  | _ => none }
def FnExactLetterAtWrongFalsely : Prop := fnExactLetterAtRow.holds Try.pinned (OpenSpec.ofChange fnExactLetterAtWrong)

/-- 'laws.FnExactHoldsIn': WHATEVER THE INPUT: true; the input reads as it did. -/
def fnExactHoldsInSpec : ChangeSpec := { name := "fnExactHoldsIn", fn := fun _ => fun
  | [d1, d2] => { results := [.lit (.bool true)], args := [d1, d2] }
  | _ => none }
def fnExactHoldsInRow : OpenClaim := { program := "ytliakkhlgflbcaa", sum := "169276673d7d283acefcf9d61de297fd2f137ec364cbf197b1dfc42be6ff5f6b", func := "loop.example/g01357/laws.FnExactHoldsIn", spec := "fnExactHoldsIn", apart := false }
def FnExactHoldsInSaid : Prop := fnExactHoldsInRow.holds Try.pinned (OpenSpec.ofChange fnExactHoldsInSpec)

/-- ITS FALSE NEIGHBOUR: 'it returns false'. Refute it at one input. -/
def fnExactHoldsInWrong : ChangeSpec := { name := "fnExactHoldsIn", fn := fun _ => fun
  | [d1, d2] => { results := [.lit (.bool false)], args := [d1, d2] }
  | _ => none }
def FnExactHoldsInWrongFalsely : Prop := fnExactHoldsInRow.holds Try.pinned (OpenSpec.ofChange fnExactHoldsInWrong)

/-- 'laws.FnExactSameGame': WHATEVER THE INPUT: true; the input reads as it did. -/
def fnExactSameGameSpec : ChangeSpec := { name := "fnExactSameGame", fn := fun _ => fun
  | [d1, d2] => { results := [.lit (.bool true)], args := [d1, d2] }
  | _ => none }
def fnExactSameGameRow : OpenClaim := { program := "ytliakkhlgflbcaa", sum := "169276673d7d283acefcf9d61de297fd2f137ec364cbf197b1dfc42be6ff5f6b", func := "loop.example/g01357/laws.FnExactSameGame", spec := "fnExactSameGame", unfollowed := true, recurses := true, apart := false }
def FnExactSameGameSaid : Prop := fnExactSameGameRow.holds Try.pinned (OpenSpec.ofChange fnExactSameGameSpec)

/-- ITS FALSE NEIGHBOUR: 'it returns false'. Refute it at one input. -/
def fnExactSameGameWrong : ChangeSpec := { name := "fnExactSameGame", fn := fun _ => fun
  | [d1, d2] => { results := [.lit (.bool false)], args := [d1, d2] }
  | _ => none }
def FnExactSameGameWrongFalsely : Prop := fnExactSameGameRow.holds Try.pinned (OpenSpec.ofChange fnExactSameGameWrong)

/-- 'laws.FnExactValidGame': WHATEVER THE INPUT: true; the input reads as it did. -/
def fnExactValidGameSpec : ChangeSpec := { name := "fnExactValidGame", fn := fun _ => fun
  | [d] => { results := [.lit (.bool true)], args := [d] }
  | _ => none }
def fnExactValidGameRow : OpenClaim := { program := "ytliakkhlgflbcaa", sum := "169276673d7d283acefcf9d61de297fd2f137ec364cbf197b1dfc42be6ff5f6b", func := "loop.example/g01357/laws.FnExactValidGame", spec := "fnExactValidGame", unfollowed := true, recurses := true, apart := false }
def FnExactValidGameSaid : Prop := fnExactValidGameRow.holds Try.pinned (OpenSpec.ofChange fnExactValidGameSpec)

/-- ITS FALSE NEIGHBOUR: 'it returns false'. Refute it at one input. -/
def fnExactValidGameWrong : ChangeSpec := { name := "fnExactValidGame", fn := fun _ => fun
  | [d] => { results := [.lit (.bool false)], args := [d] }
  | _ => none }
def FnExactValidGameWrongFalsely : Prop := fnExactValidGameRow.holds Try.pinned (OpenSpec.ofChange fnExactValidGameWrong)

/-- 'laws.FnCalls': WHATEVER THE INPUT: true; the input reads as it did. -/
def fnCallsSpec : ChangeSpec := { name := "fnCalls", fn := fun _ => fun
  | [d1, d2] => { results := [.lit (.bool true)], args := [d1, d2] }
  | _ => none }
def fnCallsRow : OpenClaim := { program := "ytliakkhlgflbcaa", sum := "169276673d7d283acefcf9d61de297fd2f137ec364cbf197b1dfc42be6ff5f6b", func := "loop.example/g01357/laws.FnCalls", spec := "fnCalls", apart := false }
def FnCallsSaid : Prop := fnCallsRow.holds Try.pinned (OpenSpec.ofChange fnCallsSpec)

/-- ITS FALSE NEIGHBOUR: 'it returns false'. Refute it at one input. -/
def fnCallsWrong : ChangeSpec := { name := "fnCalls", fn := fun _ => fun
  | [d1, d2] => { results := [.lit (.bool false)], args := [d1, d2] }
  | _ => none }
def FnCallsWrongFalsely : Prop := fnCallsRow.holds Try.pinned (OpenSpec.ofChange fnCallsWrong)

/-- 'laws.FnExactPartnersOf': WHATEVER THE INPUT: true; the input reads as it did. -/
def fnExactPartnersOfSpec : ChangeSpec := { name := "fnExactPartnersOf", fn := fun _ => fun
  | [d1, d2] => { results := [.lit (.bool true)], args := [d1, d2] }
  | _ => none }
def fnExactPartnersOfRow : OpenClaim := { program := "ytliakkhlgflbcaa", sum := "169276673d7d283acefcf9d61de297fd2f137ec364cbf197b1dfc42be6ff5f6b", func := "loop.example/g01357/laws.FnExactPartnersOf", spec := "fnExactPartnersOf", apart := false }
def FnExactPartnersOfSaid : Prop := fnExactPartnersOfRow.holds Try.pinned (OpenSpec.ofChange fnExactPartnersOfSpec)

/-- ITS FALSE NEIGHBOUR: 'it returns false'. Refute it at one input. -/
def fnExactPartnersOfWrong : ChangeSpec := { name := "fnExactPartnersOf", fn := fun _ => fun
  | [d1, d2] => { results := [.lit (.bool false)], args := [d1, d2] }
  | _ => none }
def FnExactPartnersOfWrongFalsely : Prop := fnExactPartnersOfRow.holds Try.pinned (OpenSpec.ofChange fnExactPartnersOfWrong)

/-- 'laws.FnExactIsPartZone': WHATEVER THE INPUT: true; the input reads as it did. -/
def fnExactIsPartZoneSpec : ChangeSpec := { name := "fnExactIsPartZone", fn := fun _ => fun
  | [d1, d2] => { results := [.lit (.bool true)], args := [d1, d2] }
  | _ => none }
def fnExactIsPartZoneRow : OpenClaim := { program := "ytliakkhlgflbcaa", sum := "169276673d7d283acefcf9d61de297fd2f137ec364cbf197b1dfc42be6ff5f6b", func := "loop.example/g01357/laws.FnExactIsPartZone", spec := "fnExactIsPartZone", apart := false }
def FnExactIsPartZoneSaid : Prop := fnExactIsPartZoneRow.holds Try.pinned (OpenSpec.ofChange fnExactIsPartZoneSpec)

/-- ITS FALSE NEIGHBOUR: 'it returns false'. Refute it at one input. -/
def fnExactIsPartZoneWrong : ChangeSpec := { name := "fnExactIsPartZone", fn := fun _ => fun
  | [d1, d2] => { results := [.lit (.bool false)], args := [d1, d2] }
  | _ => none }
def FnExactIsPartZoneWrongFalsely : Prop := fnExactIsPartZoneRow.holds Try.pinned (OpenSpec.ofChange fnExactIsPartZoneWrong)

/-- 'laws.FnExactTightZone': WHATEVER THE INPUT: true; the input reads as it did. -/
def fnExactTightZoneSpec : ChangeSpec := { name := "fnExactTightZone", fn := fun _ => fun
  | [d] => { results := [.lit (.bool true)], args := [d] }
  | _ => none }
def fnExactTightZoneRow : OpenClaim := { program := "ytliakkhlgflbcaa", sum := "169276673d7d283acefcf9d61de297fd2f137ec364cbf197b1dfc42be6ff5f6b", func := "loop.example/g01357/laws.FnExactTightZone", spec := "fnExactTightZone", apart := false }
def FnExactTightZoneSaid : Prop := fnExactTightZoneRow.holds Try.pinned (OpenSpec.ofChange fnExactTightZoneSpec)

/-- ITS FALSE NEIGHBOUR: 'it returns false'. Refute it at one input. -/
def fnExactTightZoneWrong : ChangeSpec := { name := "fnExactTightZone", fn := fun _ => fun
  | [d] => { results := [.lit (.bool false)], args := [d] }
  | _ => none }
def FnExactTightZoneWrongFalsely : Prop := fnExactTightZoneRow.holds Try.pinned (OpenSpec.ofChange fnExactTightZoneWrong)

/- THE SECOND FORM. 'bulk': how many values and letters a reading holds, each counted each time it is reached (what is shared counts as often as it is met; a slice's spare places count too). A statement '..UptoSaid' is the law's where the arguments, and the package variables that the reading takes, are together of bulk at most 1048576: NARROWER than '..Said'. Prove '..Said' where nothing that the law and all that it calls make is longer than what came in: it says more and counts as full. Else prove '..UptoSaid'. A law counts once. -/
mutual
def uptoBulk {H : Type} : DataW H → Nat
  | .lit (.string bytes) => bytes.length + 1
  | .lit _ => 1
  | .nil => 1
  | .ptr d => uptoBulk d + 1
  | .slice elems spare => uptoBulkAll elems + uptoBulkAll spare + 1
  | .agg parts => uptoBulkAll parts + 1
  | .iface _ d => uptoBulk d + 1
  | .map entries => uptoBulkEntries entries + 1
  | .held _ => 1
def uptoBulkAll {H : Type} : List (DataW H) → Nat
  | [] => 0
  | d :: r => uptoBulk d + uptoBulkAll r
def uptoBulkEntries {H : Type} : List (Lit × DataW H) → Nat
  | [] => 0
  | x :: r => uptoBulkEntry x + uptoBulkEntries r
def uptoBulkEntry {H : Type} : Lit × DataW H → Nat
  | (.string bytes, d) => bytes.length + uptoBulk d + 1
  | (_, d) => uptoBulk d + 1
 end
def uptoSmall : (H : Type) → List (DataW H) → Bool := fun _ ds => decide (uptoBulkAll ds ≤ 1048576)
def OpenSpec.upto (s : _root_.Go.ChangeSpec) : _root_.Go.OpenSpec := { _root_.Go.OpenSpec.ofChange s with cond := some uptoSmall }

/-- 'laws.FnExactSameZone', WHERE WHAT IT READS IS OF BULK AT MOST 1048576: true; the input reads as it did. -/
def fnExactSameZoneUptoRow : OpenClaim := { program := "ytliakkhlgflbcaa", sum := "169276673d7d283acefcf9d61de297fd2f137ec364cbf197b1dfc42be6ff5f6b", func := "loop.example/g01357/laws.FnExactSameZone", spec := "fnExactSameZone", apart := false, narrowed := true }
def FnExactSameZoneUptoSaid : Prop := fnExactSameZoneUptoRow.holds Try.pinned (OpenSpec.upto fnExactSameZoneSpec)

/-- 'laws.FnExactValidLoop', WHERE WHAT IT READS IS OF BULK AT MOST 1048576: true; the input reads as it did. -/
def fnExactValidLoopUptoRow : OpenClaim := { program := "ytliakkhlgflbcaa", sum := "169276673d7d283acefcf9d61de297fd2f137ec364cbf197b1dfc42be6ff5f6b", func := "loop.example/g01357/laws.FnExactValidLoop", spec := "fnExactValidLoop", apart := false, narrowed := true }
def FnExactValidLoopUptoSaid : Prop := fnExactValidLoopUptoRow.holds Try.pinned (OpenSpec.upto fnExactValidLoopSpec)

/-- 'laws.FnExactWholeZone', WHERE WHAT IT READS IS OF BULK AT MOST 1048576: true; the input reads as it did. -/
def fnExactWholeZoneUptoRow : OpenClaim := { program := "ytliakkhlgflbcaa", sum := "169276673d7d283acefcf9d61de297fd2f137ec364cbf197b1dfc42be6ff5f6b", func := "loop.example/g01357/laws.FnExactWholeZone", spec := "fnExactWholeZone", apart := false, narrowed := true }
def FnExactWholeZoneUptoSaid : Prop := fnExactWholeZoneUptoRow.holds Try.pinned (OpenSpec.upto fnExactWholeZoneSpec)

/-- 'laws.FnExactValidZone', WHERE WHAT IT READS IS OF BULK AT MOST 1048576: true; the input reads as it did. -/
def fnExactValidZoneUptoRow : OpenClaim := { program := "ytliakkhlgflbcaa", sum := "169276673d7d283acefcf9d61de297fd2f137ec364cbf197b1dfc42be6ff5f6b", func := "loop.example/g01357/laws.FnExactValidZone", spec := "fnExactValidZone", apart := false, narrowed := true }
def FnExactValidZoneUptoSaid : Prop := fnExactValidZoneUptoRow.holds Try.pinned (OpenSpec.upto fnExactValidZoneSpec)

/-- 'laws.FnExactLetterAt', WHERE WHAT IT READS IS OF BULK AT MOST 1048576: true; the input reads as it did. -/
def fnExactLetterAtUptoRow : OpenClaim := { program := "ytliakkhlgflbcaa", sum := "169276673d7d283acefcf9d61de297fd2f137ec364cbf197b1dfc42be6ff5f6b", func := "loop.example/g01357/laws.FnExactLetterAt", spec := "fnExactLetterAt", apart := false, narrowed := true }
def FnExactLetterAtUptoSaid : Prop := fnExactLetterAtUptoRow.holds Try.pinned (OpenSpec.upto fnExactLetterAtSpec)

/-- 'laws.FnExactHoldsIn', WHERE WHAT IT READS IS OF BULK AT MOST 1048576: true; the input reads as it did. -/
def fnExactHoldsInUptoRow : OpenClaim := { program := "ytliakkhlgflbcaa", sum := "169276673d7d283acefcf9d61de297fd2f137ec364cbf197b1dfc42be6ff5f6b", func := "loop.example/g01357/laws.FnExactHoldsIn", spec := "fnExactHoldsIn", apart := false, narrowed := true }
def FnExactHoldsInUptoSaid : Prop := fnExactHoldsInUptoRow.holds Try.pinned (OpenSpec.upto fnExactHoldsInSpec)

/-- 'laws.FnExactSameGame', WHERE WHAT IT READS IS OF BULK AT MOST 1048576: true; the input reads as it did. -/
def fnExactSameGameUptoRow : OpenClaim := { program := "ytliakkhlgflbcaa", sum := "169276673d7d283acefcf9d61de297fd2f137ec364cbf197b1dfc42be6ff5f6b", func := "loop.example/g01357/laws.FnExactSameGame", spec := "fnExactSameGame", unfollowed := true, recurses := true, apart := false, narrowed := true }
def FnExactSameGameUptoSaid : Prop := fnExactSameGameUptoRow.holds Try.pinned (OpenSpec.upto fnExactSameGameSpec)

/-- 'laws.FnExactValidGame', WHERE WHAT IT READS IS OF BULK AT MOST 1048576: true; the input reads as it did. -/
def fnExactValidGameUptoRow : OpenClaim := { program := "ytliakkhlgflbcaa", sum := "169276673d7d283acefcf9d61de297fd2f137ec364cbf197b1dfc42be6ff5f6b", func := "loop.example/g01357/laws.FnExactValidGame", spec := "fnExactValidGame", unfollowed := true, recurses := true, apart := false, narrowed := true }
def FnExactValidGameUptoSaid : Prop := fnExactValidGameUptoRow.holds Try.pinned (OpenSpec.upto fnExactValidGameSpec)

/-- 'laws.FnCalls', WHERE WHAT IT READS IS OF BULK AT MOST 1048576: true; the input reads as it did. -/
def fnCallsUptoRow : OpenClaim := { program := "ytliakkhlgflbcaa", sum := "169276673d7d283acefcf9d61de297fd2f137ec364cbf197b1dfc42be6ff5f6b", func := "loop.example/g01357/laws.FnCalls", spec := "fnCalls", apart := false, narrowed := true }
def FnCallsUptoSaid : Prop := fnCallsUptoRow.holds Try.pinned (OpenSpec.upto fnCallsSpec)

/-- 'laws.FnExactPartnersOf', WHERE WHAT IT READS IS OF BULK AT MOST 1048576: true; the input reads as it did. -/
def fnExactPartnersOfUptoRow : OpenClaim := { program := "ytliakkhlgflbcaa", sum := "169276673d7d283acefcf9d61de297fd2f137ec364cbf197b1dfc42be6ff5f6b", func := "loop.example/g01357/laws.FnExactPartnersOf", spec := "fnExactPartnersOf", apart := false, narrowed := true }
def FnExactPartnersOfUptoSaid : Prop := fnExactPartnersOfUptoRow.holds Try.pinned (OpenSpec.upto fnExactPartnersOfSpec)

/-- 'laws.FnExactIsPartZone', WHERE WHAT IT READS IS OF BULK AT MOST 1048576: true; the input reads as it did. -/
def fnExactIsPartZoneUptoRow : OpenClaim := { program := "ytliakkhlgflbcaa", sum := "169276673d7d283acefcf9d61de297fd2f137ec364cbf197b1dfc42be6ff5f6b", func := "loop.example/g01357/laws.FnExactIsPartZone", spec := "fnExactIsPartZone", apart := false, narrowed := true }
def FnExactIsPartZoneUptoSaid : Prop := fnExactIsPartZoneUptoRow.holds Try.pinned (OpenSpec.upto fnExactIsPartZoneSpec)

/-- 'laws.FnExactTightZone', WHERE WHAT IT READS IS OF BULK AT MOST 1048576: true; the input reads as it did. -/
def fnExactTightZoneUptoRow : OpenClaim := { program := "ytliakkhlgflbcaa", sum := "169276673d7d283acefcf9d61de297fd2f137ec364cbf197b1dfc42be6ff5f6b", func := "loop.example/g01357/laws.FnExactTightZone", spec := "fnExactTightZone", apart := false, narrowed := true }
def FnExactTightZoneUptoSaid : Prop := fnExactTightZoneUptoRow.holds Try.pinned (OpenSpec.upto fnExactTightZoneSpec)

end Rows
end Go.Proofs.Ytliakkhlgflbcaa
