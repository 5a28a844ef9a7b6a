/- The law FnExactLeastTrees: for every input it returns true, and each argument reads behind the call as it read before. No condition. -/
import Derived.Test.YtfnmkcncofjjkaaRows
import Derived.Test.YtfnmkcncofjjkaaWFnExactLeastTrees
import Derived.Test.YtfnmkcncofjjkaaLibK
import Derived.ShutString
import Derived.ChangeOld
import Derived.Below
namespace Go.Proofs.Ytfnmkcncofjjkaa.fnExactLeastTrees
open Go Go.WX
open Go.ChangeShapes Go.WideShapes Go.ChangeAt Go.RowKit
open Go.ChangeMaps (open_string shut_string)
set_option linter.unusedVariables false

theorem own : ownKnob Try.prog.godebug = none := by kernel_rfl
theorem laidOut : laidOutB Try.prog = true := by kernel_rfl

theorem ended {w : World} {P : Program} {f : Nat} {vs : Array Value} (h : Calls P f vs w (Ret1 (RQt (.bool true) w))) : Calls P f vs w fun e w' => e = .returned (.bool true) ∧ Below w.heap.size w w' :=
  h.mono fun e w' he => by cases e with
    | returned v => obtain ⟨rfl, hx⟩ := he; exact ⟨rfl, hx.below⟩
    | panicked c => exact he.elim
    | outgrown => exact he.elim

set_option maxRecDepth 100000 in
theorem lifted (os : Os) (started : os.Started) (H : Type) (enc : TypeId × Value → H) :
    ReturnsInHanded {} Try.checked os 9 .any (Rows.fnExactLeastTreesSpec.pre6 enc Try.prog Try.f9 Rows.fnExactLeastTreesRow.domain false) (Rows.fnExactLeastTreesSpec.post enc Try.prog Try.f9 false true false false) := by
  refine returnsInHanded_of_change (C := Try.checked) own started (by kernel_rfl) Try.func9
    (ChangeSpec.witness6 (enc := enc) (C := Try.checked) false ⟨#[], #[.agg #[.int .i64 0, .int .i64 0, .slice none 0 0, .slice none 0 0, .slice none 0 0]], []⟩ 8 (by kernel_rfl) (by kernel_rfl) (by kernel_rfl) (by kernel_rfl)) ?_
  intro W base args ds gs before hval0 hW hcnd _
  have hval : ∀ (j : Nat) t v, Try.f9.params[j]? = some t → args[j]? = some v → Value.okWide Try.prog W .any base t v := hval0
  have hW' := hW
  obtain ⟨p, q, hA0, hV, rfl, hfz, hnd⟩ := hW
  have hA : DataW.TrodAll enc Try.prog W 0 (fun _ => true) true Try.f9.params.toList args.toList ds p := hA0
  rw [Try.params9] at hA hval
  obtain ⟨v0, vs0, d0, ds0, p0, q0, hargs, rfl, rfl, h0, r0⟩ := trodAll_cons hA
  obtain ⟨rfl, rfl, rfl⟩ := trodAll_nil r0
  obtain rfl : args = #[v0] := by cases args; simp_all
  obtain ⟨rfl, rfl⟩ := trodVars_none hV
  have k0 := h0
  have lt0 : ∀ x ∈ p0, x.block < W.heap.size := by obtain ⟨m, hm⟩ := k0; exact DataW.trod_lt m _ _ _ hm
  obtain ⟨c0, e0, _⟩ := okWide_struct Try.underlying33 (hval 0 33 v0 rfl rfl)
  subst e0
  obtain ⟨fuel0, hf0⟩ := h0
  obtain ⟨⟨a0_0, ⟨a0_1, ⟨x0_2, ⟨x0_3, x0_4⟩⟩⟩⟩, ⟨p0_0, r0_0, e0_0, q0_0, ⟨p0_1, r0_1, e0_1, q0_1, ⟨p0_2, r0_2, e0_2, ⟨z0_2, q0_2, hr0_2⟩, ⟨p0_3, r0_3, e0_3, ⟨z0_3, q0_3, hr0_3⟩, ⟨z0_4, q0_4, hr0_4⟩⟩⟩⟩⟩, ⟨g0_0, ⟨g0_1, ⟨g0_2, ⟨g0_3, g0_4⟩⟩⟩⟩⟩ := (Tr.struct Try.underlying33 (by kernel_rfl) (TrFs.cons (Tr.int Try.underlying2) rfl (by kernel_rfl) (TrFs.cons (Tr.int Try.underlying2) rfl (by kernel_rfl) (TrFs.cons (Tr.slice (Tr.int Try.underlying2) Try.underlying22 (by kernel_rfl) (by decide)) rfl (by kernel_rfl) (TrFs.cons (Tr.slice (Tr.int Try.underlying2) Try.underlying22 (by kernel_rfl) (by decide)) rfl (by kernel_rfl) (TrFs.one (Tr.slice (Tr.bool Try.underlying4) Try.underlying31 (by kernel_rfl) (by decide)) rfl (by kernel_rfl))))))) hf0
  have hc0 : c0 = #[.int .i64 a0_0, .int .i64 a0_1, z0_2, z0_3, z0_4] := by
    apply Array.toList_inj.1
    show (Value.agg c0).cells.toList = _
    rw [e0_0, q0_0, e0_1, q0_1, e0_2, q0_2, e0_3, q0_3, q0_4]; rfl
  subst hc0
  clear hA0 hval0
  refine (ended (c_laws_FnExactLeastTrees (by assumption) (by assumption) (by assumption))).mono fun e W' ⟨he, bel⟩ => ?_
  subst he
  exact ⟨_, rfl, _, _, _, [], _, [], hW', trodAll_mk1 (shut_bool Try.underlying4 _), (trodAll_cons_mk (Below.trod laidOut (by kernel_rfl) (of_decide_eq_true (by kernel_rfl)) k0 bel lt0) trodAll_mk0), rfl, bel.frame _, fun h => by cases h⟩

theorem over : Rows.fnExactLeastTreesRow.holds Try.pinned (OpenSpec.ofChange Rows.fnExactLeastTreesSpec) :=
  OpenClaim.holds_of_wide 9 Try.f9 rfl rfl rfl rfl rfl rfl rfl ⟨rfl, rfl, rfl, rfl, rfl⟩ rfl rfl rfl rfl rfl (by kernel_rfl) Try.func9 (by kernel_rfl)
    (of_decide_eq_true (by kernel_rfl)) (by unfold Func.isWrapper; first | (rw [if_pos (by decide +kernel)]; kernel_rfl) | (rw [if_neg (by decide +kernel)]; exact ⟨rfl, rfl⟩))
    (fun os started H enc _ => lifted os started H enc)

theorem proved : Rows.FnExactLeastTreesSaid := over
#print axioms proved
end Go.Proofs.Ytfnmkcncofjjkaa.fnExactLeastTrees
