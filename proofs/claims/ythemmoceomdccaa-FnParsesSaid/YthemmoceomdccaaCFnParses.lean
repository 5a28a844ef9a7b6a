/- The law FnParses: for every input it returns true, and each argument reads behind the call as it read before. No condition. -/
import Derived.Test.YthemmoceomdccaaRows
import Derived.Test.YthemmoceomdccaaWFnParses
import Derived.Test.YthemmoceomdccaaLibK
import Derived.ShutString
import Derived.ChangeOld
import Derived.Below
namespace Go.Proofs.Ythemmoceomdccaa.fnParses
open Go Go.WX
open Go.ChangeShapes Go.WideShapes Go.ChangeAt Go.RowKit
open Go.ChangeMaps (open_string shut_string)
set_option linter.unusedVariables false

theorem own : ownKnob Try.prog.godebug = none := by kernel_rfl
theorem laidOut : laidOutB Try.prog = true := by kernel_rfl

theorem ended {w : World} {P : Program} {f : Nat} {vs : Array Value} (h : Calls P f vs w (Ret1 (RQt (.bool true) w))) : Calls P f vs w fun e w' => e = .returned (.bool true) ∧ Below w.heap.size w w' :=
  h.mono fun e w' he => by cases e with
    | returned v => obtain ⟨rfl, hx⟩ := he; exact ⟨rfl, hx.below⟩
    | panicked c => exact he.elim
    | outgrown => exact he.elim

set_option maxRecDepth 100000 in
theorem lifted (os : Os) (started : os.Started) (H : Type) (enc : TypeId × Value → H) :
    ReturnsInHanded {} Try.checked os 4 .any (Rows.fnParsesSpec.pre6 enc Try.prog Try.f4 Rows.fnParsesRow.domain false) (Rows.fnParsesSpec.post enc Try.prog Try.f4 false true false false) := by
  refine returnsInHanded_of_change (C := Try.checked) own started (by kernel_rfl) Try.func4
    (ChangeSpec.witness6 (enc := enc) (C := Try.checked) false ⟨#[], #[.slice none 0 0, .slice none 0 0], []⟩ 8 (by kernel_rfl) (by kernel_rfl) (by kernel_rfl) (by kernel_rfl)) ?_
  intro W base args ds gs before hval0 hW hcnd _
  have hval : ∀ (j : Nat) t v, Try.f4.params[j]? = some t → args[j]? = some v → Value.okWide Try.prog W .any base t v := hval0
  have hW' := hW
  obtain ⟨p, q, hA0, hV, rfl, hfz, hnd⟩ := hW
  have hA : DataW.TrodAll enc Try.prog W 0 (fun _ => true) true Try.f4.params.toList args.toList ds p := hA0
  rw [Try.params4] at hA hval
  obtain ⟨v0, vs0, d0, ds0, p0, q0, hargs, rfl, rfl, h0, r0⟩ := trodAll_cons hA
  obtain ⟨v1, vs1, d1, ds1, p1, q1, rfl, rfl, rfl, h1, r1⟩ := trodAll_cons r0
  obtain ⟨rfl, rfl, rfl⟩ := trodAll_nil r1
  obtain rfl : args = #[v0, v1] := by cases args; simp_all
  obtain ⟨rfl, rfl⟩ := trodVars_none hV
  have k0 := h0
  have lt0 : ∀ x ∈ p0, x.block < W.heap.size := by obtain ⟨m, hm⟩ := k0; exact DataW.trod_lt m _ _ _ hm
  obtain ⟨a0, len0, cap0, e0⟩ := okWide_slice Try.underlying42 (hval 0 42 v0 rfl rfl)
  obtain ⟨xs0, hr0, hg0⟩ : ∃ xs, Rd (EU8) W v0 xs ∧ ∀ x ∈ xs, 0 ≤ x ∧ x ≤ 255 := by
    obtain ⟨fuel, hf⟩ := h0
    obtain ⟨xs, ⟨u, hu, hr⟩, hg⟩ := (Tr.slice (Tr.u8 Try.underlying5) Try.underlying42 (by kernel_rfl) (by decide)) hf
    rw [e0] at hu; simp [Value.cells] at hu; subst hu; rw [e0]; exact ⟨xs, hr, hg⟩
  have k1 := h1
  have lt1 : ∀ x ∈ p1, x.block < W.heap.size := by obtain ⟨m, hm⟩ := k1; exact DataW.trod_lt m _ _ _ hm
  obtain ⟨a1, len1, cap1, e1⟩ := okWide_slice Try.underlying42 (hval 1 42 v1 rfl rfl)
  obtain ⟨xs1, hr1, hg1⟩ : ∃ xs, Rd (EU8) W v1 xs ∧ ∀ x ∈ xs, 0 ≤ x ∧ x ≤ 255 := by
    obtain ⟨fuel, hf⟩ := h1
    obtain ⟨xs, ⟨u, hu, hr⟩, hg⟩ := (Tr.slice (Tr.u8 Try.underlying5) Try.underlying42 (by kernel_rfl) (by decide)) hf
    rw [e1] at hu; simp [Value.cells] at hu; subst hu; rw [e1]; exact ⟨xs, hr, hg⟩
  clear hA0 hval0
  refine (ended (c_laws_FnParses (by assumption) (by assumption) (by assumption) (by assumption))).mono fun e W' ⟨he, bel⟩ => ?_
  subst he
  exact ⟨_, rfl, _, _, _, [], _, [], hW', trodAll_mk1 (shut_bool Try.underlying4 _), (trodAll_cons_mk (Below.trod laidOut (by kernel_rfl) (of_decide_eq_true (by kernel_rfl)) k0 bel lt0) (trodAll_cons_mk (Below.trod laidOut (by kernel_rfl) (of_decide_eq_true (by kernel_rfl)) k1 bel lt1) trodAll_mk0)), rfl, bel.frame _, fun h => by cases h⟩

theorem over : Rows.fnParsesRow.holds Try.pinned (OpenSpec.ofChange Rows.fnParsesSpec) :=
  OpenClaim.holds_of_wide 4 Try.f4 rfl rfl rfl rfl rfl rfl rfl ⟨rfl, rfl, rfl, rfl, rfl⟩ rfl rfl rfl rfl rfl (by kernel_rfl) Try.func4 (by kernel_rfl)
    (of_decide_eq_true (by kernel_rfl)) (by unfold Func.isWrapper; first | (rw [if_pos (by decide +kernel)]; kernel_rfl) | (rw [if_neg (by decide +kernel)]; exact ⟨rfl, rfl⟩))
    (fun os started H enc _ => lifted os started H enc)

theorem proved : Rows.FnParsesSaid := over
#print axioms proved
end Go.Proofs.Ythemmoceomdccaa.fnParses
