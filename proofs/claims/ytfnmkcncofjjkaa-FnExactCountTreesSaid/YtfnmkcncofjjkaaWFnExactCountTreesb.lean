/- Walks of the functions that the law FnExactCountTrees reaches: each says what its function computes. No condition. -/
import Derived.Test.YtfnmkcncofjjkaaProg
import Derived.Test.YtfnmkcncofjjkaaLibM
import Derived.Test.YtfnmkcncofjjkaaPlA
import Derived.Test.YtfnmkcncofjjkaaLibN
import Derived.Test.YtfnmkcncofjjkaaPlG
import Derived.Test.YtfnmkcncofjjkaaPlX
import Derived.Test.YtfnmkcncofjjkaaLibR
import Derived.Test.YtfnmkcncofjjkaaPlD
import Derived.Test.YtfnmkcncofjjkaaPlB
import Derived.Test.YtfnmkcncofjjkaaPlH
import Derived.Test.YtfnmkcncofjjkaaWFnExactCountTreesa
namespace Go.Proofs.Ytfnmkcncofjjkaa
open Go Go.WX Go.Proofs
set_option linter.unusedSimpArgs false
set_option linter.unusedVariables false

theorem c_impl_ValidGrammar {w : World} {a0 : Int} {a1 : Int} {va2 : Value} {xa2 : List R4}  (ha2 : Rd ER w va2 xa2) : Calls Try.prog 91 #[.agg #[.int .i64 a0, .int .i64 a1, va2]] w (Ret1 (RQt (.bool (decide (gramV a0 a1 xa2))) w)) := by
  have hB : Ext w w := Ext.refl w
  have hla2 := ha2.leI
  refine callsOf (vs := [_]) Try.func91 rfl Try.ntmps91 rfl rfl ?_
  refine CW.seq ?_
  refine CW.reg ?_
  refine WL.op rfl (OpK.box rfl rfl (by first | exact Rd.cells1 (by assumption) | exact Osl.cells1 (by assumption) | exact Osn.cells1 (by assumption) | exact Rd.cells1 (NL.rd (by assumption)) | rfl) (fun b1 w1 hXw1 hb1 hge1 => ?_))
  have hl1 := Lo.new hB hge1
  have hB := hB.trans hXw1
  refine WL.pure rfl rfl rfl (PV.assign rfl) ?_
  refine WL.nilS ?_
  refine CW.seq ?_
  refine CW.seq ?_
  refine CW.reg ?_
  refine WL.pure rfl rfl rfl ((by first | exact PV.fieldAddr T.fl56_0 rfl (by first | assumption | exact Bx.cells (by assumption)) | exact PV.fieldAddrP T.fl56_0 rfl rfl)) ?_
  refine WL.pure rfl rfl rfl ((by first | exact PV.load0 T.na2 rfl (by first | exact Cells.up (by assumption) hB | exact Bx.cells (by assumption) | assumption) (Ext.refl _) rfl | exact PV.load1 T.na2 rfl (by first | exact Cells.up (by assumption) hB | exact Bx.cells (by assumption) | assumption) (Ext.refl _) rfl)) ?_
  refine WL.op rfl (OpK.callR rfl T.cf73 rfl (c_impl_within) (fun w2 hXw2 => ?_))
  have hB := hB.trans hXw2
  have hb1 := hb1.up hXw2
  refine WL.pure rfl rfl rfl (PV.not rfl) ?_
  refine WL.pure rfl rfl rfl (PV.move rfl) ?_
  refine WL.split (t := 10) rfl (fun hc1 => ?_) (fun hc1 => ?_)
  · skip
    try simp only [decide_eq_true_eq, decide_eq_false_iff_not, Bool.not_eq_true', Bool.not_eq_false', Bool.not_eq_eq_eq_not, Bool.not_true, Bool.not_false, Int.not_lt, Int.not_le, Classical.not_not, beq_iff_eq, beq_eq_false_iff_ne] at hc1
    refine WL.skip rfl rfl rfl rfl rfl ?_
    refine WL.skip rfl rfl rfl rfl rfl ?_
    refine WL.skip rfl rfl rfl rfl rfl ?_
    refine WL.skip rfl rfl rfl rfl rfl ?_
    refine WL.pure rfl rfl rfl (PV.pickT rfl rfl) ?_
    refine WL.pure rfl rfl rfl (PV.move rfl) ?_
    refine WL.skip rfl rfl rfl rfl rfl ?_
    refine WL.skip rfl rfl rfl rfl rfl ?_
    refine WL.skip rfl rfl rfl rfl rfl ?_
    refine WL.skip rfl rfl rfl rfl rfl ?_
    refine WL.pure rfl rfl rfl (PV.pickT rfl rfl) ?_
    refine WL.nilS ?_
    refine CW.condT rfl ?_
    refine CW.seq ?_
    refine CW.reg ?_
    refine WL.pure rfl rfl rfl (PV.assign rfl) ?_
    refine WL.nilS ?_
    refine CW.ret ?_
    refine RQ.then ?_
    refine RQ.r1 rfl ?_
    refine ⟨?_, hB⟩
    exact bF (by rintro ⟨h1, h2, h3, h4⟩; first | omega | (have h5 := h4 k (by omega); simp only [okR] at h5; omega))
  try simp only [decide_eq_true_eq, decide_eq_false_iff_not, Bool.not_eq_true', Bool.not_eq_false', Bool.not_eq_eq_eq_not, Bool.not_true, Bool.not_false, Int.not_lt, Int.not_le, Classical.not_not, beq_iff_eq, beq_eq_false_iff_ne] at hc1
  refine WL.pureG rfl rfl rfl rfl rfl ((by first | exact PV.fieldAddr T.fl56_1 rfl (by first | assumption | exact Bx.cells (by assumption)) | exact PV.fieldAddrP T.fl56_1 rfl rfl)) ?_
  refine WL.pureG rfl rfl rfl rfl rfl ((by first | exact PV.load0 T.na2 rfl (by first | exact Cells.up (by assumption) hB | exact Bx.cells (by assumption) | assumption) (Ext.refl _) rfl | exact PV.load1 T.na2 rfl (by first | exact Cells.up (by assumption) hB | exact Bx.cells (by assumption) | assumption) (Ext.refl _) rfl)) ?_
  refine WL.opG rfl rfl rfl (OpK.callR rfl T.cf73 rfl (c_impl_within) (fun w3 hXw3 => ?_))
  have hB := hB.trans hXw3
  have hb1 := hb1.up hXw3
  refine WL.pureG rfl rfl rfl rfl rfl (PV.not rfl) ?_
  refine WL.pure rfl rfl rfl (PV.pickF rfl rfl) ?_
  refine WL.pure rfl rfl rfl (PV.move rfl) ?_
  refine WL.split (t := 16) rfl (fun hc2 => ?_) (fun hc2 => ?_)
  · skip
    try simp only [decide_eq_true_eq, decide_eq_false_iff_not, Bool.not_eq_true', Bool.not_eq_false', Bool.not_eq_eq_eq_not, Bool.not_true, Bool.not_false, Int.not_lt, Int.not_le, Classical.not_not, beq_iff_eq, beq_eq_false_iff_ne] at hc2
    refine WL.skip rfl rfl rfl rfl rfl ?_
    refine WL.skip rfl rfl rfl rfl rfl ?_
    refine WL.skip rfl rfl rfl rfl rfl ?_
    refine WL.skip rfl rfl rfl rfl rfl ?_
    refine WL.pure rfl rfl rfl (PV.pickT rfl rfl) ?_
    refine WL.nilS ?_
    refine CW.condT rfl ?_
    refine CW.seq ?_
    refine CW.reg ?_
    refine WL.pure rfl rfl rfl (PV.assign rfl) ?_
    refine WL.nilS ?_
    refine CW.ret ?_
    refine RQ.then ?_
    refine RQ.r1 rfl ?_
    refine ⟨?_, hB⟩
    exact bF (by rintro ⟨h1, h2, h3, h4⟩; first | omega | (have h5 := h4 k (by omega); simp only [okR] at h5; omega))
  try simp only [decide_eq_true_eq, decide_eq_false_iff_not, Bool.not_eq_true', Bool.not_eq_false', Bool.not_eq_eq_eq_not, Bool.not_true, Bool.not_false, Int.not_lt, Int.not_le, Classical.not_not, beq_iff_eq, beq_eq_false_iff_ne] at hc2
  refine WL.pureG rfl rfl rfl rfl rfl ((by first | exact PV.fieldAddr T.fl56_2 rfl (by first | assumption | exact Bx.cells (by assumption)) | exact PV.fieldAddrP T.fl56_2 rfl rfl)) ?_
  refine WL.pureG rfl rfl rfl rfl rfl ((by first | exact PV.load0 T.na54 rfl (by first | exact Cells.up (by assumption) hB | exact Bx.cells (by assumption) | assumption) (Ext.refl _) rfl | exact PV.load1 T.na54 rfl (by first | exact Cells.up (by assumption) hB | exact Bx.cells (by assumption) | assumption) (Ext.refl _) rfl)) ?_
  refine WL.pureG rfl rfl rfl rfl rfl ((by first | exact PV.len rfl (by assumption) T.sl54 | exact PV.lenOs rfl (by assumption) T.sl54 | exact PV.len rfl (NL.rd (by assumption)) T.sl54)) ?_
  refine WL.pureG rfl rfl rfl rfl rfl (PV.gtr rfl rfl) ?_
  refine WL.pure rfl rfl rfl (PV.pickF rfl rfl) ?_
  refine WL.nilS ?_
  refine CW.cond rfl (fun hc3 => ?_) (fun hc3 => ?_)
  · skip
    try simp only [decide_eq_true_eq, decide_eq_false_iff_not, Bool.not_eq_true', Bool.not_eq_false', Bool.not_eq_eq_eq_not, Bool.not_true, Bool.not_false, Int.not_lt, Int.not_le, Classical.not_not, beq_iff_eq, beq_eq_false_iff_ne] at hc3
    refine CW.seq ?_
    refine CW.reg ?_
    refine WL.pure rfl rfl rfl (PV.assign rfl) ?_
    refine WL.nilS ?_
    refine CW.ret ?_
    refine RQ.then ?_
    refine RQ.r1 rfl ?_
    refine ⟨?_, hB⟩
    exact bF (by rintro ⟨h1, h2, h3, h4⟩; first | omega | (have h5 := h4 k (by omega); simp only [okR] at h5; omega))
  try simp only [decide_eq_true_eq, decide_eq_false_iff_not, Bool.not_eq_true', Bool.not_eq_false', Bool.not_eq_eq_eq_not, Bool.not_true, Bool.not_false, Int.not_lt, Int.not_le, Classical.not_not, beq_iff_eq, beq_eq_false_iff_ne] at hc3
  refine CW.skipS ?_
  refine CW.seq ?_
  refine CW.seq ?_
  refine CW.reg ?_
  refine WL.pure rfl rfl rfl ((by first | exact PV.fieldAddr T.fl56_2 rfl (by first | assumption | exact Bx.cells (by assumption)) | exact PV.fieldAddrP T.fl56_2 rfl rfl)) ?_
  refine WL.pure rfl rfl rfl ((by first | exact PV.load0 T.na54 rfl (by first | exact Cells.up (by assumption) hB | exact Bx.cells (by assumption) | assumption) (Ext.refl _) rfl | exact PV.load1 T.na54 rfl (by first | exact Cells.up (by assumption) hB | exact Bx.cells (by assumption) | assumption) (Ext.refl _) rfl)) ?_
  refine WL.pure rfl rfl rfl ((by first | exact PV.len rfl (by assumption) T.sl54 | exact PV.lenOs rfl (by assumption) T.sl54 | exact PV.len rfl (NL.rd (by assumption)) T.sl54)) ?_
  refine WL.pure rfl rfl rfl (PV.move rfl) ?_
  refine WL.nilS ?_
  refine CW.block ?_
  refine CW.loop (σk := [(1, _), (23, _), (24, _)]) (fun ρ wz m => ∃ (k : Nat), ρ = [(25, .int .i64 (k : Nat))] ∧ m = xa2.length - k ∧ UpdL [] w3 wz ∧ (k ≤ xa2.length) ∧ (∀ q : Nat, q < k → okR a0 a1 (xa2.getD q (0, 0, 0, 0)))) (ρ₀ := [(25, _)]) (m₀ := _) ⟨rfl, rfl, rfl, rfl, trivial⟩ ⟨0, rfl, rfl, (UpdL.refl _ _), (by first | omega | rfl | (simp; done) | assumption | (simp_all; done)), (by intro q h1; exact absurd h1 (by omega))⟩ ?_
  rintro _ wl1 _ ⟨k, rfl, rfl, hU0, hk, hq⟩
  have hb1 := hb1.loop hU0 trivial
  have hB := hB.loop hU0 trivial
  refine CW.seq ?_
  refine CW.reg ?_
  refine WL.pure rfl rfl rfl (PV.lss rfl rfl) ?_
  refine WL.nilS ?_
  refine CW.seq ?_
  refine CW.cond rfl (fun hc4 => ?_) (fun hc4 => ?_)
  · skip
    try simp only [decide_eq_true_eq, decide_eq_false_iff_not, Bool.not_eq_true', Bool.not_eq_false', Bool.not_eq_eq_eq_not, Bool.not_true, Bool.not_false, Int.not_lt, Int.not_le, Classical.not_not, beq_iff_eq, beq_eq_false_iff_ne] at hc4
    refine CW.skipS ?_
    refine CW.seq ?_
    refine CW.block ?_
    refine CW.seq ?_
    refine CW.reg ?_
    first
      | refine WL.at (x := .tmp 23) (y := .tmp 25) (E := ER) ((0, 0, 0, 0)) rfl rfl (by assumption) (by first | omega | (simp; omega) | (simp_all; omega)) (fun p1 csp1 hpp1 hcp1 hq => ?_)
      | refine WL.atZ (x := .tmp 23) (y := .tmp 25) (E := ER) ((0, 0, 0, 0)) rfl rfl (by assumption) (by first | omega | (simp; omega) | (simp_all; omega)) (fun p1 csp1 hpp1 hzp1 hcp1 hq => ?_)
    cases hq
    refine WL.pure rfl rfl rfl ((by first | exact PV.indexAddr hpp1 rfl rfl T.sl54 | exact PV.indexAddr hpp1 rfl (by rw [← hzp1]; rfl) T.sl54)) ?_
    refine WL.pure rfl rfl rfl ((by first | exact PV.loadA T.ag100 rfl (by first | exact Cells.up (by assumption) hB | exact Bx.cells (by assumption) | assumption) (Ext.refl _) rfl | exact PV.loadP (ds := [_, _, _, _]) T.ag100 rfl (by first | exact Cells.up (by assumption) hB | exact Bx.cells (by assumption) | assumption) (Ext.refl _) rfl rfl)) ?_
    refine WL.op rfl (OpK.alloc rfl T.zv100 rfl (fun b2 w4 hXw4 hb2 hge2 => ?_))
    have hl2 := Lo.new hB hge2
    have hd1_2 := Dj.new hb1.ltO hge2
    have hk0_2 := OkN.new hU0 hge2
    have hg0_2 := OgR.new hU0.size hge2
    have hB := hB.trans hXw4
    have hb1 := hb1.up hXw4
    have hU0 := hU0.ext hXw4
    refine WL.op rfl (OpK.storeA T.sz100 rfl rfl rfl rfl (by simp [Value.oneCell'] <;> first | done | (repeat' apply And.intro) <;> first | rfl | exact Osl.oneCell (by assumption) | exact Osn.oneCell (by assumption) | exact Rd.oneCell (by assumption) | exact Rd.oneCell (NL.rd (by assumption)) | assumption) hb2 (fun w5 hXw5 hb2 => ?_))
    have hB := hB.updL hXw5 hl2
    have hb1 := hb1.updD hXw5 hd1_2
    have hU0 := hU0.step hXw5 hk0_2
    refine WL.nilS ?_
    refine CW.seq ?_
    refine CW.reg ?_
    refine WL.pure rfl rfl rfl ((by first | exact PV.fieldAddr T.fl56_0 rfl (by first | assumption | exact Bx.cells (by assumption)) | exact PV.fieldAddrP T.fl56_0 rfl rfl)) ?_
    refine WL.pure rfl rfl rfl ((by first | exact PV.load0 T.na2 rfl (by first | exact Cells.up (by assumption) hB | exact Bx.cells (by assumption) | assumption) (Ext.refl _) rfl | exact PV.load1 T.na2 rfl (by first | exact Cells.up (by assumption) hB | exact Bx.cells (by assumption) | assumption) (Ext.refl _) rfl)) ?_
    refine WL.pure rfl rfl rfl (PV.sub rfl rfl (by constructor <;> omega)) ?_
    refine WL.pure rfl rfl rfl (PV.assign rfl) ?_
    refine WL.nilS ?_
    refine CW.seq ?_
    refine CW.seq ?_
    refine CW.reg ?_
    refine WL.pure rfl rfl rfl ((by first | exact PV.fieldAddr T.fl100_2 rfl (by first | assumption | exact Bx.cells (by assumption)) | exact PV.fieldAddrP T.fl100_2 rfl rfl)) ?_
    refine WL.pure rfl rfl rfl ((by first | exact PV.load0 T.na2 rfl (by first | exact Cells.up (by assumption) hB | exact Bx.cells (by assumption) | assumption) (Ext.refl _) rfl | exact PV.load1 T.na2 rfl (by first | exact Cells.up (by assumption) hB | exact Bx.cells (by assumption) | assumption) (Ext.refl _) rfl)) ?_
    refine WL.pure rfl rfl rfl (PV.eql rfl rfl) ?_
    refine WL.nilS ?_
    refine CW.cond rfl (fun hc5 => ?_) (fun hc5 => ?_)
    · skip
      try simp only [decide_eq_true_eq, decide_eq_false_iff_not, Bool.not_eq_true', Bool.not_eq_false', Bool.not_eq_eq_eq_not, Bool.not_true, Bool.not_false, Int.not_lt, Int.not_le, Classical.not_not, beq_iff_eq, beq_eq_false_iff_ne] at hc5
      refine CW.reg ?_
      refine WL.pure rfl rfl rfl ((by first | exact PV.fieldAddr T.fl56_1 rfl (by first | assumption | exact Bx.cells (by assumption)) | exact PV.fieldAddrP T.fl56_1 rfl rfl)) ?_
      refine WL.pure rfl rfl rfl ((by first | exact PV.load0 T.na2 rfl (by first | exact Cells.up (by assumption) hB | exact Bx.cells (by assumption) | assumption) (Ext.refl _) rfl | exact PV.load1 T.na2 rfl (by first | exact Cells.up (by assumption) hB | exact Bx.cells (by assumption) | assumption) (Ext.refl _) rfl)) ?_
      refine WL.pure rfl rfl rfl (PV.sub rfl rfl (by constructor <;> omega)) ?_
      refine WL.pure rfl rfl rfl (PV.assign rfl) ?_
      refine WL.nilS ?_
      refine CW.seq ?_
      refine CW.reg ?_
      refine WL.pure rfl rfl rfl ((by first | exact PV.fieldAddr T.fl100_0 rfl (by first | assumption | exact Bx.cells (by assumption)) | exact PV.fieldAddrP T.fl100_0 rfl rfl)) ?_
      refine WL.pure rfl rfl rfl ((by first | exact PV.load0 T.na2 rfl (by first | exact Cells.up (by assumption) hB | exact Bx.cells (by assumption) | assumption) (Ext.refl _) rfl | exact PV.load1 T.na2 rfl (by first | exact Cells.up (by assumption) hB | exact Bx.cells (by assumption) | assumption) (Ext.refl _) rfl)) ?_
      refine WL.pure rfl rfl rfl ((by first | exact PV.fieldAddr T.fl56_0 rfl (by first | assumption | exact Bx.cells (by assumption)) | exact PV.fieldAddrP T.fl56_0 rfl rfl)) ?_
      refine WL.pure rfl rfl rfl ((by first | exact PV.load0 T.na2 rfl (by first | exact Cells.up (by assumption) hB | exact Bx.cells (by assumption) | assumption) (Ext.refl _) rfl | exact PV.load1 T.na2 rfl (by first | exact Cells.up (by assumption) hB | exact Bx.cells (by assumption) | assumption) (Ext.refl _) rfl)) ?_
      refine WL.pure rfl rfl rfl (PV.sub rfl rfl (by constructor <;> omega)) ?_
      refine WL.op rfl (OpK.callR rfl T.cf73 rfl (c_impl_within) (fun w6 hXw6 => ?_))
      have hB := hB.trans hXw6
      have hb1 := hb1.up hXw6
      have hb2 := hb2.up hXw6
      have hU0 := hU0.ext hXw6
      refine WL.pure rfl rfl rfl (PV.not rfl) ?_
      refine WL.pure rfl rfl rfl (PV.move rfl) ?_
      refine WL.split (t := 45) rfl (fun hc6 => ?_) (fun hc6 => ?_)
      · skip
        try simp only [decide_eq_true_eq, decide_eq_false_iff_not, Bool.not_eq_true', Bool.not_eq_false', Bool.not_eq_eq_eq_not, Bool.not_true, Bool.not_false, Int.not_lt, Int.not_le, Classical.not_not, beq_iff_eq, beq_eq_false_iff_ne] at hc6
        refine WL.skip rfl rfl rfl rfl rfl ?_
        refine WL.skip rfl rfl rfl rfl rfl ?_
        refine WL.skip rfl rfl rfl rfl rfl ?_
        refine WL.skip rfl rfl rfl rfl rfl ?_
        refine WL.skip rfl rfl rfl rfl rfl ?_
        refine WL.pure rfl rfl rfl (PV.pickT rfl rfl) ?_
        refine WL.pure rfl rfl rfl (PV.move rfl) ?_
        refine WL.skip rfl rfl rfl rfl rfl ?_
        refine WL.skip rfl rfl rfl rfl rfl ?_
        refine WL.skip rfl rfl rfl rfl rfl ?_
        refine WL.skip rfl rfl rfl rfl rfl ?_
        refine WL.skip rfl rfl rfl rfl rfl ?_
        refine WL.skip rfl rfl rfl rfl rfl ?_
        refine WL.skip rfl rfl rfl rfl rfl ?_
        refine WL.pure rfl rfl rfl (PV.pickT rfl rfl) ?_
        refine WL.pure rfl rfl rfl (PV.move rfl) ?_
        refine WL.skip rfl rfl rfl rfl rfl ?_
        refine WL.skip rfl rfl rfl rfl rfl ?_
        refine WL.skip rfl rfl rfl rfl rfl ?_
        refine WL.skip rfl rfl rfl rfl rfl ?_
        refine WL.pure rfl rfl rfl (PV.pickT rfl rfl) ?_
        refine WL.nilS ?_
        refine CW.condT rfl ?_
        refine CW.seq ?_
        refine CW.reg ?_
        refine WL.pure rfl rfl rfl (PV.assign rfl) ?_
        refine WL.nilS ?_
        refine CW.ret ?_
        refine RQ.block ?_
        refine RQ.then ?_
        refine RQ.then ?_
        refine RQ.block ?_
        refine RQ.then ?_
        refine RQ.r1 rfl ?_
        refine ⟨?_, hB⟩
        exact bF (by rintro ⟨h1, h2, h3, h4⟩; first | omega | (have h5 := h4 k (by omega); simp only [okR] at h5; omega))
      try simp only [decide_eq_true_eq, decide_eq_false_iff_not, Bool.not_eq_true', Bool.not_eq_false', Bool.not_eq_eq_eq_not, Bool.not_true, Bool.not_false, Int.not_lt, Int.not_le, Classical.not_not, beq_iff_eq, beq_eq_false_iff_ne] at hc6
      refine WL.pureG rfl rfl rfl rfl rfl ((by first | exact PV.fieldAddr T.fl100_1 rfl (by first | assumption | exact Bx.cells (by assumption)) | exact PV.fieldAddrP T.fl100_1 rfl rfl)) ?_
      refine WL.pureG rfl rfl rfl rfl rfl ((by first | exact PV.load0 T.na2 rfl (by first | exact Cells.up (by assumption) hB | exact Bx.cells (by assumption) | assumption) (Ext.refl _) rfl | exact PV.load1 T.na2 rfl (by first | exact Cells.up (by assumption) hB | exact Bx.cells (by assumption) | assumption) (Ext.refl _) rfl)) ?_
      refine WL.pureG rfl rfl rfl rfl rfl (PV.move rfl) ?_
      refine WL.opG rfl rfl rfl (OpK.callR rfl T.cf73 rfl (c_impl_within) (fun w7 hXw7 => ?_))
      have hB := hB.trans hXw7
      have hb1 := hb1.up hXw7
      have hb2 := hb2.up hXw7
      have hU0 := hU0.ext hXw7
      refine WL.pureG rfl rfl rfl rfl rfl (PV.not rfl) ?_
      refine WL.pure rfl rfl rfl (PV.pickF rfl rfl) ?_
      refine WL.pure rfl rfl rfl (PV.move rfl) ?_
      refine WL.split (t := 52) rfl (fun hc7 => ?_) (fun hc7 => ?_)
      · skip
        try simp only [decide_eq_true_eq, decide_eq_false_iff_not, Bool.not_eq_true', Bool.not_eq_false', Bool.not_eq_eq_eq_not, Bool.not_true, Bool.not_false, Int.not_lt, Int.not_le, Classical.not_not, beq_iff_eq, beq_eq_false_iff_ne] at hc7
        refine WL.skip rfl rfl rfl rfl rfl ?_
        refine WL.skip rfl rfl rfl rfl rfl ?_
        refine WL.skip rfl rfl rfl rfl rfl ?_
        refine WL.skip rfl rfl rfl rfl rfl ?_
        refine WL.skip rfl rfl rfl rfl rfl ?_
        refine WL.skip rfl rfl rfl rfl rfl ?_
        refine WL.skip rfl rfl rfl rfl rfl ?_
        refine WL.pure rfl rfl rfl (PV.pickT rfl rfl) ?_
        refine WL.pure rfl rfl rfl (PV.move rfl) ?_
        refine WL.skip rfl rfl rfl rfl rfl ?_
        refine WL.skip rfl rfl rfl rfl rfl ?_
        refine WL.skip rfl rfl rfl rfl rfl ?_
        refine WL.skip rfl rfl rfl rfl rfl ?_
        refine WL.pure rfl rfl rfl (PV.pickT rfl rfl) ?_
        refine WL.nilS ?_
        refine CW.condT rfl ?_
        refine CW.seq ?_
        refine CW.reg ?_
        refine WL.pure rfl rfl rfl (PV.assign rfl) ?_
        refine WL.nilS ?_
        refine CW.ret ?_
        refine RQ.block ?_
        refine RQ.then ?_
        refine RQ.then ?_
        refine RQ.block ?_
        refine RQ.then ?_
        refine RQ.r1 rfl ?_
        refine ⟨?_, hB⟩
        exact bF (by rintro ⟨h1, h2, h3, h4⟩; first | omega | (have h5 := h4 k (by omega); simp only [okR] at h5; omega))
      try simp only [decide_eq_true_eq, decide_eq_false_iff_not, Bool.not_eq_true', Bool.not_eq_false', Bool.not_eq_eq_eq_not, Bool.not_true, Bool.not_false, Int.not_lt, Int.not_le, Classical.not_not, beq_iff_eq, beq_eq_false_iff_ne] at hc7
      refine WL.pureG rfl rfl rfl rfl rfl ((by first | exact PV.fieldAddr T.fl100_2 rfl (by first | assumption | exact Bx.cells (by assumption)) | exact PV.fieldAddrP T.fl100_2 rfl rfl)) ?_
      refine WL.pureG rfl rfl rfl rfl rfl ((by first | exact PV.load0 T.na2 rfl (by first | exact Cells.up (by assumption) hB | exact Bx.cells (by assumption) | assumption) (Ext.refl _) rfl | exact PV.load1 T.na2 rfl (by first | exact Cells.up (by assumption) hB | exact Bx.cells (by assumption) | assumption) (Ext.refl _) rfl)) ?_
      refine WL.pureG rfl rfl rfl rfl rfl ((by first | exact PV.fieldAddr T.fl56_0 rfl (by first | assumption | exact Bx.cells (by assumption)) | exact PV.fieldAddrP T.fl56_0 rfl rfl)) ?_
      refine WL.pureG rfl rfl rfl rfl rfl ((by first | exact PV.load0 T.na2 rfl (by first | exact Cells.up (by assumption) hB | exact Bx.cells (by assumption) | assumption) (Ext.refl _) rfl | exact PV.load1 T.na2 rfl (by first | exact Cells.up (by assumption) hB | exact Bx.cells (by assumption) | assumption) (Ext.refl _) rfl)) ?_
      refine WL.pureG rfl rfl rfl rfl rfl (PV.sub rfl rfl (by constructor <;> omega)) ?_
      refine WL.opG rfl rfl rfl (OpK.callR rfl T.cf73 rfl (c_impl_within) (fun w8 hXw8 => ?_))
      have hB := hB.trans hXw8
      have hb1 := hb1.up hXw8
      have hb2 := hb2.up hXw8
      have hU0 := hU0.ext hXw8
      refine WL.pureG rfl rfl rfl rfl rfl (PV.not rfl) ?_
      refine WL.pure rfl rfl rfl (PV.pickF rfl rfl) ?_
      refine WL.pure rfl rfl rfl (PV.move rfl) ?_
      refine WL.split (t := 61) rfl (fun hc8 => ?_) (fun hc8 => ?_)
      · skip
        try simp only [decide_eq_true_eq, decide_eq_false_iff_not, Bool.not_eq_true', Bool.not_eq_false', Bool.not_eq_eq_eq_not, Bool.not_true, Bool.not_false, Int.not_lt, Int.not_le, Classical.not_not, beq_iff_eq, beq_eq_false_iff_ne] at hc8
        refine WL.skip rfl rfl rfl rfl rfl ?_
        refine WL.skip rfl rfl rfl rfl rfl ?_
        refine WL.skip rfl rfl rfl rfl rfl ?_
        refine WL.skip rfl rfl rfl rfl rfl ?_
        refine WL.pure rfl rfl rfl (PV.pickT rfl rfl) ?_
        refine WL.nilS ?_
        refine CW.condT rfl ?_
        refine CW.seq ?_
        refine CW.reg ?_
        refine WL.pure rfl rfl rfl (PV.assign rfl) ?_
        refine WL.nilS ?_
        refine CW.ret ?_
        refine RQ.block ?_
        refine RQ.then ?_
        refine RQ.then ?_
        refine RQ.block ?_
        refine RQ.then ?_
        refine RQ.r1 rfl ?_
        refine ⟨?_, hB⟩
        exact bF (by rintro ⟨h1, h2, h3, h4⟩; first | omega | (have h5 := h4 k (by omega); simp only [okR] at h5; omega))
      try simp only [decide_eq_true_eq, decide_eq_false_iff_not, Bool.not_eq_true', Bool.not_eq_false', Bool.not_eq_eq_eq_not, Bool.not_true, Bool.not_false, Int.not_lt, Int.not_le, Classical.not_not, beq_iff_eq, beq_eq_false_iff_ne] at hc8
      refine WL.pureG rfl rfl rfl rfl rfl ((by first | exact PV.fieldAddr T.fl100_3 rfl (by first | assumption | exact Bx.cells (by assumption)) | exact PV.fieldAddrP T.fl100_3 rfl rfl)) ?_
      refine WL.pureG rfl rfl rfl rfl rfl ((by first | exact PV.load0 T.na2 rfl (by first | exact Cells.up (by assumption) hB | exact Bx.cells (by assumption) | assumption) (Ext.refl _) rfl | exact PV.load1 T.na2 rfl (by first | exact Cells.up (by assumption) hB | exact Bx.cells (by assumption) | assumption) (Ext.refl _) rfl)) ?_
      refine WL.opG rfl rfl rfl (OpK.callR rfl T.cf73 rfl (c_impl_within) (fun w9 hXw9 => ?_))
      have hB := hB.trans hXw9
      have hb1 := hb1.up hXw9
      have hb2 := hb2.up hXw9
      have hU0 := hU0.ext hXw9
      refine WL.pureG rfl rfl rfl rfl rfl (PV.not rfl) ?_
      refine WL.pure rfl rfl rfl (PV.pickF rfl rfl) ?_
      refine WL.nilS ?_
      refine CW.cond rfl (fun hc9 => ?_) (fun hc9 => ?_)
      · skip
        try simp only [decide_eq_true_eq, decide_eq_false_iff_not, Bool.not_eq_true', Bool.not_eq_false', Bool.not_eq_eq_eq_not, Bool.not_true, Bool.not_false, Int.not_lt, Int.not_le, Classical.not_not, beq_iff_eq, beq_eq_false_iff_ne] at hc9
        refine CW.seq ?_
        refine CW.reg ?_
        refine WL.pure rfl rfl rfl (PV.assign rfl) ?_
        refine WL.nilS ?_
        refine CW.ret ?_
        refine RQ.block ?_
        refine RQ.then ?_
        refine RQ.then ?_
        refine RQ.block ?_
        refine RQ.then ?_
        refine RQ.r1 rfl ?_
        refine ⟨?_, hB⟩
        exact bF (by rintro ⟨h1, h2, h3, h4⟩; first | omega | (have h5 := h4 k (by omega); simp only [okR] at h5; omega))
      try simp only [decide_eq_true_eq, decide_eq_false_iff_not, Bool.not_eq_true', Bool.not_eq_false', Bool.not_eq_eq_eq_not, Bool.not_true, Bool.not_false, Int.not_lt, Int.not_le, Classical.not_not, beq_iff_eq, beq_eq_false_iff_ne] at hc9
      refine CW.skip ?_
      refine NQ.block ?_
      refine NQ.then ?_
      refine CW.reg ?_
      refine WL.pure rfl rfl rfl (PV.add rfl rfl (by constructor <;> omega)) ?_
      refine WL.pure rfl rfl rfl (PV.move rfl) ?_
      refine WL.nil ?_
      refine NQ.next (ρ := [(25, _)]) ⟨rfl, rfl, rfl, rfl, trivial⟩ ?_
      exact ⟨_, ⟨k + 1, rfl, rfl, hU0, (by first | omega | assumption | (simp_all; done) | (simp_all; omega)), (by intro q h1; by_cases h : q < k; exact hq q h; obtain rfl : q = k := (by omega); simp only [okR]; omega)⟩, by omega⟩
    try simp only [decide_eq_true_eq, decide_eq_false_iff_not, Bool.not_eq_true', Bool.not_eq_false', Bool.not_eq_eq_eq_not, Bool.not_true, Bool.not_false, Int.not_lt, Int.not_le, Classical.not_not, beq_iff_eq, beq_eq_false_iff_ne] at hc5
    refine CW.skipS ?_
    refine CW.seq ?_
    refine CW.reg ?_
    refine WL.pure rfl rfl rfl ((by first | exact PV.fieldAddr T.fl100_0 rfl (by first | assumption | exact Bx.cells (by assumption)) | exact PV.fieldAddrP T.fl100_0 rfl rfl)) ?_
    refine WL.pure rfl rfl rfl ((by first | exact PV.load0 T.na2 rfl (by first | exact Cells.up (by assumption) hB | exact Bx.cells (by assumption) | assumption) (Ext.refl _) rfl | exact PV.load1 T.na2 rfl (by first | exact Cells.up (by assumption) hB | exact Bx.cells (by assumption) | assumption) (Ext.refl _) rfl)) ?_
    refine WL.pure rfl rfl rfl ((by first | exact PV.fieldAddr T.fl56_0 rfl (by first | assumption | exact Bx.cells (by assumption)) | exact PV.fieldAddrP T.fl56_0 rfl rfl)) ?_
    refine WL.pure rfl rfl rfl ((by first | exact PV.load0 T.na2 rfl (by first | exact Cells.up (by assumption) hB | exact Bx.cells (by assumption) | assumption) (Ext.refl _) rfl | exact PV.load1 T.na2 rfl (by first | exact Cells.up (by assumption) hB | exact Bx.cells (by assumption) | assumption) (Ext.refl _) rfl)) ?_
    refine WL.pure rfl rfl rfl (PV.sub rfl rfl (by constructor <;> omega)) ?_
    refine WL.op rfl (OpK.callR rfl T.cf73 rfl (c_impl_within) (fun w10 hXw10 => ?_))
    have hB := hB.trans hXw10
    have hb1 := hb1.up hXw10
    have hb2 := hb2.up hXw10
    have hU0 := hU0.ext hXw10
    refine WL.pure rfl rfl rfl (PV.not rfl) ?_
    refine WL.pure rfl rfl rfl (PV.move rfl) ?_
    refine WL.split (t := 45) rfl (fun hc10 => ?_) (fun hc10 => ?_)
    · skip
      try simp only [decide_eq_true_eq, decide_eq_false_iff_not, Bool.not_eq_true', Bool.not_eq_false', Bool.not_eq_eq_eq_not, Bool.not_true, Bool.not_false, Int.not_lt, Int.not_le, Classical.not_not, beq_iff_eq, beq_eq_false_iff_ne] at hc10
      refine WL.skip rfl rfl rfl rfl rfl ?_
      refine WL.skip rfl rfl rfl rfl rfl ?_
      refine WL.skip rfl rfl rfl rfl rfl ?_
      refine WL.skip rfl rfl rfl rfl rfl ?_
      refine WL.skip rfl rfl rfl rfl rfl ?_
      refine WL.pure rfl rfl rfl (PV.pickT rfl rfl) ?_
      refine WL.pure rfl rfl rfl (PV.move rfl) ?_
      refine WL.skip rfl rfl rfl rfl rfl ?_
      refine WL.skip rfl rfl rfl rfl rfl ?_
      refine WL.skip rfl rfl rfl rfl rfl ?_
      refine WL.skip rfl rfl rfl rfl rfl ?_
      refine WL.skip rfl rfl rfl rfl rfl ?_
      refine WL.skip rfl rfl rfl rfl rfl ?_
      refine WL.skip rfl rfl rfl rfl rfl ?_
      refine WL.pure rfl rfl rfl (PV.pickT rfl rfl) ?_
      refine WL.pure rfl rfl rfl (PV.move rfl) ?_
      refine WL.skip rfl rfl rfl rfl rfl ?_
      refine WL.skip rfl rfl rfl rfl rfl ?_
      refine WL.skip rfl rfl rfl rfl rfl ?_
      refine WL.skip rfl rfl rfl rfl rfl ?_
      refine WL.pure rfl rfl rfl (PV.pickT rfl rfl) ?_
      refine WL.nilS ?_
      refine CW.condT rfl ?_
      refine CW.seq ?_
      refine CW.reg ?_
      refine WL.pure rfl rfl rfl (PV.assign rfl) ?_
      refine WL.nilS ?_
      refine CW.ret ?_
      refine RQ.block ?_
      refine RQ.then ?_
      refine RQ.then ?_
      refine RQ.block ?_
      refine RQ.then ?_
      refine RQ.r1 rfl ?_
      refine ⟨?_, hB⟩
      exact bF (by rintro ⟨h1, h2, h3, h4⟩; first | omega | (have h5 := h4 k (by omega); simp only [okR] at h5; omega))
    try simp only [decide_eq_true_eq, decide_eq_false_iff_not, Bool.not_eq_true', Bool.not_eq_false', Bool.not_eq_eq_eq_not, Bool.not_true, Bool.not_false, Int.not_lt, Int.not_le, Classical.not_not, beq_iff_eq, beq_eq_false_iff_ne] at hc10
    refine WL.pureG rfl rfl rfl rfl rfl ((by first | exact PV.fieldAddr T.fl100_1 rfl (by first | assumption | exact Bx.cells (by assumption)) | exact PV.fieldAddrP T.fl100_1 rfl rfl)) ?_
    refine WL.pureG rfl rfl rfl rfl rfl ((by first | exact PV.load0 T.na2 rfl (by first | exact Cells.up (by assumption) hB | exact Bx.cells (by assumption) | assumption) (Ext.refl _) rfl | exact PV.load1 T.na2 rfl (by first | exact Cells.up (by assumption) hB | exact Bx.cells (by assumption) | assumption) (Ext.refl _) rfl)) ?_
    refine WL.pureG rfl rfl rfl rfl rfl (PV.move rfl) ?_
    refine WL.opG rfl rfl rfl (OpK.callR rfl T.cf73 rfl (c_impl_within) (fun w11 hXw11 => ?_))
    have hB := hB.trans hXw11
    have hb1 := hb1.up hXw11
    have hb2 := hb2.up hXw11
    have hU0 := hU0.ext hXw11
    refine WL.pureG rfl rfl rfl rfl rfl (PV.not rfl) ?_
    refine WL.pure rfl rfl rfl (PV.pickF rfl rfl) ?_
    refine WL.pure rfl rfl rfl (PV.move rfl) ?_
    refine WL.split (t := 52) rfl (fun hc11 => ?_) (fun hc11 => ?_)
    · skip
      try simp only [decide_eq_true_eq, decide_eq_false_iff_not, Bool.not_eq_true', Bool.not_eq_false', Bool.not_eq_eq_eq_not, Bool.not_true, Bool.not_false, Int.not_lt, Int.not_le, Classical.not_not, beq_iff_eq, beq_eq_false_iff_ne] at hc11
      refine WL.skip rfl rfl rfl rfl rfl ?_
      refine WL.skip rfl rfl rfl rfl rfl ?_
      refine WL.skip rfl rfl rfl rfl rfl ?_
      refine WL.skip rfl rfl rfl rfl rfl ?_
      refine WL.skip rfl rfl rfl rfl rfl ?_
      refine WL.skip rfl rfl rfl rfl rfl ?_
      refine WL.skip rfl rfl rfl rfl rfl ?_
      refine WL.pure rfl rfl rfl (PV.pickT rfl rfl) ?_
      refine WL.pure rfl rfl rfl (PV.move rfl) ?_
      refine WL.skip rfl rfl rfl rfl rfl ?_
      refine WL.skip rfl rfl rfl rfl rfl ?_
      refine WL.skip rfl rfl rfl rfl rfl ?_
      refine WL.skip rfl rfl rfl rfl rfl ?_
      refine WL.pure rfl rfl rfl (PV.pickT rfl rfl) ?_
      refine WL.nilS ?_
      refine CW.condT rfl ?_
      refine CW.seq ?_
      refine CW.reg ?_
      refine WL.pure rfl rfl rfl (PV.assign rfl) ?_
      refine WL.nilS ?_
      refine CW.ret ?_
      refine RQ.block ?_
      refine RQ.then ?_
      refine RQ.then ?_
      refine RQ.block ?_
      refine RQ.then ?_
      refine RQ.r1 rfl ?_
      refine ⟨?_, hB⟩
      exact bF (by rintro ⟨h1, h2, h3, h4⟩; first | omega | (have h5 := h4 k (by omega); simp only [okR] at h5; omega))
    try simp only [decide_eq_true_eq, decide_eq_false_iff_not, Bool.not_eq_true', Bool.not_eq_false', Bool.not_eq_eq_eq_not, Bool.not_true, Bool.not_false, Int.not_lt, Int.not_le, Classical.not_not, beq_iff_eq, beq_eq_false_iff_ne] at hc11
    refine WL.pureG rfl rfl rfl rfl rfl ((by first | exact PV.fieldAddr T.fl100_2 rfl (by first | assumption | exact Bx.cells (by assumption)) | exact PV.fieldAddrP T.fl100_2 rfl rfl)) ?_
    refine WL.pureG rfl rfl rfl rfl rfl ((by first | exact PV.load0 T.na2 rfl (by first | exact Cells.up (by assumption) hB | exact Bx.cells (by assumption) | assumption) (Ext.refl _) rfl | exact PV.load1 T.na2 rfl (by first | exact Cells.up (by assumption) hB | exact Bx.cells (by assumption) | assumption) (Ext.refl _) rfl)) ?_
    refine WL.pureG rfl rfl rfl rfl rfl ((by first | exact PV.fieldAddr T.fl56_0 rfl (by first | assumption | exact Bx.cells (by assumption)) | exact PV.fieldAddrP T.fl56_0 rfl rfl)) ?_
    refine WL.pureG rfl rfl rfl rfl rfl ((by first | exact PV.load0 T.na2 rfl (by first | exact Cells.up (by assumption) hB | exact Bx.cells (by assumption) | assumption) (Ext.refl _) rfl | exact PV.load1 T.na2 rfl (by first | exact Cells.up (by assumption) hB | exact Bx.cells (by assumption) | assumption) (Ext.refl _) rfl)) ?_
    refine WL.pureG rfl rfl rfl rfl rfl (PV.sub rfl rfl (by constructor <;> omega)) ?_
    refine WL.opG rfl rfl rfl (OpK.callR rfl T.cf73 rfl (c_impl_within) (fun w12 hXw12 => ?_))
    have hB := hB.trans hXw12
    have hb1 := hb1.up hXw12
    have hb2 := hb2.up hXw12
    have hU0 := hU0.ext hXw12
    refine WL.pureG rfl rfl rfl rfl rfl (PV.not rfl) ?_
    refine WL.pure rfl rfl rfl (PV.pickF rfl rfl) ?_
    refine WL.pure rfl rfl rfl (PV.move rfl) ?_
    refine WL.split (t := 61) rfl (fun hc12 => ?_) (fun hc12 => ?_)
    · skip
      try simp only [decide_eq_true_eq, decide_eq_false_iff_not, Bool.not_eq_true', Bool.not_eq_false', Bool.not_eq_eq_eq_not, Bool.not_true, Bool.not_false, Int.not_lt, Int.not_le, Classical.not_not, beq_iff_eq, beq_eq_false_iff_ne] at hc12
      refine WL.skip rfl rfl rfl rfl rfl ?_
      refine WL.skip rfl rfl rfl rfl rfl ?_
      refine WL.skip rfl rfl rfl rfl rfl ?_
      refine WL.skip rfl rfl rfl rfl rfl ?_
      refine WL.pure rfl rfl rfl (PV.pickT rfl rfl) ?_
      refine WL.nilS ?_
      refine CW.condT rfl ?_
      refine CW.seq ?_
      refine CW.reg ?_
      refine WL.pure rfl rfl rfl (PV.assign rfl) ?_
      refine WL.nilS ?_
      refine CW.ret ?_
      refine RQ.block ?_
      refine RQ.then ?_
      refine RQ.then ?_
      refine RQ.block ?_
      refine RQ.then ?_
      refine RQ.r1 rfl ?_
      refine ⟨?_, hB⟩
      exact bF (by rintro ⟨h1, h2, h3, h4⟩; first | omega | (have h5 := h4 k (by omega); simp only [okR] at h5; omega))
    try simp only [decide_eq_true_eq, decide_eq_false_iff_not, Bool.not_eq_true', Bool.not_eq_false', Bool.not_eq_eq_eq_not, Bool.not_true, Bool.not_false, Int.not_lt, Int.not_le, Classical.not_not, beq_iff_eq, beq_eq_false_iff_ne] at hc12
    refine WL.pureG rfl rfl rfl rfl rfl ((by first | exact PV.fieldAddr T.fl100_3 rfl (by first | assumption | exact Bx.cells (by assumption)) | exact PV.fieldAddrP T.fl100_3 rfl rfl)) ?_
    refine WL.pureG rfl rfl rfl rfl rfl ((by first | exact PV.load0 T.na2 rfl (by first | exact Cells.up (by assumption) hB | exact Bx.cells (by assumption) | assumption) (Ext.refl _) rfl | exact PV.load1 T.na2 rfl (by first | exact Cells.up (by assumption) hB | exact Bx.cells (by assumption) | assumption) (Ext.refl _) rfl)) ?_
    refine WL.opG rfl rfl rfl (OpK.callR rfl T.cf73 rfl (c_impl_within) (fun w13 hXw13 => ?_))
    have hB := hB.trans hXw13
    have hb1 := hb1.up hXw13
    have hb2 := hb2.up hXw13
    have hU0 := hU0.ext hXw13
    refine WL.pureG rfl rfl rfl rfl rfl (PV.not rfl) ?_
    refine WL.pure rfl rfl rfl (PV.pickF rfl rfl) ?_
    refine WL.nilS ?_
    refine CW.cond rfl (fun hc13 => ?_) (fun hc13 => ?_)
    · skip
      try simp only [decide_eq_true_eq, decide_eq_false_iff_not, Bool.not_eq_true', Bool.not_eq_false', Bool.not_eq_eq_eq_not, Bool.not_true, Bool.not_false, Int.not_lt, Int.not_le, Classical.not_not, beq_iff_eq, beq_eq_false_iff_ne] at hc13
      refine CW.seq ?_
      refine CW.reg ?_
      refine WL.pure rfl rfl rfl (PV.assign rfl) ?_
      refine WL.nilS ?_
      refine CW.ret ?_
      refine RQ.block ?_
      refine RQ.then ?_
      refine RQ.then ?_
      refine RQ.block ?_
      refine RQ.then ?_
      refine RQ.r1 rfl ?_
      refine ⟨?_, hB⟩
      exact bF (by rintro ⟨h1, h2, h3, h4⟩; first | omega | (have h5 := h4 k (by omega); simp only [okR] at h5; omega))
    try simp only [decide_eq_true_eq, decide_eq_false_iff_not, Bool.not_eq_true', Bool.not_eq_false', Bool.not_eq_eq_eq_not, Bool.not_true, Bool.not_false, Int.not_lt, Int.not_le, Classical.not_not, beq_iff_eq, beq_eq_false_iff_ne] at hc13
    refine CW.skip ?_
    refine NQ.block ?_
    refine NQ.then ?_
    refine CW.reg ?_
    refine WL.pure rfl rfl rfl (PV.add rfl rfl (by constructor <;> omega)) ?_
    refine WL.pure rfl rfl rfl (PV.move rfl) ?_
    refine WL.nil ?_
    refine NQ.next (ρ := [(25, _)]) ⟨rfl, rfl, rfl, rfl, trivial⟩ ?_
    exact ⟨_, ⟨k + 1, rfl, rfl, hU0, (by first | omega | assumption | (simp_all; done) | (simp_all; omega)), (by intro q h1; by_cases h : q < k; exact hq q h; obtain rfl : q = k := (by omega); simp only [okR]; omega)⟩, by omega⟩
  try simp only [decide_eq_true_eq, decide_eq_false_iff_not, Bool.not_eq_true', Bool.not_eq_false', Bool.not_eq_eq_eq_not, Bool.not_true, Bool.not_false, Int.not_lt, Int.not_le, Classical.not_not, beq_iff_eq, beq_eq_false_iff_ne] at hc4
  refine CW.exit ?_
  refine XQ.then ?_
  refine XQ.then ?_
  refine XQ.here ?_
  refine NQ.then ?_
  refine CW.seq ?_
  refine CW.reg ?_
  refine WL.pure rfl rfl rfl (PV.assign rfl) ?_
  refine WL.nilS ?_
  refine CW.ret ?_
  refine RQ.r1 rfl ?_
  refine ⟨?_, hB⟩
  exact bT ⟨by omega, by omega, by omega, fun q h => hq q (by omega)⟩
theorem c_impl_areWithin {w : World} {va : Value} {xs : List Int} {lo hi : Int} (ha : Rd EI w va xs) : Calls Try.prog 105 #[va, .int .i64 lo, .int .i64 hi] w (Ret1 (RQt (.bool (allIn xs lo hi)) w)) := by
  have hB : Ext w w := Ext.refl w
  have hla := ha.leI
  refine callsOf (vs := [_, _, _]) Try.func105 rfl Try.ntmps105 rfl rfl ?_
  refine CW.seq ?_
  refine CW.reg ?_
  refine WL.pure rfl rfl rfl (PV.assign rfl) ?_
  refine WL.nilS ?_
  refine CW.seq ?_
  refine CW.seq ?_
  refine CW.reg ?_
  refine WL.pure rfl rfl rfl (PV.move rfl) ?_
  refine WL.pure rfl rfl rfl ((by first | exact PV.len rfl (by assumption) T.sl22 | exact PV.lenOs rfl (by assumption) T.sl22 | exact PV.len rfl (NL.rd (by assumption)) T.sl22)) ?_
  refine WL.pure rfl rfl rfl (PV.move rfl) ?_
  refine WL.nilS ?_
  refine CW.block ?_
  refine CW.loop (σk := [(1, _), (2, _), (9, _), (10, _)]) (fun ρ wz m => ∃ (k : Nat), ρ = [(11, .int .i64 (k : Nat))] ∧ m = xs.length - k ∧ UpdL [] w wz ∧ (k ≤ xs.length) ∧ (allIn (xs.take k) lo hi = true)) (ρ₀ := [(11, _)]) (m₀ := _) ⟨rfl, rfl, rfl, rfl, rfl, trivial⟩ ⟨0, rfl, rfl, (UpdL.refl _ _), (by first | omega | rfl | (simp; done) | assumption | (simp_all; done)), (by exact allIn_zero _ _ _)⟩ ?_
  rintro _ wl1 _ ⟨k, rfl, rfl, hU0, hk, he⟩
  have hB := hB.loop hU0 trivial
  refine CW.seq ?_
  refine CW.reg ?_
  refine WL.pure rfl rfl rfl (PV.lss rfl rfl) ?_
  refine WL.nilS ?_
  refine CW.seq ?_
  refine CW.cond rfl (fun hc1 => ?_) (fun hc1 => ?_)
  · skip
    try simp only [decide_eq_true_eq, decide_eq_false_iff_not, Bool.not_eq_true', Bool.not_eq_false', Bool.not_eq_eq_eq_not, Bool.not_true, Bool.not_false, Int.not_lt, Int.not_le, Classical.not_not, beq_iff_eq, beq_eq_false_iff_ne] at hc1
    refine CW.skipS ?_
    refine CW.seq ?_
    refine CW.block ?_
    refine CW.seq ?_
    refine CW.reg ?_
    first
      | refine WL.at (x := .tmp 9) (y := .tmp 11) (E := EI) (0) rfl rfl (by assumption) (by first | omega | (simp; omega) | (simp_all; omega)) (fun p1 csp1 hpp1 hcp1 hq => ?_)
      | refine WL.atZ (x := .tmp 9) (y := .tmp 11) (E := EI) (0) rfl rfl (by assumption) (by first | omega | (simp; omega) | (simp_all; omega)) (fun p1 csp1 hpp1 hzp1 hcp1 hq => ?_)
    cases hq
    refine WL.pure rfl rfl rfl ((by first | exact PV.indexAddr hpp1 rfl rfl T.sl22 | exact PV.indexAddr hpp1 rfl (by rw [← hzp1]; rfl) T.sl22)) ?_
    refine WL.pure rfl rfl rfl ((by first | exact PV.load0 T.na2 rfl (by first | exact Cells.up (by assumption) hB | exact Bx.cells (by assumption) | assumption) (Ext.refl _) rfl | exact PV.load1 T.na2 rfl (by first | exact Cells.up (by assumption) hB | exact Bx.cells (by assumption) | assumption) (Ext.refl _) rfl)) ?_
    refine WL.pure rfl rfl rfl (PV.assign rfl) ?_
    refine WL.nilS ?_
    refine CW.seq ?_
    refine CW.reg ?_
    refine WL.pure rfl rfl rfl (PV.move rfl) ?_
    refine WL.pure rfl rfl rfl (PV.move rfl) ?_
    refine WL.pure rfl rfl rfl (PV.move rfl) ?_
    refine WL.op rfl (OpK.callR rfl T.cf73 rfl (c_impl_within) (fun w1 hXw1 => ?_))
    have hB := hB.trans hXw1
    have hU0 := hU0.ext hXw1
    refine WL.pure rfl rfl rfl (PV.not rfl) ?_
    refine WL.nilS ?_
    refine CW.cond rfl (fun hc2 => ?_) (fun hc2 => ?_)
    · skip
      try simp only [decide_eq_true_eq, decide_eq_false_iff_not, Bool.not_eq_true', Bool.not_eq_false', Bool.not_eq_eq_eq_not, Bool.not_true, Bool.not_false, Int.not_lt, Int.not_le, Classical.not_not, beq_iff_eq, beq_eq_false_iff_ne] at hc2
      refine CW.seq ?_
      refine CW.reg ?_
      refine WL.pure rfl rfl rfl (PV.assign rfl) ?_
      refine WL.nilS ?_
      refine CW.ret ?_
      refine RQ.block ?_
      refine RQ.then ?_
      refine RQ.then ?_
      refine RQ.block ?_
      refine RQ.then ?_
      refine RQ.r1 rfl ?_
      refine ⟨?_, hB⟩
      exact bE (allIn_bad (k := k) (by omega) (by assumption)).symm
    try simp only [decide_eq_true_eq, decide_eq_false_iff_not, Bool.not_eq_true', Bool.not_eq_false', Bool.not_eq_eq_eq_not, Bool.not_true, Bool.not_false, Int.not_lt, Int.not_le, Classical.not_not, beq_iff_eq, beq_eq_false_iff_ne] at hc2
    refine CW.skip ?_
    refine NQ.block ?_
    refine NQ.then ?_
    refine CW.reg ?_
    refine WL.pure rfl rfl rfl (PV.add rfl rfl (by constructor <;> omega)) ?_
    refine WL.pure rfl rfl rfl (PV.move rfl) ?_
    refine WL.nil ?_
    refine NQ.next (ρ := [(11, _)]) ⟨rfl, rfl, rfl, rfl, rfl, trivial⟩ ?_
    exact ⟨_, ⟨k + 1, rfl, rfl, hU0, (by first | omega | assumption | (simp_all; done) | (simp_all; omega)), (by exact allIn_step (by omega) he (by assumption))⟩, by omega⟩
  try simp only [decide_eq_true_eq, decide_eq_false_iff_not, Bool.not_eq_true', Bool.not_eq_false', Bool.not_eq_eq_eq_not, Bool.not_true, Bool.not_false, Int.not_lt, Int.not_le, Classical.not_not, beq_iff_eq, beq_eq_false_iff_ne] at hc1
  refine CW.exit ?_
  refine XQ.then ?_
  refine XQ.then ?_
  refine XQ.here ?_
  refine NQ.then ?_
  refine CW.seq ?_
  refine CW.reg ?_
  refine WL.pure rfl rfl rfl (PV.assign rfl) ?_
  refine WL.nilS ?_
  refine CW.ret ?_
  refine RQ.r1 rfl ?_
  refine ⟨?_, hB⟩
  exact bE (allIn_all (k := k) (by omega) he).symm
theorem c_impl_IsWord {w : World} {va : Value} {xs : List Int} {L : Int} (ha : Rd EI w va xs) : Calls Try.prog 114 #[va, .int .i64 L] w (Ret1 (RQt (.bool (isWordB xs L)) w)) := by
  have hB : Ext w w := Ext.refl w
  have hla := ha.leI
  refine callsOf (vs := [_, _]) Try.func114 rfl Try.ntmps114 rfl rfl ?_
  refine CW.seq ?_
  refine CW.reg ?_
  refine WL.pure rfl rfl rfl (PV.assign rfl) ?_
  refine WL.nilS ?_
  refine CW.seq ?_
  refine CW.reg ?_
  refine WL.pure rfl rfl rfl (PV.move rfl) ?_
  refine WL.op rfl (OpK.callR rfl T.cf73 rfl (c_impl_within) (fun w1 hXw1 => ?_))
  have hB := hB.trans hXw1
  refine WL.pure rfl rfl rfl (PV.move rfl) ?_
  refine WL.split (t := 7) rfl (fun hc1 => ?_) (fun hc1 => ?_)
  rotate_left
  · skip
    try simp only [decide_eq_true_eq, decide_eq_false_iff_not, Bool.not_eq_true', Bool.not_eq_false', Bool.not_eq_eq_eq_not, Bool.not_true, Bool.not_false, Int.not_lt, Int.not_le, Classical.not_not, beq_iff_eq, beq_eq_false_iff_ne] at hc1
    refine WL.skip rfl rfl rfl rfl rfl ?_
    refine WL.skip rfl rfl rfl rfl rfl ?_
    refine WL.skip rfl rfl rfl rfl rfl ?_
    refine WL.pure rfl rfl rfl (PV.pickF rfl rfl) ?_
    refine WL.pure rfl rfl rfl (PV.move rfl) ?_
    refine WL.skip rfl rfl rfl rfl rfl ?_
    refine WL.skip rfl rfl rfl rfl rfl ?_
    refine WL.skip rfl rfl rfl rfl rfl ?_
    refine WL.skip rfl rfl rfl rfl rfl ?_
    refine WL.pure rfl rfl rfl (PV.pickF rfl rfl) ?_
    refine WL.pure rfl rfl rfl (PV.assign rfl) ?_
    refine WL.nilS ?_
    refine CW.ret ?_
    refine RQ.r1 rfl ?_
    refine ⟨?_, hB⟩
    simp only [isWordB, wordB]; first | (simp_all; done) | (simp_all; omega) | (simp_all; intros; omega)
  try simp only [decide_eq_true_eq, decide_eq_false_iff_not, Bool.not_eq_true', Bool.not_eq_false', Bool.not_eq_eq_eq_not, Bool.not_true, Bool.not_false, Int.not_lt, Int.not_le, Classical.not_not, beq_iff_eq, beq_eq_false_iff_ne] at hc1
  refine WL.pureG rfl rfl rfl rfl rfl (PV.move rfl) ?_
  refine WL.pureG rfl rfl rfl rfl rfl ((by first | exact PV.len rfl (by assumption) T.sl22 | exact PV.lenOs rfl (by assumption) T.sl22 | exact PV.len rfl (NL.rd (by assumption)) T.sl22)) ?_
  refine WL.pureG rfl rfl rfl rfl rfl (PV.leq rfl rfl) ?_
  refine WL.pure rfl rfl rfl (PV.pickT rfl rfl) ?_
  refine WL.pure rfl rfl rfl (PV.move rfl) ?_
  refine WL.split (t := 12) rfl (fun hc2 => ?_) (fun hc2 => ?_)
  rotate_left
  · skip
    try simp only [decide_eq_true_eq, decide_eq_false_iff_not, Bool.not_eq_true', Bool.not_eq_false', Bool.not_eq_eq_eq_not, Bool.not_true, Bool.not_false, Int.not_lt, Int.not_le, Classical.not_not, beq_iff_eq, beq_eq_false_iff_ne] at hc2
    refine WL.skip rfl rfl rfl rfl rfl ?_
    refine WL.skip rfl rfl rfl rfl rfl ?_
    refine WL.skip rfl rfl rfl rfl rfl ?_
    refine WL.skip rfl rfl rfl rfl rfl ?_
    refine WL.pure rfl rfl rfl (PV.pickF rfl rfl) ?_
    refine WL.pure rfl rfl rfl (PV.assign rfl) ?_
    refine WL.nilS ?_
    refine CW.ret ?_
    refine RQ.r1 rfl ?_
    refine ⟨?_, hB⟩
    simp only [isWordB, wordB]; first | (simp_all; done) | (simp_all; omega) | (simp_all; intros; omega)
  try simp only [decide_eq_true_eq, decide_eq_false_iff_not, Bool.not_eq_true', Bool.not_eq_false', Bool.not_eq_eq_eq_not, Bool.not_true, Bool.not_false, Int.not_lt, Int.not_le, Classical.not_not, beq_iff_eq, beq_eq_false_iff_ne] at hc2
  refine WL.pureG rfl rfl rfl rfl rfl (PV.move rfl) ?_
  refine WL.pureG rfl rfl rfl rfl rfl (PV.move rfl) ?_
  refine WL.pureG rfl rfl rfl rfl rfl (PV.sub rfl rfl (by constructor <;> omega)) ?_
  refine WL.opG rfl rfl rfl (OpK.callR rfl T.cf105 rfl (c_impl_areWithin (by first | assumption | exact Rd.up (by assumption) hB | exact Osl.rd (by assumption) | exact Osn.rdR (by assumption) | exact NL.rd (by assumption))) (fun w2 hXw2 => ?_))
  have hB := hB.trans hXw2
  refine WL.pure rfl rfl rfl (PV.pickT rfl rfl) ?_
  refine WL.pure rfl rfl rfl (PV.assign rfl) ?_
  refine WL.nilS ?_
  refine CW.ret ?_
  refine RQ.r1 rfl ?_
  refine ⟨?_, hB⟩
  simp only [isWordB, wordB]; first | (simp_all; done) | (simp_all; omega) | (simp_all; intros; omega)
theorem c_impl_Grammar_has {w : World} {a0 : Int} {a1 : Int} {va2 : Value} {xa2 : List R4} {vw : Value} {xs : List Int} (ha2 : Rd ER w va2 xa2) (hw : Rd EI w vw xs) : Calls Try.prog 84 #[.agg #[.int .i64 a0, .int .i64 a1, va2], vw] w (Ret1 (RQt (.bool (canB a0 a1 xa2 xs)) w)) := by
  have hB : Ext w w := Ext.refl w
  have hla2 := ha2.leI; have hlw := hw.leI
  refine callsOf (vs := [_, _]) Try.func84 rfl Try.ntmps84 rfl rfl ?_
  refine CW.seq ?_
  refine CW.reg ?_
  refine WL.op rfl (OpK.box rfl rfl (by first | exact Rd.cells1 (by assumption) | exact Osl.cells1 (by assumption) | exact Osn.cells1 (by assumption) | exact Rd.cells1 (NL.rd (by assumption)) | rfl) (fun b1 w1 hXw1 hb1 hge1 => ?_))
  have hl1 := Lo.new hB hge1
  have hB := hB.trans hXw1
  refine WL.pure rfl rfl rfl (PV.assign rfl) ?_
  refine WL.nilS ?_
  refine CW.seq ?_
  refine CW.reg ?_
  refine WL.pure rfl rfl rfl ((by first | exact PV.loadA T.ag56 rfl (by first | exact Cells.up (by assumption) hB | exact Bx.cells (by assumption) | assumption) (Ext.refl _) rfl | exact PV.loadP (ds := [_, _, _]) T.ag56 rfl (by first | exact Cells.up (by assumption) hB | exact Bx.cells (by assumption) | assumption) (Ext.refl _) rfl rfl)) ?_
  refine WL.op rfl (OpK.callR rfl T.cf91 rfl (c_impl_ValidGrammar (by first | assumption | exact Rd.up (by assumption) hB | exact Osl.rd (by assumption) | exact Osn.rdR (by assumption) | exact NL.rd (by assumption))) (fun w2 hXw2 => ?_))
  have hB := hB.trans hXw2
  have hb1 := hb1.up hXw2
  refine WL.pure rfl rfl rfl (PV.move rfl) ?_
  refine WL.split (t := 7) rfl (fun hc1 => ?_) (fun hc1 => ?_)
  rotate_left
  · skip
    try simp only [decide_eq_true_eq, decide_eq_false_iff_not, Bool.not_eq_true', Bool.not_eq_false', Bool.not_eq_eq_eq_not, Bool.not_true, Bool.not_false, Int.not_lt, Int.not_le, Classical.not_not, beq_iff_eq, beq_eq_false_iff_ne] at hc1
    refine WL.skip rfl rfl rfl rfl rfl ?_
    refine WL.skip rfl rfl rfl rfl rfl ?_
    refine WL.skip rfl rfl rfl rfl rfl ?_
    refine WL.skip rfl rfl rfl rfl rfl ?_
    refine WL.pure rfl rfl rfl (PV.pickF rfl rfl) ?_
    refine WL.pure rfl rfl rfl (PV.move rfl) ?_
    refine WL.skip rfl rfl rfl rfl rfl ?_
    refine WL.skip rfl rfl rfl rfl rfl ?_
    refine WL.skip rfl rfl rfl rfl rfl ?_
    refine WL.pure rfl rfl rfl (PV.pickF rfl rfl) ?_
    refine WL.pure rfl rfl rfl (PV.assign rfl) ?_
    refine WL.nilS ?_
    refine CW.ret ?_
    refine RQ.r1 rfl ?_
    refine ⟨?_, hB⟩
    first | exact bE (canB_n1 (by assumption)) | exact bE (canB_n2 (by assumption)) | exact bE (canB_n3 (by omega)) | exact bE (by rw [canB_e1 (by assumption) (by assumption)]; exact decide_eq_decide.2 (by omega)) | exact bE (canB_e2 (by assumption) (by omega))
  try simp only [decide_eq_true_eq, decide_eq_false_iff_not, Bool.not_eq_true', Bool.not_eq_false', Bool.not_eq_eq_eq_not, Bool.not_true, Bool.not_false, Int.not_lt, Int.not_le, Classical.not_not, beq_iff_eq, beq_eq_false_iff_ne] at hc1
  refine WL.pureG rfl rfl rfl rfl rfl (PV.move rfl) ?_
  refine WL.pureG rfl rfl rfl rfl rfl ((by first | exact PV.fieldAddr T.fl56_1 rfl (by first | assumption | exact Bx.cells (by assumption)) | exact PV.fieldAddrP T.fl56_1 rfl rfl)) ?_
  refine WL.pureG rfl rfl rfl rfl rfl ((by first | exact PV.load0 T.na2 rfl (by first | exact Cells.up (by assumption) hB | exact Bx.cells (by assumption) | assumption) (Ext.refl _) rfl | exact PV.load1 T.na2 rfl (by first | exact Cells.up (by assumption) hB | exact Bx.cells (by assumption) | assumption) (Ext.refl _) rfl)) ?_
  refine WL.opG rfl rfl rfl (OpK.callR rfl T.cf114 rfl (c_impl_IsWord (by first | assumption | exact Rd.up (by assumption) hB | exact Osl.rd (by assumption) | exact Osn.rdR (by assumption) | exact NL.rd (by assumption))) (fun w3 hXw3 => ?_))
  have hB := hB.trans hXw3
  have hb1 := hb1.up hXw3
  refine WL.pure rfl rfl rfl (PV.pickT rfl rfl) ?_
  refine WL.pure rfl rfl rfl (PV.move rfl) ?_
  refine WL.split (t := 13) rfl (fun hc2 => ?_) (fun hc2 => ?_)
  rotate_left
  · skip
    try simp only [decide_eq_true_eq, decide_eq_false_iff_not, Bool.not_eq_true', Bool.not_eq_false', Bool.not_eq_eq_eq_not, Bool.not_true, Bool.not_false, Int.not_lt, Int.not_le, Classical.not_not, beq_iff_eq, beq_eq_false_iff_ne] at hc2
    refine WL.skip rfl rfl rfl rfl rfl ?_
    refine WL.skip rfl rfl rfl rfl rfl ?_
    refine WL.skip rfl rfl rfl rfl rfl ?_
    refine WL.pure rfl rfl rfl (PV.pickF rfl rfl) ?_
    refine WL.pure rfl rfl rfl (PV.assign rfl) ?_
    refine WL.nilS ?_
    refine CW.ret ?_
    refine RQ.r1 rfl ?_
    refine ⟨?_, hB⟩
    first | exact bE (canB_n1 (by assumption)) | exact bE (canB_n2 (by assumption)) | exact bE (canB_n3 (by omega)) | exact bE (by rw [canB_e1 (by assumption) (by assumption)]; exact decide_eq_decide.2 (by omega)) | exact bE (canB_e2 (by assumption) (by omega))
  try simp only [decide_eq_true_eq, decide_eq_false_iff_not, Bool.not_eq_true', Bool.not_eq_false', Bool.not_eq_eq_eq_not, Bool.not_true, Bool.not_false, Int.not_lt, Int.not_le, Classical.not_not, beq_iff_eq, beq_eq_false_iff_ne] at hc2
  refine WL.pureG rfl rfl rfl rfl rfl (PV.move rfl) ?_
  refine WL.pureG rfl rfl rfl rfl rfl ((by first | exact PV.len rfl (by assumption) T.sl22 | exact PV.lenOs rfl (by assumption) T.sl22 | exact PV.len rfl (NL.rd (by assumption)) T.sl22)) ?_
  refine WL.pureG rfl rfl rfl rfl rfl (PV.gtr rfl rfl) ?_
  refine WL.pure rfl rfl rfl (PV.pickT rfl rfl) ?_
  refine WL.pure rfl rfl rfl (PV.assign rfl) ?_
  refine WL.nilS ?_
  refine CW.ret ?_
  refine RQ.r1 rfl ?_
  refine ⟨?_, hB⟩
  first | exact bE (canB_n1 (by assumption)) | exact bE (canB_n2 (by assumption)) | exact bE (canB_n3 (by omega)) | exact bE (by rw [canB_e1 (by assumption) (by assumption)]; exact decide_eq_decide.2 (by omega)) | exact bE (canB_e2 (by assumption) (by omega))
set_option maxHeartbeats 4000000 in
theorem c_impl_CountTrees_1 {w : World} {b : World} {pg pq pw pc pf : Addr} {a0 : Int} {a1 : Int} {va2 : Value} {xa2 : List R4} {vw : Value} {xs ys : List Int} {i L : Nat} {f : Bool} (hB0 : Ext b w) (htb_pc : Bx w pc (List.map VI (ys))) (htb_pf : Bx w pf [.bool f]) (htl_pc : Lo b (some pc.block)) (htl_pf : Lo b (some pf.block)) (htb_pg : Bx w pg [.int .i64 a0, .int .i64 a1, va2]) (htb_pq : Bx w pq [.pointer (some pc)]) (htb_pw : Bx w pw [vw]) (htd_pg_pc : Dj (some pg.block) (some pc.block)) (htd_pg_pf : Dj (some pg.block) (some pf.block)) (htd_pq_pc : Dj (some pq.block) (some pc.block)) (htd_pq_pf : Dj (some pq.block) (some pf.block)) (htd_pw_pc : Dj (some pw.block) (some pc.block)) (htd_pw_pf : Dj (some pw.block) (some pf.block)) (htm_pc_pf : Dj (some pc.block) (some pf.block)) (ha2 : Rd ER b va2 xa2) (hw : Rd EI b vw xs) (hg : gramV a0 a1 xa2) (h12 : 1 ≤ xs.length ∧ xs.length ≤ 12) (hTb : TDC (f = true) xa2 xs a0 13 8 1248 ys L i) (hfn : f = false → ¬ okT xa2 xs a0) (hL : 1 ≤ L ∧ i + L ≤ xs.length) : Calls Try.prog 86 #[.int .i64 (i : Nat), .int .i64 ((i + L : Nat) : Int), .pointer (some pg), .pointer (some pq), .pointer (some pw), .pointer (some pf)] w (Ret1 (fun v w' => UpdL [some pc.block, some pf.block] w w' ∧ ∃ (zs : List Int) (f2 : Bool), v = .tuple #[] ∧ (TDC (f2 = true) xa2 xs a0 13 8 1248 zs L (i + 1)) ∧ (f2 = false → ¬ okT xa2 xs a0) ∧ Bx w' pc (List.map VI (zs)) ∧ Bx w' pf [.bool f2])) := by
  have hB := hB0
  have hla2 := ha2.leI; have hlw := hw.leI; have hg1 := hg.1; have hnn := hTb.n; have hr32 := hg.2.2.1
  refine callsOf (vs := [_, _, _, _, _, _]) Try.func86 rfl Try.ntmps86 rfl rfl ?_
  have hUB : UpdL [(some pc.block), (some pf.block)] w w := UpdL.refl _ _
  have hb1 := htb_pc
  have hl1 := htl_pc
  have hkB_1 : OkB [(some pc.block), (some pf.block)] w (some pc.block) := OkB.mem (by simp)
  have hgB_1 := OgR.refl w (some pc.block)
  have hb2 := htb_pf
  have hl2 := htl_pf
  have hkB_2 : OkB [(some pc.block), (some pf.block)] w (some pf.block) := OkB.mem (by simp)
  have hgB_2 := OgR.refl w (some pf.block)
  have hd1_2 := htm_pc_pf
  have hb3 := htb_pg
  have hd1_3 := Dj.symm htd_pg_pc
  have hd2_3 := Dj.symm htd_pg_pf
  have hb4 := htb_pq
  have hd1_4 := Dj.symm htd_pq_pc
  have hd2_4 := Dj.symm htd_pq_pf
  have hb5 := htb_pw
  have hd1_5 := Dj.symm htd_pw_pc
  have hd2_5 := Dj.symm htd_pw_pf
  refine CW.seq ?_
  refine CW.reg ?_
  refine WL.pure rfl rfl rfl ((by first | exact PV.fieldAddr T.fl56_2 rfl (by first | assumption | exact Bx.cells (by assumption)) | exact PV.fieldAddrP T.fl56_2 rfl rfl)) ?_
  refine WL.pure rfl rfl rfl ((by first | exact PV.load0 T.na54 rfl (by first | exact Cells.up (by assumption) hB | exact Bx.cells (by assumption) | assumption) (Ext.refl _) rfl | exact PV.load1 T.na54 rfl (by first | exact Cells.up (by assumption) hB | exact Bx.cells (by assumption) | assumption) (Ext.refl _) rfl)) ?_
  refine WL.pure rfl rfl rfl ((by first | exact PV.len rfl (by assumption) T.sl54 | exact PV.lenOs rfl (by assumption) T.sl54 | exact PV.len rfl (NL.rd (by assumption)) T.sl54)) ?_
  refine WL.pure rfl rfl rfl (PV.move rfl) ?_
  refine WL.nilS ?_
  refine CW.block ?_
  refine CW.loop (σk := [(0, _), (1, _), (3, _), (4, _), (5, _), (13, _), (14, _)]) (fun ρ wz m => ∃ (K : Nat) (ys1 : List Int) (f1 : Bool), ρ = [(15, .int .i64 (K : Nat))] ∧ m = xa2.length - K ∧ UpdL [(some pc.block), (some pf.block)] w wz ∧ Bx wz pc (List.map VI (ys1)) ∧ Bx wz pf [.bool f1] ∧ (K ≤ xa2.length) ∧ (TQK (f1 = true) xa2 xs a0 13 8 1248 ys1 L i K) ∧ (f1 = false → ¬ okT xa2 xs a0)) (ρ₀ := [(15, _)]) (m₀ := _) ⟨rfl, rfl, rfl, rfl, rfl, rfl, rfl, rfl, trivial⟩ ⟨0, ys, f, rfl, rfl, (UpdL.refl _ _), bxM hb1 (by rfl), bxE hb2 (by rfl), (by first | omega | rfl | (simp; done) | assumption | (simp_all; done)), (by exact hTb.start (by omega) (by omega) (fun a => cuK_zero _ _ _ _ _ _)), (by assumption)⟩ ?_
  rintro _ wl1 _ ⟨K, ys1, f1, rfl, rfl, hU0, hb1, hb2, hK, hp0, hf1⟩
  have hUB := hUB.trans hU0 ⟨hkB_1, hkB_2, trivial⟩
  have hb3 := hb3.loop hU0 ⟨(Dj.symm hd1_3), (Dj.symm hd2_3), trivial⟩
  have hb4 := hb4.loop hU0 ⟨(Dj.symm hd1_4), (Dj.symm hd2_4), trivial⟩
  have hb5 := hb5.loop hU0 ⟨(Dj.symm hd1_5), (Dj.symm hd2_5), trivial⟩
  have hk0_1 : OkB [(some pc.block), (some pf.block)] w (some pc.block) := OkB.mem (by simp)
  have hk0_2 : OkB [(some pc.block), (some pf.block)] w (some pf.block) := OkB.mem (by simp)
  have hB := hB.loop hU0 ⟨hl1, hl2, trivial⟩
  have hp := hp0
  refine CW.seq ?_
  refine CW.reg ?_
  refine WL.pure rfl rfl rfl (PV.lss rfl rfl) ?_
  refine WL.nilS ?_
  refine CW.seq ?_
  refine CW.cond rfl (fun hc1 => ?_) (fun hc1 => ?_)
  · skip
    try simp only [decide_eq_true_eq, decide_eq_false_iff_not, Bool.not_eq_true', Bool.not_eq_false', Bool.not_eq_eq_eq_not, Bool.not_true, Bool.not_false, Int.not_lt, Int.not_le, Classical.not_not, beq_iff_eq, beq_eq_false_iff_ne] at hc1
    refine CW.skipS ?_
    refine CW.seq ?_
    refine CW.block ?_
    refine CW.seq ?_
    refine CW.reg ?_
    first
      | refine WL.at (x := .tmp 13) (y := .tmp 15) (E := ER) ((0, 0, 0, 0)) rfl rfl (by assumption) (by first | omega | (simp; omega) | (simp_all; omega)) (fun p1 csp1 hpp1 hcp1 hq => ?_)
      | refine WL.atZ (x := .tmp 13) (y := .tmp 15) (E := ER) ((0, 0, 0, 0)) rfl rfl (by assumption) (by first | omega | (simp; omega) | (simp_all; omega)) (fun p1 csp1 hpp1 hzp1 hcp1 hq => ?_)
    cases hq
    refine WL.pure rfl rfl rfl ((by first | exact PV.indexAddr hpp1 rfl rfl T.sl54 | exact PV.indexAddr hpp1 rfl (by rw [← hzp1]; rfl) T.sl54)) ?_
    refine WL.pure rfl rfl rfl ((by first | exact PV.loadA T.ag100 rfl (by first | exact Cells.up (by assumption) hB | exact Bx.cells (by assumption) | assumption) (Ext.refl _) rfl | exact PV.loadP (ds := [_, _, _, _]) T.ag100 rfl (by first | exact Cells.up (by assumption) hB | exact Bx.cells (by assumption) | assumption) (Ext.refl _) rfl rfl)) ?_
    refine WL.op rfl (OpK.alloc rfl T.zv100 rfl (fun b8 w1 hXw1 hb8 hge8 => ?_))
    have hl8 := Lo.new hB hge8
    have hd1_8 := Dj.new hb1.ltO hge8
    have hd2_8 := Dj.new hb2.ltO hge8
    have hd3_8 := Dj.new hb3.ltO hge8
    have hd4_8 := Dj.new hb4.ltO hge8
    have hd5_8 := Dj.new hb5.ltO hge8
    have hkB_8 := OkN.new hUB hge8
    have hgB_8 := OgR.new hUB.size hge8
    have hk0_8 := OkN.new hU0 hge8
    have hg0_8 := OgR.new hU0.size hge8
    have hB := hB.trans hXw1
    have hb1 := hb1.up hXw1
    have hb2 := hb2.up hXw1
    have hb3 := hb3.up hXw1
    have hb4 := hb4.up hXw1
    have hb5 := hb5.up hXw1
    have hUB := hUB.ext hXw1
    have hU0 := hU0.ext hXw1
    refine WL.op rfl (OpK.storeA T.sz100 rfl rfl rfl rfl (by simp [Value.oneCell'] <;> first | done | (repeat' apply And.intro) <;> first | rfl | exact Osl.oneCell (by assumption) | exact Osn.oneCell (by assumption) | exact Rd.oneCell (by assumption) | exact Rd.oneCell (NL.rd (by assumption)) | assumption) hb8 (fun w2 hXw2 hb8 => ?_))
    have hB := hB.updL hXw2 hl8
    have hb1 := hb1.updD hXw2 hd1_8
    have hb2 := hb2.updD hXw2 hd2_8
    have hb3 := hb3.updD hXw2 hd3_8
    have hb4 := hb4.updD hXw2 hd4_8
    have hb5 := hb5.updD hXw2 hd5_8
    have hUB := hUB.step hXw2 hkB_8
    have hU0 := hU0.step hXw2 hk0_8
    refine WL.nilS ?_
    refine CW.seq ?_
    refine CW.draw T.mixed (by kernel_rfl) (fun _ _ _ _ _ h => h) (fun w8 w9 => Upd none w8 w9) 10 (.take 0 (.take 1 (.take 2 (.take 3 (.take 4 (.take 5 (.take 6 (.take 7 (.take 8 (.take 9 .done)))))))))) (by kernel_rfl) (fun w3 hXd => ?_)
    have hB := hB.trans hXd
    have hb1 := hb1.up hXd
    have hb2 := hb2.up hXd
    have hb3 := hb3.up hXd
    have hb4 := hb4.up hXd
    have hb5 := hb5.up hXd
    have hb8 := hb8.up hXd
    have hUB := hUB.ext hXd
    have hU0 := hU0.ext hXd
    have hBr := hB
    have hS : Upd none w3 w3 := Ext.toUpd (Ext.refl _)
    have hgl := gram_left hg K (by omega); have hgl1 : 0 ≤ (xa2.getD K (0, 0, 0, 0)).1 := hgl.1; have hgl2 : (xa2.getD K (0, 0, 0, 0)).1 < a0 := hgl.2; have hyn := hp.n; have ei : i * 104 + (i + L) * 8 + (xa2.getD K (0, 0, 0, 0)).1.toNat = (i * 13 + (i + L)) * 8 + (rl xa2 K).1.toNat := (by simp only [rl]; omega); have ec : cl 0 13 8 ys1 i (i + L) (rl xa2 K).1 = ys1.getD (i * 104 + (i + L) * 8 + (xa2.getD K (0, 0, 0, 0)).1.toNat) 0 := congrArg (fun q => ys1.getD q 0) ei.symm; have hcr := hp.range (by omega) hgl; rw [ec] at hcr
    refine HP.take rfl rfl rfl rfl hS (fun wS hS1 => (by first | exact PV.load0 T.na102 rfl (by first | exact Cells.up (by assumption) (hBr.trans hS1) | exact Bx.cells (Bx.updD (by assumption) hS1 (Dj.nlR _)) | exact Cells.upd (by assumption) hS1 (by simp)) (Ext.refl _) rfl | exact PV.load1 T.na102 rfl (by first | exact Cells.up (by assumption) (hBr.trans hS1) | exact Bx.cells (Bx.updD (by assumption) hS1 (Dj.nlR _)) | exact Cells.upd (by assumption) hS1 (by simp)) (Ext.refl _) rfl)) ?_
    refine HP.take rfl rfl rfl rfl hS (fun wS hS1 => PV.move rfl) ?_
    refine HP.take rfl rfl rfl rfl hS (fun wS hS1 => PV.move rfl) ?_
    refine HP.take rfl rfl rfl rfl hS (fun wS hS1 => (by first | exact PV.fieldAddr T.fl100_0 rfl (by first | assumption | exact Bx.cells (by assumption)) | exact PV.fieldAddrP T.fl100_0 rfl rfl)) ?_
    refine HP.take rfl rfl rfl rfl hS (fun wS hS1 => (by first | exact PV.load0 T.na2 rfl (by first | exact Cells.up (by assumption) (hBr.trans hS1) | exact Bx.cells (Bx.updD (by assumption) hS1 (Dj.nlR _)) | exact Cells.upd (by assumption) hS1 (by simp)) (Ext.refl _) rfl | exact PV.load1 T.na2 rfl (by first | exact Cells.up (by assumption) (hBr.trans hS1) | exact Bx.cells (Bx.updD (by assumption) hS1 (Dj.nlR _)) | exact Cells.upd (by assumption) hS1 (by simp)) (Ext.refl _) rfl)) ?_
    refine HP.take rfl rfl rfl rfl hS (fun wS hS1 => PV.nilCheck rfl) ?_
    refine HP.take rfl rfl rfl rfl hS (fun wS hS1 => (by first | exact PV.ixN T.ar106 rfl hb1.spot rfl (by omega) | exact PV.ixZ T.ar106 rfl hb1.spot rfl (by omega))) ?_
    refine HP.take rfl rfl rfl rfl hS (fun wS hS1 => (by first | exact PV.ixPN T.ar104 rfl rfl (by omega) | exact PV.ixPZ T.ar104 rfl rfl (by omega))) ?_
    refine HP.take rfl rfl rfl rfl hS (fun wS hS1 => (by first | exact PV.ixPN1 T.ar103 rfl rfl (by omega) | exact PV.ixPZ1 T.ar103 rfl rfl (by omega))) ?_
    refine HP.take rfl rfl rfl rfl hS (fun wS hS1 => PV.assign rfl) ?_
    refine HP.doneS ?_
    refine CW.seq ?_
    refine CW.seq ?_
    refine CW.draw T.mixed (by kernel_rfl) (fun _ _ _ _ _ h => h) (fun w8 w9 => Upd none w8 w9) 18 (.take 0 (.take 1 (.take 2 (.take 3 (.split (.take 4 (.take 5 (.take 6 (.take 7 (.take 8 (.take 9 (.split (.take 10 (.take 11 (.take 12 (.take 13 (.take 14 (.take 15 (.take 16 (.take 17 .done)))))))) (.take 10 (.take 11 (.take 12 (.take 13 (.take 14 (.take 15 (.take 16 (.take 17 .done))))))))))))))) (.take 4 (.take 5 (.take 6 (.take 7 (.take 8 (.take 9 (.take 10 (.take 11 (.take 12 (.take 13 (.take 14 (.take 15 (.take 16 (.take 17 .done))))))))))))))))))) (by kernel_rfl) (fun w4 hXd => ?_)
    have hB := hB.trans hXd
    have hb1 := hb1.up hXd
    have hb2 := hb2.up hXd
    have hb3 := hb3.up hXd
    have hb4 := hb4.up hXd
    have hb5 := hb5.up hXd
    have hb8 := hb8.up hXd
    have hUB := hUB.ext hXd
    have hU0 := hU0.ext hXd
    have hBr := hB
    have hS : Upd none w4 w4 := Ext.toUpd (Ext.refl _)
    refine HP.take rfl rfl rfl rfl hS (fun wS hS1 => (by first | exact PV.fieldAddr T.fl100_2 rfl (by first | assumption | exact Bx.cells (by assumption)) | exact PV.fieldAddrP T.fl100_2 rfl rfl)) ?_
    refine HP.take rfl rfl rfl rfl hS (fun wS hS1 => (by first | exact PV.load0 T.na2 rfl (by first | exact Cells.up (by assumption) (hBr.trans hS1) | exact Bx.cells (Bx.updD (by assumption) hS1 (Dj.nlR _)) | exact Cells.upd (by assumption) hS1 (by simp)) (Ext.refl _) rfl | exact PV.load1 T.na2 rfl (by first | exact Cells.up (by assumption) (hBr.trans hS1) | exact Bx.cells (Bx.updD (by assumption) hS1 (Dj.nlR _)) | exact Cells.upd (by assumption) hS1 (by simp)) (Ext.refl _) rfl)) ?_
    refine HP.take rfl rfl rfl rfl hS (fun wS hS1 => PV.lss rfl rfl) ?_
    refine HP.take rfl rfl rfl rfl hS (fun wS hS1 => PV.move rfl) ?_
    refine HP.split (t := 31) rfl (fun hc2 => ?_) (fun hc2 => ?_)
    rotate_left
    · skip
      try simp only [decide_eq_true_eq, decide_eq_false_iff_not, Bool.not_eq_true', Bool.not_eq_false', Bool.not_eq_eq_eq_not, Bool.not_true, Bool.not_false, Int.not_lt, Int.not_le, Classical.not_not, beq_iff_eq, beq_eq_false_iff_ne] at hc2
      refine HP.skip rfl rfl rfl rfl rfl rfl hS ?_
      refine HP.skip rfl rfl rfl rfl rfl rfl hS ?_
      refine HP.skip rfl rfl rfl rfl rfl rfl hS ?_
      refine HP.skip rfl rfl rfl rfl rfl rfl hS ?_
      refine HP.take rfl rfl rfl rfl hS (fun wS hS1 => PV.pickF rfl rfl) ?_
      refine HP.take rfl rfl rfl rfl hS (fun wS hS1 => PV.move rfl) ?_
      refine HP.skip rfl rfl rfl rfl rfl rfl hS ?_
      refine HP.skip rfl rfl rfl rfl rfl rfl hS ?_
      refine HP.skip rfl rfl rfl rfl rfl rfl hS ?_
      refine HP.skip rfl rfl rfl rfl rfl rfl hS ?_
      refine HP.skip rfl rfl rfl rfl rfl rfl hS ?_
      refine HP.skip rfl rfl rfl rfl rfl rfl hS ?_
      refine HP.skip rfl rfl rfl rfl rfl rfl hS ?_
      refine HP.take rfl rfl rfl rfl hS (fun wS hS1 => PV.pickF rfl rfl) ?_
      refine HP.doneS ?_
      refine CW.condF rfl ?_
      refine CW.skipS ?_
      refine CW.seq ?_
      refine CW.seq ?_
      refine CW.reg ?_
      refine WL.pure rfl rfl rfl (PV.move rfl) ?_
      refine WL.pure rfl rfl rfl (PV.add rfl rfl (by constructor <;> omega)) ?_
      refine WL.pure rfl rfl rfl (PV.assign rfl) ?_
      refine WL.nilS ?_
      refine CW.block ?_
      refine CW.loop (σk := [(0, _), (1, _), (3, _), (4, _), (5, _), (9, _), (10, _), (13, _), (14, _), (15, _)]) (fun ρ wz m => ∃ (M : Nat) (ys1 : List Int), ρ = [(11, .int .i64 (M : Nat))] ∧ m = i + L - M ∧ UpdL [(some pc.block)] w4 wz ∧ Bx wz pc (List.map VI (ys1)) ∧ (i + 1 ≤ M ∧ M ≤ i + L) ∧ (TQM (f1 = true) xa2 xs a0 13 8 1248 ys1 L i K M)) (ρ₀ := [(11, _)]) (m₀ := _) ⟨rfl, rfl, rfl, rfl, rfl, rfl, rfl, rfl, rfl, rfl, rfl, trivial⟩ ⟨i + 1, _, rfl, rfl, (UpdL.refl _ _), bxM hb1 (by rfl), (by first | omega | rfl | (simp; done) | assumption | (simp_all; done)), (by first | exact hp0.open_no (fun h9 => by have h91 : (xa2.getD K (0, 0, 0, 0)).2.2.1 < 0 := h9.1; have h92 := h9.2.1; first | omega | exact absurd h9.2.2 (by assumption)) | (rw [← ec, ei]; exact hp0.open_leaf hg (by omega) (by omega) (by omega) (by omega) (by omega) (by omega) (by assumption) (by omega) (by assumption)))⟩ ?_
      rintro _ wl2 _ ⟨M, ys1, rfl, rfl, hU1, hb1, hm, hp⟩
      have hUB := hUB.trans hU1 ⟨hkB_1, trivial⟩
      have hU0 := hU0.trans hU1 ⟨hk0_1, trivial⟩
      have hb2 := hb2.loop hU1 ⟨(Dj.symm hd1_2), trivial⟩
      have hb3 := hb3.loop hU1 ⟨(Dj.symm hd1_3), trivial⟩
      have hb4 := hb4.loop hU1 ⟨(Dj.symm hd1_4), trivial⟩
      have hb5 := hb5.loop hU1 ⟨(Dj.symm hd1_5), trivial⟩
      have hb8 := hb8.loop hU1 ⟨(Dj.symm hd1_8), trivial⟩
      have hk1_1 : OkB [(some pc.block)] w4 (some pc.block) := OkB.mem (by simp)
      have hB := hB.loop hU1 ⟨hl1, trivial⟩
      refine CW.seq ?_
      refine CW.seq ?_
      refine CW.reg ?_
      refine WL.pure rfl rfl rfl (PV.move rfl) ?_
      refine WL.pure rfl rfl rfl (PV.move rfl) ?_
      refine WL.pure rfl rfl rfl (PV.lss rfl rfl) ?_
      refine WL.pure rfl rfl rfl (PV.move rfl) ?_
      refine WL.split (t := 56) rfl (fun hc3 => ?_) (fun hc3 => ?_)
      rotate_left
      · skip
        try simp only [decide_eq_true_eq, decide_eq_false_iff_not, Bool.not_eq_true', Bool.not_eq_false', Bool.not_eq_eq_eq_not, Bool.not_true, Bool.not_false, Int.not_lt, Int.not_le, Classical.not_not, beq_iff_eq, beq_eq_false_iff_ne] at hc3
        refine WL.skip rfl rfl rfl rfl rfl ?_
        refine WL.skip rfl rfl rfl rfl rfl ?_
        refine WL.skip rfl rfl rfl rfl rfl ?_
        refine WL.pure rfl rfl rfl (PV.pickF rfl rfl) ?_
        refine WL.nilS ?_
        refine CW.condF rfl ?_
        refine CW.exit ?_
        refine XQ.then ?_
        refine XQ.then ?_
        refine XQ.here ?_
        refine NQ.then ?_
        refine CW.reg ?_
        have hgl := gram_left hg K (by omega); have hgl1 : 0 ≤ (xa2.getD K (0, 0, 0, 0)).1 := hgl.1; have hgl2 : (xa2.getD K (0, 0, 0, 0)).1 < a0 := hgl.2; have hyn := hp.n; have ei : i * 104 + (i + L) * 8 + (xa2.getD K (0, 0, 0, 0)).1.toNat = (i * 13 + (i + L)) * 8 + (rl xa2 K).1.toNat := (by simp only [rl]; omega); have ec : cl 0 13 8 ys1 i (i + L) (rl xa2 K).1 = ys1.getD (i * 104 + (i + L) * 8 + (xa2.getD K (0, 0, 0, 0)).1.toNat) 0 := congrArg (fun q => ys1.getD q 0) ei.symm; have hcr := hp.range (by omega) hgl; rw [ec] at hcr
        refine WL.pure rfl rfl rfl ((by first | exact PV.load0 T.na4 rfl (by first | exact Cells.up (by assumption) hB | exact Bx.cells (by assumption) | assumption) (Ext.refl _) rfl | exact PV.load1 T.na4 rfl (by first | exact Cells.up (by assumption) hB | exact Bx.cells (by assumption) | assumption) (Ext.refl _) rfl)) ?_
        refine WL.pure rfl rfl rfl (PV.move rfl) ?_
        refine WL.split (t := 92) rfl (fun hc4 => ?_) (fun hc4 => ?_)
        rotate_left
        · skip
          try simp only [decide_eq_true_eq, decide_eq_false_iff_not, Bool.not_eq_true', Bool.not_eq_false', Bool.not_eq_eq_eq_not, Bool.not_true, Bool.not_false, Int.not_lt, Int.not_le, Classical.not_not, beq_iff_eq, beq_eq_false_iff_ne] at hc4
          refine WL.skip rfl rfl rfl rfl rfl ?_
          refine WL.skip rfl rfl rfl rfl rfl ?_
          refine WL.skip rfl rfl rfl rfl rfl ?_
          refine WL.skip rfl rfl rfl rfl rfl ?_
          refine WL.pure rfl rfl rfl (PV.pickF rfl rfl) ?_
          first
            | refine WL.op rfl (OpK.storeB T.sz4 rfl rfl (by first | rfl | exact Osl.oneCell (by assumption) | exact Osn.oneCell (by assumption) | exact Rd.oneCell (by assumption) | exact Rd.oneCell (NL.rd (by assumption)) | assumption) hb2 rfl (fun w5 hXw5 hb2 => ?_))
            | refine WL.op rfl (OpK.storeB0 T.sz4 rfl rfl (by first | rfl | exact Osl.oneCell (by assumption) | exact Osn.oneCell (by assumption) | exact Rd.oneCell (by assumption) | exact Rd.oneCell (NL.rd (by assumption)) | assumption) hb2 (fun w5 hXw5 hb2 => ?_))
          have hB := hB.updL hXw5 hl2
          have hb1 := hb1.updD hXw5 hd1_2
          have hb3 := hb3.updD hXw5 (Dj.symm hd2_3)
          have hb4 := hb4.updD hXw5 (Dj.symm hd2_4)
          have hb5 := hb5.updD hXw5 (Dj.symm hd2_5)
          have hb8 := hb8.updD hXw5 (Dj.symm hd2_8)
          have hUB := hUB.step hXw5 hkB_2
          have hU0 := hU0.step hXw5 hk0_2
          refine WL.nil ?_
          refine NQ.block ?_
          refine NQ.then ?_
          refine CW.reg ?_
          refine WL.pure rfl rfl rfl (PV.add rfl rfl (by constructor <;> omega)) ?_
          refine WL.pure rfl rfl rfl (PV.move rfl) ?_
          refine WL.nil ?_
          refine NQ.next (ρ := [(15, _)]) ⟨rfl, rfl, rfl, rfl, rfl, rfl, rfl, rfl, trivial⟩ ?_
          exact ⟨_, ⟨K + 1, _, _, rfl, rfl, hU0, bxM hb1 (by rfl), bxE hb2 (by rfl), (by first | omega | assumption | (simp_all; done) | (simp_all; omega)), (by exact (TQM.imp hp (fun h9 => by first | assumption | cases h9)).close (by first | exact .inl (by omega) | exact .inr (by assumption)) (by omega) (fun h9 => by first | (cases h9; done) | (rw [ec]; exact of_decide_eq_true h9))), (by intro h9; first | exact hf1 (by assumption) | exact hp.bad (by assumption) hg (by omega) (by omega) (by omega) (by omega) (by rw [ec]; have h99 := of_decide_eq_false h9; omega))⟩, by omega⟩
        try simp only [decide_eq_true_eq, decide_eq_false_iff_not, Bool.not_eq_true', Bool.not_eq_false', Bool.not_eq_eq_eq_not, Bool.not_true, Bool.not_false, Int.not_lt, Int.not_le, Classical.not_not, beq_iff_eq, beq_eq_false_iff_ne] at hc4
        refine WL.pureG rfl rfl rfl rfl rfl (PV.move rfl) ?_
        refine WL.pureG rfl rfl rfl rfl rfl (PV.nilCheck rfl) ?_
        refine WL.pureG rfl rfl rfl rfl rfl (PV.loadArr 0 T.na2 rfl (Bx.cells hb1) (Ext.refl _) (by first | omega | (simp only [List.length_set]; omega))) ?_
        refine WL.pureG rfl rfl rfl rfl rfl (PV.leq rfl rfl) ?_
        refine WL.pure rfl rfl rfl (PV.pickT rfl rfl) ?_
        first
          | refine WL.op rfl (OpK.storeB T.sz4 rfl rfl (by first | rfl | exact Osl.oneCell (by assumption) | exact Osn.oneCell (by assumption) | exact Rd.oneCell (by assumption) | exact Rd.oneCell (NL.rd (by assumption)) | assumption) hb2 rfl (fun w6 hXw6 hb2 => ?_))
          | refine WL.op rfl (OpK.storeB0 T.sz4 rfl rfl (by first | rfl | exact Osl.oneCell (by assumption) | exact Osn.oneCell (by assumption) | exact Rd.oneCell (by assumption) | exact Rd.oneCell (NL.rd (by assumption)) | assumption) hb2 (fun w6 hXw6 hb2 => ?_))
        have hB := hB.updL hXw6 hl2
        have hb1 := hb1.updD hXw6 hd1_2
        have hb3 := hb3.updD hXw6 (Dj.symm hd2_3)
        have hb4 := hb4.updD hXw6 (Dj.symm hd2_4)
        have hb5 := hb5.updD hXw6 (Dj.symm hd2_5)
        have hb8 := hb8.updD hXw6 (Dj.symm hd2_8)
        have hUB := hUB.step hXw6 hkB_2
        have hU0 := hU0.step hXw6 hk0_2
        refine WL.nil ?_
        refine NQ.block ?_
        refine NQ.then ?_
        refine CW.reg ?_
        refine WL.pure rfl rfl rfl (PV.add rfl rfl (by constructor <;> omega)) ?_
        refine WL.pure rfl rfl rfl (PV.move rfl) ?_
        refine WL.nil ?_
        refine NQ.next (ρ := [(15, _)]) ⟨rfl, rfl, rfl, rfl, rfl, rfl, rfl, rfl, trivial⟩ ?_
        exact ⟨_, ⟨K + 1, _, _, rfl, rfl, hU0, bxM hb1 (by rfl), bxE hb2 (by rfl), (by first | omega | assumption | (simp_all; done) | (simp_all; omega)), (by exact (TQM.imp hp (fun h9 => by first | assumption | cases h9)).close (by first | exact .inl (by omega) | exact .inr (by assumption)) (by omega) (fun h9 => by first | (cases h9; done) | (rw [ec]; exact of_decide_eq_true h9))), (by intro h9; first | exact hf1 (by assumption) | exact hp.bad (by assumption) hg (by omega) (by omega) (by omega) (by omega) (by rw [ec]; have h99 := of_decide_eq_false h9; omega))⟩, by omega⟩
      try simp only [decide_eq_true_eq, decide_eq_false_iff_not, Bool.not_eq_true', Bool.not_eq_false', Bool.not_eq_eq_eq_not, Bool.not_true, Bool.not_false, Int.not_lt, Int.not_le, Classical.not_not, beq_iff_eq, beq_eq_false_iff_ne] at hc3
      refine WL.pureG rfl rfl rfl rfl rfl ((by first | exact PV.fieldAddr T.fl100_2 rfl (by first | assumption | exact Bx.cells (by assumption)) | exact PV.fieldAddrP T.fl100_2 rfl rfl)) ?_
      refine WL.pureG rfl rfl rfl rfl rfl ((by first | exact PV.load0 T.na2 rfl (by first | exact Cells.up (by assumption) hB | exact Bx.cells (by assumption) | assumption) (Ext.refl _) rfl | exact PV.load1 T.na2 rfl (by first | exact Cells.up (by assumption) hB | exact Bx.cells (by assumption) | assumption) (Ext.refl _) rfl)) ?_
      refine WL.pureG rfl rfl rfl rfl rfl (PV.geq rfl rfl) ?_
      refine WL.pure rfl rfl rfl (PV.pickT rfl rfl) ?_
      refine WL.nilS ?_
      refine CW.cond rfl (fun hc5 => ?_) (fun hc5 => ?_)
      · skip
        try simp only [decide_eq_true_eq, decide_eq_false_iff_not, Bool.not_eq_true', Bool.not_eq_false', Bool.not_eq_eq_eq_not, Bool.not_true, Bool.not_false, Int.not_lt, Int.not_le, Classical.not_not, beq_iff_eq, beq_eq_false_iff_ne] at hc5
        refine CW.skipS ?_
        refine CW.seq ?_
        refine CW.block ?_
        refine CW.draw T.mixed (by kernel_rfl) (fun _ _ _ _ _ h => h) (fun w8 w9 => Upd none w8 w9) 28 (.take 0 (.take 1 (.take 2 (.take 3 (.take 4 (.take 5 (.take 6 (.take 7 (.take 8 (.take 9 (.take 10 (.take 11 (.take 12 (.take 13 (.take 14 (.take 15 (.take 16 (.take 17 (.take 18 (.take 19 (.take 20 (.take 21 (.take 22 (.take 23 (.take 24 (.take 25 (.take 26 (.take 27 (.must 28 .done))))))))))))))))))))))))))))) (by kernel_rfl) (fun w7 hXd => ?_)
        have hB := hB.trans hXd
        have hb1 := hb1.up hXd
        have hb2 := hb2.up hXd
        have hb3 := hb3.up hXd
        have hb4 := hb4.up hXd
        have hb5 := hb5.up hXd
        have hb8 := hb8.up hXd
        have hUB := hUB.ext hXd
        have hU0 := hU0.ext hXd
        have hU1 := hU1.ext hXd
        have hBr := hB
        have hS : Upd none w7 w7 := Ext.toUpd (Ext.refl _)
        have hgl := gram_left hg K (by omega); have hgl1 : 0 ≤ (xa2.getD K (0, 0, 0, 0)).1 := hgl.1; have hgl2 : (xa2.getD K (0, 0, 0, 0)).1 < a0 := hgl.2; have hyn := hp.n; have ei : i * 104 + (i + L) * 8 + (xa2.getD K (0, 0, 0, 0)).1.toNat = (i * 13 + (i + L)) * 8 + (rl xa2 K).1.toNat := (by simp only [rl]; omega); have ec : cl 0 13 8 ys1 i (i + L) (rl xa2 K).1 = ys1.getD (i * 104 + (i + L) * 8 + (xa2.getD K (0, 0, 0, 0)).1.toNat) 0 := congrArg (fun q => ys1.getD q 0) ei.symm; have hcr := hp.range (by omega) hgl; rw [ec] at hcr; have hgn := gram_node hg (k := K) (by omega) (by assumption); have gn1 : 0 ≤ (xa2.getD K (0, 0, 0, 0)).2.1 ∧ (xa2.getD K (0, 0, 0, 0)).2.1 < a0 := hgn.1; have gn2 : 0 ≤ (xa2.getD K (0, 0, 0, 0)).2.2.1 ∧ (xa2.getD K (0, 0, 0, 0)).2.2.1 < a0 := hgn.2; have hsb := hp.sub hg (by omega) (by omega) (by assumption) (by omega) (by omega); have ea : cl 0 13 8 ys1 i M (rl xa2 K).2.1 = ys1.getD (i * 104 + M * 8 + (xa2.getD K (0, 0, 0, 0)).2.1.toNat) 0 := congrArg (fun q => ys1.getD q 0) (show (i * 13 + M) * 8 + (xa2.getD K (0, 0, 0, 0)).2.1.toNat = _ from (by omega)); have eb : cl 0 13 8 ys1 M (i + L) (rl xa2 K).2.2.1 = ys1.getD (M * 104 + (i + L) * 8 + (xa2.getD K (0, 0, 0, 0)).2.2.1.toNat) 0 := congrArg (fun q => ys1.getD q 0) (show (M * 13 + (i + L)) * 8 + (xa2.getD K (0, 0, 0, 0)).2.2.1.toNat = _ from (by omega)); rw [ea, eb] at hsb; have hmb := mul_bd hsb.1 hsb.2
        refine HP.take rfl rfl rfl rfl hS (fun wS hS1 => PV.move rfl) ?_
        refine HP.take rfl rfl rfl rfl hS (fun wS hS1 => PV.move rfl) ?_
        refine HP.take rfl rfl rfl rfl hS (fun wS hS1 => PV.nilCheck rfl) ?_
        refine HP.take rfl rfl rfl rfl hS (fun wS hS1 => PV.loadArr 0 T.na2 rfl (Bx.cells (Bx.updD hb1 hS1 (Dj.nlR _))) (Ext.refl _) (by first | omega | (simp only [List.length_set]; omega))) ?_
        refine HP.take rfl rfl rfl rfl hS (fun wS hS1 => (by first | exact PV.load0 T.na102 rfl (by first | exact Cells.up (by assumption) (hBr.trans hS1) | exact Bx.cells (Bx.updD (by assumption) hS1 (Dj.nlR _)) | exact Cells.upd (by assumption) hS1 (by simp)) (Ext.refl _) rfl | exact PV.load1 T.na102 rfl (by first | exact Cells.up (by assumption) (hBr.trans hS1) | exact Bx.cells (Bx.updD (by assumption) hS1 (Dj.nlR _)) | exact Cells.upd (by assumption) hS1 (by simp)) (Ext.refl _) rfl)) ?_
        refine HP.take rfl rfl rfl rfl hS (fun wS hS1 => PV.move rfl) ?_
        refine HP.take rfl rfl rfl rfl hS (fun wS hS1 => PV.move rfl) ?_
        refine HP.take rfl rfl rfl rfl hS (fun wS hS1 => (by first | exact PV.fieldAddr T.fl100_1 rfl (by first | assumption | exact Bx.cells (by assumption)) | exact PV.fieldAddrP T.fl100_1 rfl rfl)) ?_
        refine HP.take rfl rfl rfl rfl hS (fun wS hS1 => (by first | exact PV.load0 T.na2 rfl (by first | exact Cells.up (by assumption) (hBr.trans hS1) | exact Bx.cells (Bx.updD (by assumption) hS1 (Dj.nlR _)) | exact Cells.upd (by assumption) hS1 (by simp)) (Ext.refl _) rfl | exact PV.load1 T.na2 rfl (by first | exact Cells.up (by assumption) (hBr.trans hS1) | exact Bx.cells (Bx.updD (by assumption) hS1 (Dj.nlR _)) | exact Cells.upd (by assumption) hS1 (by simp)) (Ext.refl _) rfl)) ?_
        refine HP.take rfl rfl rfl rfl hS (fun wS hS1 => PV.nilCheck rfl) ?_
        refine HP.take rfl rfl rfl rfl hS (fun wS hS1 => (by first | exact PV.ixN T.ar106 rfl hb1.spot rfl (by omega) | exact PV.ixZ T.ar106 rfl hb1.spot rfl (by omega))) ?_
        refine HP.take rfl rfl rfl rfl hS (fun wS hS1 => (by first | exact PV.ixPN T.ar104 rfl rfl (by omega) | exact PV.ixPZ T.ar104 rfl rfl (by omega))) ?_
        refine HP.take rfl rfl rfl rfl hS (fun wS hS1 => (by first | exact PV.ixPN1 T.ar103 rfl rfl (by omega) | exact PV.ixPZ1 T.ar103 rfl rfl (by omega))) ?_
        refine HP.take rfl rfl rfl rfl hS (fun wS hS1 => PV.loadArr 0 T.na2 rfl (Bx.cells (Bx.updD hb1 hS1 (Dj.nlR _))) (Ext.refl _) (by first | omega | (simp only [List.length_set]; omega))) ?_
        refine HP.take rfl rfl rfl rfl hS (fun wS hS1 => (by first | exact PV.load0 T.na102 rfl (by first | exact Cells.up (by assumption) (hBr.trans hS1) | exact Bx.cells (Bx.updD (by assumption) hS1 (Dj.nlR _)) | exact Cells.upd (by assumption) hS1 (by simp)) (Ext.refl _) rfl | exact PV.load1 T.na102 rfl (by first | exact Cells.up (by assumption) (hBr.trans hS1) | exact Bx.cells (Bx.updD (by assumption) hS1 (Dj.nlR _)) | exact Cells.upd (by assumption) hS1 (by simp)) (Ext.refl _) rfl)) ?_
        refine HP.take rfl rfl rfl rfl hS (fun wS hS1 => PV.move rfl) ?_
        refine HP.take rfl rfl rfl rfl hS (fun wS hS1 => PV.move rfl) ?_
        refine HP.take rfl rfl rfl rfl hS (fun wS hS1 => (by first | exact PV.fieldAddr T.fl100_2 rfl (by first | assumption | exact Bx.cells (by assumption)) | exact PV.fieldAddrP T.fl100_2 rfl rfl)) ?_
        refine HP.take rfl rfl rfl rfl hS (fun wS hS1 => (by first | exact PV.load0 T.na2 rfl (by first | exact Cells.up (by assumption) (hBr.trans hS1) | exact Bx.cells (Bx.updD (by assumption) hS1 (Dj.nlR _)) | exact Cells.upd (by assumption) hS1 (by simp)) (Ext.refl _) rfl | exact PV.load1 T.na2 rfl (by first | exact Cells.up (by assumption) (hBr.trans hS1) | exact Bx.cells (Bx.updD (by assumption) hS1 (Dj.nlR _)) | exact Cells.upd (by assumption) hS1 (by simp)) (Ext.refl _) rfl)) ?_
        refine HP.take rfl rfl rfl rfl hS (fun wS hS1 => PV.nilCheck rfl) ?_
        refine HP.take rfl rfl rfl rfl hS (fun wS hS1 => (by first | exact PV.ixN T.ar106 rfl hb1.spot rfl (by omega) | exact PV.ixZ T.ar106 rfl hb1.spot rfl (by omega))) ?_
        refine HP.take rfl rfl rfl rfl hS (fun wS hS1 => (by first | exact PV.ixPN T.ar104 rfl rfl (by omega) | exact PV.ixPZ T.ar104 rfl rfl (by omega))) ?_
        refine HP.take rfl rfl rfl rfl hS (fun wS hS1 => (by first | exact PV.ixPN1 T.ar103 rfl rfl (by omega) | exact PV.ixPZ1 T.ar103 rfl rfl (by omega))) ?_
        refine HP.take rfl rfl rfl rfl hS (fun wS hS1 => PV.loadArr 0 T.na2 rfl (Bx.cells (Bx.updD hb1 hS1 (Dj.nlR _))) (Ext.refl _) (by first | omega | (simp only [List.length_set]; omega))) ?_
        refine HP.take rfl rfl rfl rfl hS (fun wS hS1 => PV.mul rfl rfl (by constructor <;> omega)) ?_
        refine HP.take rfl rfl rfl rfl hS (fun wS hS1 => PV.add rfl rfl (by constructor <;> omega)) ?_
        refine HP.take rfl rfl rfl rfl hS (fun wS hS1 => PV.min2 rfl rfl) ?_
        refine HP.take rfl rfl rfl rfl hS (fun wS hS1 => PV.nilCheck rfl) ?_
        refine HP.last rfl rfl (OpK.storeArr T.sz2 rfl rfl rfl hb1 (by first | omega | (simp only [List.length_set]; omega)) (fun w8 hXw8 hb1 => ?_))
        have hB := hB.updL hXw8 hl1
        have hb2 := hb2.updD hXw8 (Dj.symm hd1_2)
        have hb3 := hb3.updD hXw8 (Dj.symm hd1_3)
        have hb4 := hb4.updD hXw8 (Dj.symm hd1_4)
        have hb5 := hb5.updD hXw8 (Dj.symm hd1_5)
        have hb8 := hb8.updD hXw8 (Dj.symm hd1_8)
        have hUB := hUB.step hXw8 hkB_1
        have hU0 := hU0.step hXw8 hk0_1
        have hU1 := hU1.step hXw8 hk1_1
        refine HP.done ?_
        refine NQ.block ?_
        refine NQ.then ?_
        refine CW.reg ?_
        refine WL.pure rfl rfl rfl (PV.move rfl) ?_
        refine WL.pure rfl rfl rfl (PV.add rfl rfl (by constructor <;> omega)) ?_
        refine WL.pure rfl rfl rfl (PV.assign rfl) ?_
        refine WL.nil ?_
        refine NQ.next (ρ := [(11, _)]) ⟨rfl, rfl, rfl, rfl, rfl, rfl, rfl, rfl, rfl, rfl, rfl, trivial⟩ ?_
        exact ⟨_, ⟨M + 1, _, rfl, rfl, hU1, bxM hb1 (by rfl), (by first | omega | assumption | (simp_all; done) | (simp_all; omega)), (by rw [← ec, ← ea, ← eb, ei]; exact hp.step hg (by omega) (by omega) (by omega) (by omega) (by omega) (by assumption) (by omega) (by omega) (by split <;> omega))⟩, by omega⟩
      try simp only [decide_eq_true_eq, decide_eq_false_iff_not, Bool.not_eq_true', Bool.not_eq_false', Bool.not_eq_eq_eq_not, Bool.not_true, Bool.not_false, Int.not_lt, Int.not_le, Classical.not_not, beq_iff_eq, beq_eq_false_iff_ne] at hc5
      refine CW.exit ?_
      refine XQ.then ?_
      refine XQ.then ?_
      refine XQ.here ?_
      refine NQ.then ?_
      refine CW.reg ?_
      have hgl := gram_left hg K (by omega); have hgl1 : 0 ≤ (xa2.getD K (0, 0, 0, 0)).1 := hgl.1; have hgl2 : (xa2.getD K (0, 0, 0, 0)).1 < a0 := hgl.2; have hyn := hp.n; have ei : i * 104 + (i + L) * 8 + (xa2.getD K (0, 0, 0, 0)).1.toNat = (i * 13 + (i + L)) * 8 + (rl xa2 K).1.toNat := (by simp only [rl]; omega); have ec : cl 0 13 8 ys1 i (i + L) (rl xa2 K).1 = ys1.getD (i * 104 + (i + L) * 8 + (xa2.getD K (0, 0, 0, 0)).1.toNat) 0 := congrArg (fun q => ys1.getD q 0) ei.symm; have hcr := hp.range (by omega) hgl; rw [ec] at hcr
      refine WL.pure rfl rfl rfl ((by first | exact PV.load0 T.na4 rfl (by first | exact Cells.up (by assumption) hB | exact Bx.cells (by assumption) | assumption) (Ext.refl _) rfl | exact PV.load1 T.na4 rfl (by first | exact Cells.up (by assumption) hB | exact Bx.cells (by assumption) | assumption) (Ext.refl _) rfl)) ?_
      refine WL.pure rfl rfl rfl (PV.move rfl) ?_
      refine WL.split (t := 92) rfl (fun hc6 => ?_) (fun hc6 => ?_)
      rotate_left
      · skip
        try simp only [decide_eq_true_eq, decide_eq_false_iff_not, Bool.not_eq_true', Bool.not_eq_false', Bool.not_eq_eq_eq_not, Bool.not_true, Bool.not_false, Int.not_lt, Int.not_le, Classical.not_not, beq_iff_eq, beq_eq_false_iff_ne] at hc6
        refine WL.skip rfl rfl rfl rfl rfl ?_
        refine WL.skip rfl rfl rfl rfl rfl ?_
        refine WL.skip rfl rfl rfl rfl rfl ?_
        refine WL.skip rfl rfl rfl rfl rfl ?_
        refine WL.pure rfl rfl rfl (PV.pickF rfl rfl) ?_
        first
          | refine WL.op rfl (OpK.storeB T.sz4 rfl rfl (by first | rfl | exact Osl.oneCell (by assumption) | exact Osn.oneCell (by assumption) | exact Rd.oneCell (by assumption) | exact Rd.oneCell (NL.rd (by assumption)) | assumption) hb2 rfl (fun w9 hXw9 hb2 => ?_))
          | refine WL.op rfl (OpK.storeB0 T.sz4 rfl rfl (by first | rfl | exact Osl.oneCell (by assumption) | exact Osn.oneCell (by assumption) | exact Rd.oneCell (by assumption) | exact Rd.oneCell (NL.rd (by assumption)) | assumption) hb2 (fun w9 hXw9 hb2 => ?_))
        have hB := hB.updL hXw9 hl2
        have hb1 := hb1.updD hXw9 hd1_2
        have hb3 := hb3.updD hXw9 (Dj.symm hd2_3)
        have hb4 := hb4.updD hXw9 (Dj.symm hd2_4)
        have hb5 := hb5.updD hXw9 (Dj.symm hd2_5)
        have hb8 := hb8.updD hXw9 (Dj.symm hd2_8)
        have hUB := hUB.step hXw9 hkB_2
        have hU0 := hU0.step hXw9 hk0_2
        refine WL.nil ?_
        refine NQ.block ?_
        refine NQ.then ?_
        refine CW.reg ?_
        refine WL.pure rfl rfl rfl (PV.add rfl rfl (by constructor <;> omega)) ?_
        refine WL.pure rfl rfl rfl (PV.move rfl) ?_
        refine WL.nil ?_
        refine NQ.next (ρ := [(15, _)]) ⟨rfl, rfl, rfl, rfl, rfl, rfl, rfl, rfl, trivial⟩ ?_
        exact ⟨_, ⟨K + 1, _, _, rfl, rfl, hU0, bxM hb1 (by rfl), bxE hb2 (by rfl), (by first | omega | assumption | (simp_all; done) | (simp_all; omega)), (by exact (TQM.imp hp (fun h9 => by first | assumption | cases h9)).close (by first | exact .inl (by omega) | exact .inr (by assumption)) (by omega) (fun h9 => by first | (cases h9; done) | (rw [ec]; exact of_decide_eq_true h9))), (by intro h9; first | exact hf1 (by assumption) | exact hp.bad (by assumption) hg (by omega) (by omega) (by omega) (by omega) (by rw [ec]; have h99 := of_decide_eq_false h9; omega))⟩, by omega⟩
      try simp only [decide_eq_true_eq, decide_eq_false_iff_not, Bool.not_eq_true', Bool.not_eq_false', Bool.not_eq_eq_eq_not, Bool.not_true, Bool.not_false, Int.not_lt, Int.not_le, Classical.not_not, beq_iff_eq, beq_eq_false_iff_ne] at hc6
      refine WL.pureG rfl rfl rfl rfl rfl (PV.move rfl) ?_
      refine WL.pureG rfl rfl rfl rfl rfl (PV.nilCheck rfl) ?_
      refine WL.pureG rfl rfl rfl rfl rfl (PV.loadArr 0 T.na2 rfl (Bx.cells hb1) (Ext.refl _) (by first | omega | (simp only [List.length_set]; omega))) ?_
      refine WL.pureG rfl rfl rfl rfl rfl (PV.leq rfl rfl) ?_
      refine WL.pure rfl rfl rfl (PV.pickT rfl rfl) ?_
      first
        | refine WL.op rfl (OpK.storeB T.sz4 rfl rfl (by first | rfl | exact Osl.oneCell (by assumption) | exact Osn.oneCell (by assumption) | exact Rd.oneCell (by assumption) | exact Rd.oneCell (NL.rd (by assumption)) | assumption) hb2 rfl (fun w10 hXw10 hb2 => ?_))
        | refine WL.op rfl (OpK.storeB0 T.sz4 rfl rfl (by first | rfl | exact Osl.oneCell (by assumption) | exact Osn.oneCell (by assumption) | exact Rd.oneCell (by assumption) | exact Rd.oneCell (NL.rd (by assumption)) | assumption) hb2 (fun w10 hXw10 hb2 => ?_))
      have hB := hB.updL hXw10 hl2
      have hb1 := hb1.updD hXw10 hd1_2
      have hb3 := hb3.updD hXw10 (Dj.symm hd2_3)
      have hb4 := hb4.updD hXw10 (Dj.symm hd2_4)
      have hb5 := hb5.updD hXw10 (Dj.symm hd2_5)
      have hb8 := hb8.updD hXw10 (Dj.symm hd2_8)
      have hUB := hUB.step hXw10 hkB_2
      have hU0 := hU0.step hXw10 hk0_2
      refine WL.nil ?_
      refine NQ.block ?_
      refine NQ.then ?_
      refine CW.reg ?_
      refine WL.pure rfl rfl rfl (PV.add rfl rfl (by constructor <;> omega)) ?_
      refine WL.pure rfl rfl rfl (PV.move rfl) ?_
      refine WL.nil ?_
      refine NQ.next (ρ := [(15, _)]) ⟨rfl, rfl, rfl, rfl, rfl, rfl, rfl, rfl, trivial⟩ ?_
      exact ⟨_, ⟨K + 1, _, _, rfl, rfl, hU0, bxM hb1 (by rfl), bxE hb2 (by rfl), (by first | omega | assumption | (simp_all; done) | (simp_all; omega)), (by exact (TQM.imp hp (fun h9 => by first | assumption | cases h9)).close (by first | exact .inl (by omega) | exact .inr (by assumption)) (by omega) (fun h9 => by first | (cases h9; done) | (rw [ec]; exact of_decide_eq_true h9))), (by intro h9; first | exact hf1 (by assumption) | exact hp.bad (by assumption) hg (by omega) (by omega) (by omega) (by omega) (by rw [ec]; have h99 := of_decide_eq_false h9; omega))⟩, by omega⟩
    try simp only [decide_eq_true_eq, decide_eq_false_iff_not, Bool.not_eq_true', Bool.not_eq_false', Bool.not_eq_eq_eq_not, Bool.not_true, Bool.not_false, Int.not_lt, Int.not_le, Classical.not_not, beq_iff_eq, beq_eq_false_iff_ne] at hc2
    refine HP.takeG rfl rfl rfl rfl rfl rfl hS (fun wS hS1 => PV.move rfl) ?_
    refine HP.takeG rfl rfl rfl rfl rfl rfl hS (fun wS hS1 => PV.move rfl) ?_
    refine HP.takeG rfl rfl rfl rfl rfl rfl hS (fun wS hS1 => PV.add rfl rfl (by constructor <;> omega)) ?_
    refine HP.takeG rfl rfl rfl rfl rfl rfl hS (fun wS hS1 => PV.eql rfl rfl) ?_
    refine HP.take rfl rfl rfl rfl hS (fun wS hS1 => PV.pickT rfl rfl) ?_
    refine HP.take rfl rfl rfl rfl hS (fun wS hS1 => PV.move rfl) ?_
    refine HP.split (t := 37) rfl (fun hc7 => ?_) (fun hc7 => ?_)
    rotate_left
    · skip
      try simp only [decide_eq_true_eq, decide_eq_false_iff_not, Bool.not_eq_true', Bool.not_eq_false', Bool.not_eq_eq_eq_not, Bool.not_true, Bool.not_false, Int.not_lt, Int.not_le, Classical.not_not, beq_iff_eq, beq_eq_false_iff_ne] at hc7
      refine HP.skip rfl rfl rfl rfl rfl rfl hS ?_
      refine HP.skip rfl rfl rfl rfl rfl rfl hS ?_
      refine HP.skip rfl rfl rfl rfl rfl rfl hS ?_
      refine HP.skip rfl rfl rfl rfl rfl rfl hS ?_
      refine HP.skip rfl rfl rfl rfl rfl rfl hS ?_
      refine HP.skip rfl rfl rfl rfl rfl rfl hS ?_
      refine HP.skip rfl rfl rfl rfl rfl rfl hS ?_
      refine HP.take rfl rfl rfl rfl hS (fun wS hS1 => PV.pickF rfl rfl) ?_
      refine HP.doneS ?_
      refine CW.condF rfl ?_
      refine CW.skipS ?_
      refine CW.seq ?_
      refine CW.seq ?_
      refine CW.reg ?_
      refine WL.pure rfl rfl rfl (PV.move rfl) ?_
      refine WL.pure rfl rfl rfl (PV.add rfl rfl (by constructor <;> omega)) ?_
      refine WL.pure rfl rfl rfl (PV.assign rfl) ?_
      refine WL.nilS ?_
      refine CW.block ?_
      refine CW.loop (σk := [(0, _), (1, _), (3, _), (4, _), (5, _), (9, _), (10, _), (13, _), (14, _), (15, _)]) (fun ρ wz m => ∃ (M : Nat) (ys1 : List Int), ρ = [(11, .int .i64 (M : Nat))] ∧ m = i + L - M ∧ UpdL [(some pc.block)] w4 wz ∧ Bx wz pc (List.map VI (ys1)) ∧ (i + 1 ≤ M ∧ M ≤ i + L) ∧ (TQM (f1 = true) xa2 xs a0 13 8 1248 ys1 L i K M)) (ρ₀ := [(11, _)]) (m₀ := _) ⟨rfl, rfl, rfl, rfl, rfl, rfl, rfl, rfl, rfl, rfl, rfl, trivial⟩ ⟨i + 1, _, rfl, rfl, (UpdL.refl _ _), bxM hb1 (by rfl), (by first | omega | rfl | (simp; done) | assumption | (simp_all; done)), (by first | exact hp0.open_no (fun h9 => by have h91 : (xa2.getD K (0, 0, 0, 0)).2.2.1 < 0 := h9.1; have h92 := h9.2.1; first | omega | exact absurd h9.2.2 (by assumption)) | (rw [← ec, ei]; exact hp0.open_leaf hg (by omega) (by omega) (by omega) (by omega) (by omega) (by omega) (by assumption) (by omega) (by assumption)))⟩ ?_
      rintro _ wl3 _ ⟨M, ys1, rfl, rfl, hU1, hb1, hm, hp⟩
      have hUB := hUB.trans hU1 ⟨hkB_1, trivial⟩
      have hU0 := hU0.trans hU1 ⟨hk0_1, trivial⟩
      have hb2 := hb2.loop hU1 ⟨(Dj.symm hd1_2), trivial⟩
      have hb3 := hb3.loop hU1 ⟨(Dj.symm hd1_3), trivial⟩
      have hb4 := hb4.loop hU1 ⟨(Dj.symm hd1_4), trivial⟩
      have hb5 := hb5.loop hU1 ⟨(Dj.symm hd1_5), trivial⟩
      have hb8 := hb8.loop hU1 ⟨(Dj.symm hd1_8), trivial⟩
      have hk1_1 : OkB [(some pc.block)] w4 (some pc.block) := OkB.mem (by simp)
      have hB := hB.loop hU1 ⟨hl1, trivial⟩
      refine CW.seq ?_
      refine CW.seq ?_
      refine CW.reg ?_
      refine WL.pure rfl rfl rfl (PV.move rfl) ?_
      refine WL.pure rfl rfl rfl (PV.move rfl) ?_
      refine WL.pure rfl rfl rfl (PV.lss rfl rfl) ?_
      refine WL.pure rfl rfl rfl (PV.move rfl) ?_
      refine WL.split (t := 56) rfl (fun hc8 => ?_) (fun hc8 => ?_)
      rotate_left
      · skip
        try simp only [decide_eq_true_eq, decide_eq_false_iff_not, Bool.not_eq_true', Bool.not_eq_false', Bool.not_eq_eq_eq_not, Bool.not_true, Bool.not_false, Int.not_lt, Int.not_le, Classical.not_not, beq_iff_eq, beq_eq_false_iff_ne] at hc8
        refine WL.skip rfl rfl rfl rfl rfl ?_
        refine WL.skip rfl rfl rfl rfl rfl ?_
        refine WL.skip rfl rfl rfl rfl rfl ?_
        refine WL.pure rfl rfl rfl (PV.pickF rfl rfl) ?_
        refine WL.nilS ?_
        refine CW.condF rfl ?_
        refine CW.exit ?_
        refine XQ.then ?_
        refine XQ.then ?_
        refine XQ.here ?_
        refine NQ.then ?_
        refine CW.reg ?_
        have hgl := gram_left hg K (by omega); have hgl1 : 0 ≤ (xa2.getD K (0, 0, 0, 0)).1 := hgl.1; have hgl2 : (xa2.getD K (0, 0, 0, 0)).1 < a0 := hgl.2; have hyn := hp.n; have ei : i * 104 + (i + L) * 8 + (xa2.getD K (0, 0, 0, 0)).1.toNat = (i * 13 + (i + L)) * 8 + (rl xa2 K).1.toNat := (by simp only [rl]; omega); have ec : cl 0 13 8 ys1 i (i + L) (rl xa2 K).1 = ys1.getD (i * 104 + (i + L) * 8 + (xa2.getD K (0, 0, 0, 0)).1.toNat) 0 := congrArg (fun q => ys1.getD q 0) ei.symm; have hcr := hp.range (by omega) hgl; rw [ec] at hcr
        refine WL.pure rfl rfl rfl ((by first | exact PV.load0 T.na4 rfl (by first | exact Cells.up (by assumption) hB | exact Bx.cells (by assumption) | assumption) (Ext.refl _) rfl | exact PV.load1 T.na4 rfl (by first | exact Cells.up (by assumption) hB | exact Bx.cells (by assumption) | assumption) (Ext.refl _) rfl)) ?_
        refine WL.pure rfl rfl rfl (PV.move rfl) ?_
        refine WL.split (t := 92) rfl (fun hc9 => ?_) (fun hc9 => ?_)
        rotate_left
        · skip
          try simp only [decide_eq_true_eq, decide_eq_false_iff_not, Bool.not_eq_true', Bool.not_eq_false', Bool.not_eq_eq_eq_not, Bool.not_true, Bool.not_false, Int.not_lt, Int.not_le, Classical.not_not, beq_iff_eq, beq_eq_false_iff_ne] at hc9
          refine WL.skip rfl rfl rfl rfl rfl ?_
          refine WL.skip rfl rfl rfl rfl rfl ?_
          refine WL.skip rfl rfl rfl rfl rfl ?_
          refine WL.skip rfl rfl rfl rfl rfl ?_
          refine WL.pure rfl rfl rfl (PV.pickF rfl rfl) ?_
          first
            | refine WL.op rfl (OpK.storeB T.sz4 rfl rfl (by first | rfl | exact Osl.oneCell (by assumption) | exact Osn.oneCell (by assumption) | exact Rd.oneCell (by assumption) | exact Rd.oneCell (NL.rd (by assumption)) | assumption) hb2 rfl (fun w11 hXw11 hb2 => ?_))
            | refine WL.op rfl (OpK.storeB0 T.sz4 rfl rfl (by first | rfl | exact Osl.oneCell (by assumption) | exact Osn.oneCell (by assumption) | exact Rd.oneCell (by assumption) | exact Rd.oneCell (NL.rd (by assumption)) | assumption) hb2 (fun w11 hXw11 hb2 => ?_))
          have hB := hB.updL hXw11 hl2
          have hb1 := hb1.updD hXw11 hd1_2
          have hb3 := hb3.updD hXw11 (Dj.symm hd2_3)
          have hb4 := hb4.updD hXw11 (Dj.symm hd2_4)
          have hb5 := hb5.updD hXw11 (Dj.symm hd2_5)
          have hb8 := hb8.updD hXw11 (Dj.symm hd2_8)
          have hUB := hUB.step hXw11 hkB_2
          have hU0 := hU0.step hXw11 hk0_2
          refine WL.nil ?_
          refine NQ.block ?_
          refine NQ.then ?_
          refine CW.reg ?_
          refine WL.pure rfl rfl rfl (PV.add rfl rfl (by constructor <;> omega)) ?_
          refine WL.pure rfl rfl rfl (PV.move rfl) ?_
          refine WL.nil ?_
          refine NQ.next (ρ := [(15, _)]) ⟨rfl, rfl, rfl, rfl, rfl, rfl, rfl, rfl, trivial⟩ ?_
          exact ⟨_, ⟨K + 1, _, _, rfl, rfl, hU0, bxM hb1 (by rfl), bxE hb2 (by rfl), (by first | omega | assumption | (simp_all; done) | (simp_all; omega)), (by exact (TQM.imp hp (fun h9 => by first | assumption | cases h9)).close (by first | exact .inl (by omega) | exact .inr (by assumption)) (by omega) (fun h9 => by first | (cases h9; done) | (rw [ec]; exact of_decide_eq_true h9))), (by intro h9; first | exact hf1 (by assumption) | exact hp.bad (by assumption) hg (by omega) (by omega) (by omega) (by omega) (by rw [ec]; have h99 := of_decide_eq_false h9; omega))⟩, by omega⟩
        try simp only [decide_eq_true_eq, decide_eq_false_iff_not, Bool.not_eq_true', Bool.not_eq_false', Bool.not_eq_eq_eq_not, Bool.not_true, Bool.not_false, Int.not_lt, Int.not_le, Classical.not_not, beq_iff_eq, beq_eq_false_iff_ne] at hc9
        refine WL.pureG rfl rfl rfl rfl rfl (PV.move rfl) ?_
        refine WL.pureG rfl rfl rfl rfl rfl (PV.nilCheck rfl) ?_
        refine WL.pureG rfl rfl rfl rfl rfl (PV.loadArr 0 T.na2 rfl (Bx.cells hb1) (Ext.refl _) (by first | omega | (simp only [List.length_set]; omega))) ?_
        refine WL.pureG rfl rfl rfl rfl rfl (PV.leq rfl rfl) ?_
        refine WL.pure rfl rfl rfl (PV.pickT rfl rfl) ?_
        first
          | refine WL.op rfl (OpK.storeB T.sz4 rfl rfl (by first | rfl | exact Osl.oneCell (by assumption) | exact Osn.oneCell (by assumption) | exact Rd.oneCell (by assumption) | exact Rd.oneCell (NL.rd (by assumption)) | assumption) hb2 rfl (fun w12 hXw12 hb2 => ?_))
          | refine WL.op rfl (OpK.storeB0 T.sz4 rfl rfl (by first | rfl | exact Osl.oneCell (by assumption) | exact Osn.oneCell (by assumption) | exact Rd.oneCell (by assumption) | exact Rd.oneCell (NL.rd (by assumption)) | assumption) hb2 (fun w12 hXw12 hb2 => ?_))
        have hB := hB.updL hXw12 hl2
        have hb1 := hb1.updD hXw12 hd1_2
        have hb3 := hb3.updD hXw12 (Dj.symm hd2_3)
        have hb4 := hb4.updD hXw12 (Dj.symm hd2_4)
        have hb5 := hb5.updD hXw12 (Dj.symm hd2_5)
        have hb8 := hb8.updD hXw12 (Dj.symm hd2_8)
        have hUB := hUB.step hXw12 hkB_2
        have hU0 := hU0.step hXw12 hk0_2
        refine WL.nil ?_
        refine NQ.block ?_
        refine NQ.then ?_
        refine CW.reg ?_
        refine WL.pure rfl rfl rfl (PV.add rfl rfl (by constructor <;> omega)) ?_
        refine WL.pure rfl rfl rfl (PV.move rfl) ?_
        refine WL.nil ?_
        refine NQ.next (ρ := [(15, _)]) ⟨rfl, rfl, rfl, rfl, rfl, rfl, rfl, rfl, trivial⟩ ?_
        exact ⟨_, ⟨K + 1, _, _, rfl, rfl, hU0, bxM hb1 (by rfl), bxE hb2 (by rfl), (by first | omega | assumption | (simp_all; done) | (simp_all; omega)), (by exact (TQM.imp hp (fun h9 => by first | assumption | cases h9)).close (by first | exact .inl (by omega) | exact .inr (by assumption)) (by omega) (fun h9 => by first | (cases h9; done) | (rw [ec]; exact of_decide_eq_true h9))), (by intro h9; first | exact hf1 (by assumption) | exact hp.bad (by assumption) hg (by omega) (by omega) (by omega) (by omega) (by rw [ec]; have h99 := of_decide_eq_false h9; omega))⟩, by omega⟩
      try simp only [decide_eq_true_eq, decide_eq_false_iff_not, Bool.not_eq_true', Bool.not_eq_false', Bool.not_eq_eq_eq_not, Bool.not_true, Bool.not_false, Int.not_lt, Int.not_le, Classical.not_not, beq_iff_eq, beq_eq_false_iff_ne] at hc8
      refine WL.pureG rfl rfl rfl rfl rfl ((by first | exact PV.fieldAddr T.fl100_2 rfl (by first | assumption | exact Bx.cells (by assumption)) | exact PV.fieldAddrP T.fl100_2 rfl rfl)) ?_
      refine WL.pureG rfl rfl rfl rfl rfl ((by first | exact PV.load0 T.na2 rfl (by first | exact Cells.up (by assumption) hB | exact Bx.cells (by assumption) | assumption) (Ext.refl _) rfl | exact PV.load1 T.na2 rfl (by first | exact Cells.up (by assumption) hB | exact Bx.cells (by assumption) | assumption) (Ext.refl _) rfl)) ?_
      refine WL.pureG rfl rfl rfl rfl rfl (PV.geq rfl rfl) ?_
      refine WL.pure rfl rfl rfl (PV.pickT rfl rfl) ?_
      refine WL.nilS ?_
      refine CW.cond rfl (fun hc10 => ?_) (fun hc10 => ?_)
      · skip
        try simp only [decide_eq_true_eq, decide_eq_false_iff_not, Bool.not_eq_true', Bool.not_eq_false', Bool.not_eq_eq_eq_not, Bool.not_true, Bool.not_false, Int.not_lt, Int.not_le, Classical.not_not, beq_iff_eq, beq_eq_false_iff_ne] at hc10
        refine CW.skipS ?_
        refine CW.seq ?_
        refine CW.block ?_
        refine CW.draw T.mixed (by kernel_rfl) (fun _ _ _ _ _ h => h) (fun w8 w9 => Upd none w8 w9) 28 (.take 0 (.take 1 (.take 2 (.take 3 (.take 4 (.take 5 (.take 6 (.take 7 (.take 8 (.take 9 (.take 10 (.take 11 (.take 12 (.take 13 (.take 14 (.take 15 (.take 16 (.take 17 (.take 18 (.take 19 (.take 20 (.take 21 (.take 22 (.take 23 (.take 24 (.take 25 (.take 26 (.take 27 (.must 28 .done))))))))))))))))))))))))))))) (by kernel_rfl) (fun w13 hXd => ?_)
        have hB := hB.trans hXd
        have hb1 := hb1.up hXd
        have hb2 := hb2.up hXd
        have hb3 := hb3.up hXd
        have hb4 := hb4.up hXd
        have hb5 := hb5.up hXd
        have hb8 := hb8.up hXd
        have hUB := hUB.ext hXd
        have hU0 := hU0.ext hXd
        have hU1 := hU1.ext hXd
        have hBr := hB
        have hS : Upd none w13 w13 := Ext.toUpd (Ext.refl _)
        have hgl := gram_left hg K (by omega); have hgl1 : 0 ≤ (xa2.getD K (0, 0, 0, 0)).1 := hgl.1; have hgl2 : (xa2.getD K (0, 0, 0, 0)).1 < a0 := hgl.2; have hyn := hp.n; have ei : i * 104 + (i + L) * 8 + (xa2.getD K (0, 0, 0, 0)).1.toNat = (i * 13 + (i + L)) * 8 + (rl xa2 K).1.toNat := (by simp only [rl]; omega); have ec : cl 0 13 8 ys1 i (i + L) (rl xa2 K).1 = ys1.getD (i * 104 + (i + L) * 8 + (xa2.getD K (0, 0, 0, 0)).1.toNat) 0 := congrArg (fun q => ys1.getD q 0) ei.symm; have hcr := hp.range (by omega) hgl; rw [ec] at hcr; have hgn := gram_node hg (k := K) (by omega) (by assumption); have gn1 : 0 ≤ (xa2.getD K (0, 0, 0, 0)).2.1 ∧ (xa2.getD K (0, 0, 0, 0)).2.1 < a0 := hgn.1; have gn2 : 0 ≤ (xa2.getD K (0, 0, 0, 0)).2.2.1 ∧ (xa2.getD K (0, 0, 0, 0)).2.2.1 < a0 := hgn.2; have hsb := hp.sub hg (by omega) (by omega) (by assumption) (by omega) (by omega); have ea : cl 0 13 8 ys1 i M (rl xa2 K).2.1 = ys1.getD (i * 104 + M * 8 + (xa2.getD K (0, 0, 0, 0)).2.1.toNat) 0 := congrArg (fun q => ys1.getD q 0) (show (i * 13 + M) * 8 + (xa2.getD K (0, 0, 0, 0)).2.1.toNat = _ from (by omega)); have eb : cl 0 13 8 ys1 M (i + L) (rl xa2 K).2.2.1 = ys1.getD (M * 104 + (i + L) * 8 + (xa2.getD K (0, 0, 0, 0)).2.2.1.toNat) 0 := congrArg (fun q => ys1.getD q 0) (show (M * 13 + (i + L)) * 8 + (xa2.getD K (0, 0, 0, 0)).2.2.1.toNat = _ from (by omega)); rw [ea, eb] at hsb; have hmb := mul_bd hsb.1 hsb.2
        refine HP.take rfl rfl rfl rfl hS (fun wS hS1 => PV.move rfl) ?_
        refine HP.take rfl rfl rfl rfl hS (fun wS hS1 => PV.move rfl) ?_
        refine HP.take rfl rfl rfl rfl hS (fun wS hS1 => PV.nilCheck rfl) ?_
        refine HP.take rfl rfl rfl rfl hS (fun wS hS1 => PV.loadArr 0 T.na2 rfl (Bx.cells (Bx.updD hb1 hS1 (Dj.nlR _))) (Ext.refl _) (by first | omega | (simp only [List.length_set]; omega))) ?_
        refine HP.take rfl rfl rfl rfl hS (fun wS hS1 => (by first | exact PV.load0 T.na102 rfl (by first | exact Cells.up (by assumption) (hBr.trans hS1) | exact Bx.cells (Bx.updD (by assumption) hS1 (Dj.nlR _)) | exact Cells.upd (by assumption) hS1 (by simp)) (Ext.refl _) rfl | exact PV.load1 T.na102 rfl (by first | exact Cells.up (by assumption) (hBr.trans hS1) | exact Bx.cells (Bx.updD (by assumption) hS1 (Dj.nlR _)) | exact Cells.upd (by assumption) hS1 (by simp)) (Ext.refl _) rfl)) ?_
        refine HP.take rfl rfl rfl rfl hS (fun wS hS1 => PV.move rfl) ?_
        refine HP.take rfl rfl rfl rfl hS (fun wS hS1 => PV.move rfl) ?_
        refine HP.take rfl rfl rfl rfl hS (fun wS hS1 => (by first | exact PV.fieldAddr T.fl100_1 rfl (by first | assumption | exact Bx.cells (by assumption)) | exact PV.fieldAddrP T.fl100_1 rfl rfl)) ?_
        refine HP.take rfl rfl rfl rfl hS (fun wS hS1 => (by first | exact PV.load0 T.na2 rfl (by first | exact Cells.up (by assumption) (hBr.trans hS1) | exact Bx.cells (Bx.updD (by assumption) hS1 (Dj.nlR _)) | exact Cells.upd (by assumption) hS1 (by simp)) (Ext.refl _) rfl | exact PV.load1 T.na2 rfl (by first | exact Cells.up (by assumption) (hBr.trans hS1) | exact Bx.cells (Bx.updD (by assumption) hS1 (Dj.nlR _)) | exact Cells.upd (by assumption) hS1 (by simp)) (Ext.refl _) rfl)) ?_
        refine HP.take rfl rfl rfl rfl hS (fun wS hS1 => PV.nilCheck rfl) ?_
        refine HP.take rfl rfl rfl rfl hS (fun wS hS1 => (by first | exact PV.ixN T.ar106 rfl hb1.spot rfl (by omega) | exact PV.ixZ T.ar106 rfl hb1.spot rfl (by omega))) ?_
        refine HP.take rfl rfl rfl rfl hS (fun wS hS1 => (by first | exact PV.ixPN T.ar104 rfl rfl (by omega) | exact PV.ixPZ T.ar104 rfl rfl (by omega))) ?_
        refine HP.take rfl rfl rfl rfl hS (fun wS hS1 => (by first | exact PV.ixPN1 T.ar103 rfl rfl (by omega) | exact PV.ixPZ1 T.ar103 rfl rfl (by omega))) ?_
        refine HP.take rfl rfl rfl rfl hS (fun wS hS1 => PV.loadArr 0 T.na2 rfl (Bx.cells (Bx.updD hb1 hS1 (Dj.nlR _))) (Ext.refl _) (by first | omega | (simp only [List.length_set]; omega))) ?_
        refine HP.take rfl rfl rfl rfl hS (fun wS hS1 => (by first | exact PV.load0 T.na102 rfl (by first | exact Cells.up (by assumption) (hBr.trans hS1) | exact Bx.cells (Bx.updD (by assumption) hS1 (Dj.nlR _)) | exact Cells.upd (by assumption) hS1 (by simp)) (Ext.refl _) rfl | exact PV.load1 T.na102 rfl (by first | exact Cells.up (by assumption) (hBr.trans hS1) | exact Bx.cells (Bx.updD (by assumption) hS1 (Dj.nlR _)) | exact Cells.upd (by assumption) hS1 (by simp)) (Ext.refl _) rfl)) ?_
        refine HP.take rfl rfl rfl rfl hS (fun wS hS1 => PV.move rfl) ?_
        refine HP.take rfl rfl rfl rfl hS (fun wS hS1 => PV.move rfl) ?_
        refine HP.take rfl rfl rfl rfl hS (fun wS hS1 => (by first | exact PV.fieldAddr T.fl100_2 rfl (by first | assumption | exact Bx.cells (by assumption)) | exact PV.fieldAddrP T.fl100_2 rfl rfl)) ?_
        refine HP.take rfl rfl rfl rfl hS (fun wS hS1 => (by first | exact PV.load0 T.na2 rfl (by first | exact Cells.up (by assumption) (hBr.trans hS1) | exact Bx.cells (Bx.updD (by assumption) hS1 (Dj.nlR _)) | exact Cells.upd (by assumption) hS1 (by simp)) (Ext.refl _) rfl | exact PV.load1 T.na2 rfl (by first | exact Cells.up (by assumption) (hBr.trans hS1) | exact Bx.cells (Bx.updD (by assumption) hS1 (Dj.nlR _)) | exact Cells.upd (by assumption) hS1 (by simp)) (Ext.refl _) rfl)) ?_
        refine HP.take rfl rfl rfl rfl hS (fun wS hS1 => PV.nilCheck rfl) ?_
        refine HP.take rfl rfl rfl rfl hS (fun wS hS1 => (by first | exact PV.ixN T.ar106 rfl hb1.spot rfl (by omega) | exact PV.ixZ T.ar106 rfl hb1.spot rfl (by omega))) ?_
        refine HP.take rfl rfl rfl rfl hS (fun wS hS1 => (by first | exact PV.ixPN T.ar104 rfl rfl (by omega) | exact PV.ixPZ T.ar104 rfl rfl (by omega))) ?_
        refine HP.take rfl rfl rfl rfl hS (fun wS hS1 => (by first | exact PV.ixPN1 T.ar103 rfl rfl (by omega) | exact PV.ixPZ1 T.ar103 rfl rfl (by omega))) ?_
        refine HP.take rfl rfl rfl rfl hS (fun wS hS1 => PV.loadArr 0 T.na2 rfl (Bx.cells (Bx.updD hb1 hS1 (Dj.nlR _))) (Ext.refl _) (by first | omega | (simp only [List.length_set]; omega))) ?_
        refine HP.take rfl rfl rfl rfl hS (fun wS hS1 => PV.mul rfl rfl (by constructor <;> omega)) ?_
        refine HP.take rfl rfl rfl rfl hS (fun wS hS1 => PV.add rfl rfl (by constructor <;> omega)) ?_
        refine HP.take rfl rfl rfl rfl hS (fun wS hS1 => PV.min2 rfl rfl) ?_
        refine HP.take rfl rfl rfl rfl hS (fun wS hS1 => PV.nilCheck rfl) ?_
        refine HP.last rfl rfl (OpK.storeArr T.sz2 rfl rfl rfl hb1 (by first | omega | (simp only [List.length_set]; omega)) (fun w14 hXw14 hb1 => ?_))
        have hB := hB.updL hXw14 hl1
        have hb2 := hb2.updD hXw14 (Dj.symm hd1_2)
        have hb3 := hb3.updD hXw14 (Dj.symm hd1_3)
        have hb4 := hb4.updD hXw14 (Dj.symm hd1_4)
        have hb5 := hb5.updD hXw14 (Dj.symm hd1_5)
        have hb8 := hb8.updD hXw14 (Dj.symm hd1_8)
        have hUB := hUB.step hXw14 hkB_1
        have hU0 := hU0.step hXw14 hk0_1
        have hU1 := hU1.step hXw14 hk1_1
        refine HP.done ?_
        refine NQ.block ?_
        refine NQ.then ?_
        refine CW.reg ?_
        refine WL.pure rfl rfl rfl (PV.move rfl) ?_
        refine WL.pure rfl rfl rfl (PV.add rfl rfl (by constructor <;> omega)) ?_
        refine WL.pure rfl rfl rfl (PV.assign rfl) ?_
        refine WL.nil ?_
        refine NQ.next (ρ := [(11, _)]) ⟨rfl, rfl, rfl, rfl, rfl, rfl, rfl, rfl, rfl, rfl, rfl, trivial⟩ ?_
        exact ⟨_, ⟨M + 1, _, rfl, rfl, hU1, bxM hb1 (by rfl), (by first | omega | assumption | (simp_all; done) | (simp_all; omega)), (by rw [← ec, ← ea, ← eb, ei]; exact hp.step hg (by omega) (by omega) (by omega) (by omega) (by omega) (by assumption) (by omega) (by omega) (by split <;> omega))⟩, by omega⟩
      try simp only [decide_eq_true_eq, decide_eq_false_iff_not, Bool.not_eq_true', Bool.not_eq_false', Bool.not_eq_eq_eq_not, Bool.not_true, Bool.not_false, Int.not_lt, Int.not_le, Classical.not_not, beq_iff_eq, beq_eq_false_iff_ne] at hc10
      refine CW.exit ?_
      refine XQ.then ?_
      refine XQ.then ?_
      refine XQ.here ?_
      refine NQ.then ?_
      refine CW.reg ?_
      have hgl := gram_left hg K (by omega); have hgl1 : 0 ≤ (xa2.getD K (0, 0, 0, 0)).1 := hgl.1; have hgl2 : (xa2.getD K (0, 0, 0, 0)).1 < a0 := hgl.2; have hyn := hp.n; have ei : i * 104 + (i + L) * 8 + (xa2.getD K (0, 0, 0, 0)).1.toNat = (i * 13 + (i + L)) * 8 + (rl xa2 K).1.toNat := (by simp only [rl]; omega); have ec : cl 0 13 8 ys1 i (i + L) (rl xa2 K).1 = ys1.getD (i * 104 + (i + L) * 8 + (xa2.getD K (0, 0, 0, 0)).1.toNat) 0 := congrArg (fun q => ys1.getD q 0) ei.symm; have hcr := hp.range (by omega) hgl; rw [ec] at hcr
      refine WL.pure rfl rfl rfl ((by first | exact PV.load0 T.na4 rfl (by first | exact Cells.up (by assumption) hB | exact Bx.cells (by assumption) | assumption) (Ext.refl _) rfl | exact PV.load1 T.na4 rfl (by first | exact Cells.up (by assumption) hB | exact Bx.cells (by assumption) | assumption) (Ext.refl _) rfl)) ?_
      refine WL.pure rfl rfl rfl (PV.move rfl) ?_
      refine WL.split (t := 92) rfl (fun hc11 => ?_) (fun hc11 => ?_)
      rotate_left
      · skip
        try simp only [decide_eq_true_eq, decide_eq_false_iff_not, Bool.not_eq_true', Bool.not_eq_false', Bool.not_eq_eq_eq_not, Bool.not_true, Bool.not_false, Int.not_lt, Int.not_le, Classical.not_not, beq_iff_eq, beq_eq_false_iff_ne] at hc11
        refine WL.skip rfl rfl rfl rfl rfl ?_
        refine WL.skip rfl rfl rfl rfl rfl ?_
        refine WL.skip rfl rfl rfl rfl rfl ?_
        refine WL.skip rfl rfl rfl rfl rfl ?_
        refine WL.pure rfl rfl rfl (PV.pickF rfl rfl) ?_
        first
          | refine WL.op rfl (OpK.storeB T.sz4 rfl rfl (by first | rfl | exact Osl.oneCell (by assumption) | exact Osn.oneCell (by assumption) | exact Rd.oneCell (by assumption) | exact Rd.oneCell (NL.rd (by assumption)) | assumption) hb2 rfl (fun w15 hXw15 hb2 => ?_))
          | refine WL.op rfl (OpK.storeB0 T.sz4 rfl rfl (by first | rfl | exact Osl.oneCell (by assumption) | exact Osn.oneCell (by assumption) | exact Rd.oneCell (by assumption) | exact Rd.oneCell (NL.rd (by assumption)) | assumption) hb2 (fun w15 hXw15 hb2 => ?_))
        have hB := hB.updL hXw15 hl2
        have hb1 := hb1.updD hXw15 hd1_2
        have hb3 := hb3.updD hXw15 (Dj.symm hd2_3)
        have hb4 := hb4.updD hXw15 (Dj.symm hd2_4)
        have hb5 := hb5.updD hXw15 (Dj.symm hd2_5)
        have hb8 := hb8.updD hXw15 (Dj.symm hd2_8)
        have hUB := hUB.step hXw15 hkB_2
        have hU0 := hU0.step hXw15 hk0_2
        refine WL.nil ?_
        refine NQ.block ?_
        refine NQ.then ?_
        refine CW.reg ?_
        refine WL.pure rfl rfl rfl (PV.add rfl rfl (by constructor <;> omega)) ?_
        refine WL.pure rfl rfl rfl (PV.move rfl) ?_
        refine WL.nil ?_
        refine NQ.next (ρ := [(15, _)]) ⟨rfl, rfl, rfl, rfl, rfl, rfl, rfl, rfl, trivial⟩ ?_
        exact ⟨_, ⟨K + 1, _, _, rfl, rfl, hU0, bxM hb1 (by rfl), bxE hb2 (by rfl), (by first | omega | assumption | (simp_all; done) | (simp_all; omega)), (by exact (TQM.imp hp (fun h9 => by first | assumption | cases h9)).close (by first | exact .inl (by omega) | exact .inr (by assumption)) (by omega) (fun h9 => by first | (cases h9; done) | (rw [ec]; exact of_decide_eq_true h9))), (by intro h9; first | exact hf1 (by assumption) | exact hp.bad (by assumption) hg (by omega) (by omega) (by omega) (by omega) (by rw [ec]; have h99 := of_decide_eq_false h9; omega))⟩, by omega⟩
      try simp only [decide_eq_true_eq, decide_eq_false_iff_not, Bool.not_eq_true', Bool.not_eq_false', Bool.not_eq_eq_eq_not, Bool.not_true, Bool.not_false, Int.not_lt, Int.not_le, Classical.not_not, beq_iff_eq, beq_eq_false_iff_ne] at hc11
      refine WL.pureG rfl rfl rfl rfl rfl (PV.move rfl) ?_
      refine WL.pureG rfl rfl rfl rfl rfl (PV.nilCheck rfl) ?_
      refine WL.pureG rfl rfl rfl rfl rfl (PV.loadArr 0 T.na2 rfl (Bx.cells hb1) (Ext.refl _) (by first | omega | (simp only [List.length_set]; omega))) ?_
      refine WL.pureG rfl rfl rfl rfl rfl (PV.leq rfl rfl) ?_
      refine WL.pure rfl rfl rfl (PV.pickT rfl rfl) ?_
      first
        | refine WL.op rfl (OpK.storeB T.sz4 rfl rfl (by first | rfl | exact Osl.oneCell (by assumption) | exact Osn.oneCell (by assumption) | exact Rd.oneCell (by assumption) | exact Rd.oneCell (NL.rd (by assumption)) | assumption) hb2 rfl (fun w16 hXw16 hb2 => ?_))
        | refine WL.op rfl (OpK.storeB0 T.sz4 rfl rfl (by first | rfl | exact Osl.oneCell (by assumption) | exact Osn.oneCell (by assumption) | exact Rd.oneCell (by assumption) | exact Rd.oneCell (NL.rd (by assumption)) | assumption) hb2 (fun w16 hXw16 hb2 => ?_))
      have hB := hB.updL hXw16 hl2
      have hb1 := hb1.updD hXw16 hd1_2
      have hb3 := hb3.updD hXw16 (Dj.symm hd2_3)
      have hb4 := hb4.updD hXw16 (Dj.symm hd2_4)
      have hb5 := hb5.updD hXw16 (Dj.symm hd2_5)
      have hb8 := hb8.updD hXw16 (Dj.symm hd2_8)
      have hUB := hUB.step hXw16 hkB_2
      have hU0 := hU0.step hXw16 hk0_2
      refine WL.nil ?_
      refine NQ.block ?_
      refine NQ.then ?_
      refine CW.reg ?_
      refine WL.pure rfl rfl rfl (PV.add rfl rfl (by constructor <;> omega)) ?_
      refine WL.pure rfl rfl rfl (PV.move rfl) ?_
      refine WL.nil ?_
      refine NQ.next (ρ := [(15, _)]) ⟨rfl, rfl, rfl, rfl, rfl, rfl, rfl, rfl, trivial⟩ ?_
      exact ⟨_, ⟨K + 1, _, _, rfl, rfl, hU0, bxM hb1 (by rfl), bxE hb2 (by rfl), (by first | omega | assumption | (simp_all; done) | (simp_all; omega)), (by exact (TQM.imp hp (fun h9 => by first | assumption | cases h9)).close (by first | exact .inl (by omega) | exact .inr (by assumption)) (by omega) (fun h9 => by first | (cases h9; done) | (rw [ec]; exact of_decide_eq_true h9))), (by intro h9; first | exact hf1 (by assumption) | exact hp.bad (by assumption) hg (by omega) (by omega) (by omega) (by omega) (by rw [ec]; have h99 := of_decide_eq_false h9; omega))⟩, by omega⟩
    try simp only [decide_eq_true_eq, decide_eq_false_iff_not, Bool.not_eq_true', Bool.not_eq_false', Bool.not_eq_eq_eq_not, Bool.not_true, Bool.not_false, Int.not_lt, Int.not_le, Classical.not_not, beq_iff_eq, beq_eq_false_iff_ne] at hc7
    refine HP.takeG rfl rfl rfl rfl rfl rfl hS (fun wS hS1 => (by first | exact PV.load0 T.na22 rfl (by first | exact Cells.up (by assumption) (hBr.trans hS1) | exact Bx.cells (Bx.updD (by assumption) hS1 (Dj.nlR _)) | exact Cells.upd (by assumption) hS1 (by simp)) (Ext.refl _) rfl | exact PV.load1 T.na22 rfl (by first | exact Cells.up (by assumption) (hBr.trans hS1) | exact Bx.cells (Bx.updD (by assumption) hS1 (Dj.nlR _)) | exact Cells.upd (by assumption) hS1 (by simp)) (Ext.refl _) rfl)) ?_
    refine HP.takeG rfl rfl rfl rfl rfl rfl hS (fun wS hS1 => PV.move rfl) ?_
    first
      | refine HP.at (x := .tmp 38) (y := .tmp 39) (E := EI) (0) rfl rfl (by assumption) (by first | omega | (simp; omega) | (simp_all; omega)) (fun p2 csp2 hpp2 hcp2 hq => ?_)
      | refine HP.atZ (x := .tmp 38) (y := .tmp 39) (E := EI) (0) rfl rfl (by assumption) (by first | omega | (simp; omega) | (simp_all; omega)) (fun p2 csp2 hpp2 hzp2 hcp2 hq => ?_)
    cases hq
    refine HP.takeG rfl rfl rfl rfl rfl rfl hS (fun wS hS1 => (by first | exact PV.indexAddr hpp2 rfl rfl T.sl22 | exact PV.indexAddr hpp2 rfl (by rw [← hzp2]; rfl) T.sl22)) ?_
    refine HP.takeG rfl rfl rfl rfl rfl rfl hS (fun wS hS1 => (by first | exact PV.load0 T.na2 rfl (by first | exact Cells.up (by assumption) (hBr.trans hS1) | exact Bx.cells (Bx.updD (by assumption) hS1 (Dj.nlR _)) | exact Cells.upd (by assumption) hS1 (by simp)) (Ext.refl _) rfl | exact PV.load1 T.na2 rfl (by first | exact Cells.up (by assumption) (hBr.trans hS1) | exact Bx.cells (Bx.updD (by assumption) hS1 (Dj.nlR _)) | exact Cells.upd (by assumption) hS1 (by simp)) (Ext.refl _) rfl)) ?_
    refine HP.takeG rfl rfl rfl rfl rfl rfl hS (fun wS hS1 => (by first | exact PV.fieldAddr T.fl100_1 rfl (by first | assumption | exact Bx.cells (by assumption)) | exact PV.fieldAddrP T.fl100_1 rfl rfl)) ?_
    refine HP.takeG rfl rfl rfl rfl rfl rfl hS (fun wS hS1 => (by first | exact PV.load0 T.na2 rfl (by first | exact Cells.up (by assumption) (hBr.trans hS1) | exact Bx.cells (Bx.updD (by assumption) hS1 (Dj.nlR _)) | exact Cells.upd (by assumption) hS1 (by simp)) (Ext.refl _) rfl | exact PV.load1 T.na2 rfl (by first | exact Cells.up (by assumption) (hBr.trans hS1) | exact Bx.cells (Bx.updD (by assumption) hS1 (Dj.nlR _)) | exact Cells.upd (by assumption) hS1 (by simp)) (Ext.refl _) rfl)) ?_
    refine HP.takeG rfl rfl rfl rfl rfl rfl hS (fun wS hS1 => PV.eql rfl rfl) ?_
    refine HP.take rfl rfl rfl rfl hS (fun wS hS1 => PV.pickT rfl rfl) ?_
    refine HP.doneS ?_
    refine CW.cond rfl (fun hc12 => ?_) (fun hc12 => ?_)
    · skip
      try simp only [decide_eq_true_eq, decide_eq_false_iff_not, Bool.not_eq_true', Bool.not_eq_false', Bool.not_eq_eq_eq_not, Bool.not_true, Bool.not_false, Int.not_lt, Int.not_le, Classical.not_not, beq_iff_eq, beq_eq_false_iff_ne] at hc12
      refine CW.reg ?_
      have hgl := gram_left hg K (by omega); have hgl1 : 0 ≤ (xa2.getD K (0, 0, 0, 0)).1 := hgl.1; have hgl2 : (xa2.getD K (0, 0, 0, 0)).1 < a0 := hgl.2; have hyn := hp.n; have ei : i * 104 + (i + L) * 8 + (xa2.getD K (0, 0, 0, 0)).1.toNat = (i * 13 + (i + L)) * 8 + (rl xa2 K).1.toNat := (by simp only [rl]; omega); have ec : cl 0 13 8 ys1 i (i + L) (rl xa2 K).1 = ys1.getD (i * 104 + (i + L) * 8 + (xa2.getD K (0, 0, 0, 0)).1.toNat) 0 := congrArg (fun q => ys1.getD q 0) ei.symm; have hcr := hp.range (by omega) hgl; rw [ec] at hcr
      refine WL.pure rfl rfl rfl (PV.move rfl) ?_
      refine WL.pure rfl rfl rfl (PV.nilCheck rfl) ?_
      refine WL.pure rfl rfl rfl (PV.loadArr 0 T.na2 rfl (Bx.cells hb1) (Ext.refl _) (by first | omega | (simp only [List.length_set]; omega))) ?_
      refine WL.pure rfl rfl rfl (PV.add rfl rfl (by constructor <;> omega)) ?_
      refine WL.pure rfl rfl rfl (PV.nilCheck rfl) ?_
      refine WL.op rfl (OpK.storeArr T.sz2 rfl rfl rfl hb1 (by first | omega | (simp only [List.length_set]; omega)) (fun w17 hXw17 hb1 => ?_))
      have hB := hB.updL hXw17 hl1
      have hb2 := hb2.updD hXw17 (Dj.symm hd1_2)
      have hb3 := hb3.updD hXw17 (Dj.symm hd1_3)
      have hb4 := hb4.updD hXw17 (Dj.symm hd1_4)
      have hb5 := hb5.updD hXw17 (Dj.symm hd1_5)
      have hb8 := hb8.updD hXw17 (Dj.symm hd1_8)
      have hUB := hUB.step hXw17 hkB_1
      have hU0 := hU0.step hXw17 hk0_1
      refine WL.nilS ?_
      refine CW.seq ?_
      refine CW.seq ?_
      refine CW.reg ?_
      refine WL.pure rfl rfl rfl (PV.move rfl) ?_
      refine WL.pure rfl rfl rfl (PV.add rfl rfl (by constructor <;> omega)) ?_
      refine WL.pure rfl rfl rfl (PV.assign rfl) ?_
      refine WL.nilS ?_
      refine CW.block ?_
      refine CW.loop (σk := [(0, _), (1, _), (3, _), (4, _), (5, _), (9, _), (10, _), (13, _), (14, _), (15, _)]) (fun ρ wz m => ∃ (M : Nat) (ys1 : List Int), ρ = [(11, .int .i64 (M : Nat))] ∧ m = i + L - M ∧ UpdL [(some pc.block)] w17 wz ∧ Bx wz pc (List.map VI (ys1)) ∧ (i + 1 ≤ M ∧ M ≤ i + L) ∧ (TQM (f1 = true) xa2 xs a0 13 8 1248 ys1 L i K M)) (ρ₀ := [(11, _)]) (m₀ := _) ⟨rfl, rfl, rfl, rfl, rfl, rfl, rfl, rfl, rfl, rfl, rfl, trivial⟩ ⟨i + 1, _, rfl, rfl, (UpdL.refl _ _), bxM hb1 (by rfl), (by first | omega | rfl | (simp; done) | assumption | (simp_all; done)), (by first | exact hp0.open_no (fun h9 => by have h91 : (xa2.getD K (0, 0, 0, 0)).2.2.1 < 0 := h9.1; have h92 := h9.2.1; first | omega | exact absurd h9.2.2 (by assumption)) | (rw [← ec, ei]; exact hp0.open_leaf hg (by omega) (by omega) (by omega) (by omega) (by omega) (by omega) (by assumption) (by omega) (by assumption)))⟩ ?_
      rintro _ wl4 _ ⟨M, ys1, rfl, rfl, hU1, hb1, hm, hp⟩
      have hUB := hUB.trans hU1 ⟨hkB_1, trivial⟩
      have hU0 := hU0.trans hU1 ⟨hk0_1, trivial⟩
      have hb2 := hb2.loop hU1 ⟨(Dj.symm hd1_2), trivial⟩
      have hb3 := hb3.loop hU1 ⟨(Dj.symm hd1_3), trivial⟩
      have hb4 := hb4.loop hU1 ⟨(Dj.symm hd1_4), trivial⟩
      have hb5 := hb5.loop hU1 ⟨(Dj.symm hd1_5), trivial⟩
      have hb8 := hb8.loop hU1 ⟨(Dj.symm hd1_8), trivial⟩
      have hk1_1 : OkB [(some pc.block)] w17 (some pc.block) := OkB.mem (by simp)
      have hB := hB.loop hU1 ⟨hl1, trivial⟩
      refine CW.seq ?_
      refine CW.seq ?_
      refine CW.reg ?_
      refine WL.pure rfl rfl rfl (PV.move rfl) ?_
      refine WL.pure rfl rfl rfl (PV.move rfl) ?_
      refine WL.pure rfl rfl rfl (PV.lss rfl rfl) ?_
      refine WL.pure rfl rfl rfl (PV.move rfl) ?_
      refine WL.split (t := 56) rfl (fun hc13 => ?_) (fun hc13 => ?_)
      rotate_left
      · skip
        try simp only [decide_eq_true_eq, decide_eq_false_iff_not, Bool.not_eq_true', Bool.not_eq_false', Bool.not_eq_eq_eq_not, Bool.not_true, Bool.not_false, Int.not_lt, Int.not_le, Classical.not_not, beq_iff_eq, beq_eq_false_iff_ne] at hc13
        refine WL.skip rfl rfl rfl rfl rfl ?_
        refine WL.skip rfl rfl rfl rfl rfl ?_
        refine WL.skip rfl rfl rfl rfl rfl ?_
        refine WL.pure rfl rfl rfl (PV.pickF rfl rfl) ?_
        refine WL.nilS ?_
        refine CW.condF rfl ?_
        refine CW.exit ?_
        refine XQ.then ?_
        refine XQ.then ?_
        refine XQ.here ?_
        refine NQ.then ?_
        refine CW.reg ?_
        have hgl := gram_left hg K (by omega); have hgl1 : 0 ≤ (xa2.getD K (0, 0, 0, 0)).1 := hgl.1; have hgl2 : (xa2.getD K (0, 0, 0, 0)).1 < a0 := hgl.2; have hyn := hp.n; have ei : i * 104 + (i + L) * 8 + (xa2.getD K (0, 0, 0, 0)).1.toNat = (i * 13 + (i + L)) * 8 + (rl xa2 K).1.toNat := (by simp only [rl]; omega); have ec : cl 0 13 8 ys1 i (i + L) (rl xa2 K).1 = ys1.getD (i * 104 + (i + L) * 8 + (xa2.getD K (0, 0, 0, 0)).1.toNat) 0 := congrArg (fun q => ys1.getD q 0) ei.symm; have hcr := hp.range (by omega) hgl; rw [ec] at hcr
        refine WL.pure rfl rfl rfl ((by first | exact PV.load0 T.na4 rfl (by first | exact Cells.up (by assumption) hB | exact Bx.cells (by assumption) | assumption) (Ext.refl _) rfl | exact PV.load1 T.na4 rfl (by first | exact Cells.up (by assumption) hB | exact Bx.cells (by assumption) | assumption) (Ext.refl _) rfl)) ?_
        refine WL.pure rfl rfl rfl (PV.move rfl) ?_
        refine WL.split (t := 92) rfl (fun hc14 => ?_) (fun hc14 => ?_)
        rotate_left
        · skip
          try simp only [decide_eq_true_eq, decide_eq_false_iff_not, Bool.not_eq_true', Bool.not_eq_false', Bool.not_eq_eq_eq_not, Bool.not_true, Bool.not_false, Int.not_lt, Int.not_le, Classical.not_not, beq_iff_eq, beq_eq_false_iff_ne] at hc14
          refine WL.skip rfl rfl rfl rfl rfl ?_
          refine WL.skip rfl rfl rfl rfl rfl ?_
          refine WL.skip rfl rfl rfl rfl rfl ?_
          refine WL.skip rfl rfl rfl rfl rfl ?_
          refine WL.pure rfl rfl rfl (PV.pickF rfl rfl) ?_
          first
            | refine WL.op rfl (OpK.storeB T.sz4 rfl rfl (by first | rfl | exact Osl.oneCell (by assumption) | exact Osn.oneCell (by assumption) | exact Rd.oneCell (by assumption) | exact Rd.oneCell (NL.rd (by assumption)) | assumption) hb2 rfl (fun w18 hXw18 hb2 => ?_))
            | refine WL.op rfl (OpK.storeB0 T.sz4 rfl rfl (by first | rfl | exact Osl.oneCell (by assumption) | exact Osn.oneCell (by assumption) | exact Rd.oneCell (by assumption) | exact Rd.oneCell (NL.rd (by assumption)) | assumption) hb2 (fun w18 hXw18 hb2 => ?_))
          have hB := hB.updL hXw18 hl2
          have hb1 := hb1.updD hXw18 hd1_2
          have hb3 := hb3.updD hXw18 (Dj.symm hd2_3)
          have hb4 := hb4.updD hXw18 (Dj.symm hd2_4)
          have hb5 := hb5.updD hXw18 (Dj.symm hd2_5)
          have hb8 := hb8.updD hXw18 (Dj.symm hd2_8)
          have hUB := hUB.step hXw18 hkB_2
          have hU0 := hU0.step hXw18 hk0_2
          refine WL.nil ?_
          refine NQ.block ?_
          refine NQ.then ?_
          refine CW.reg ?_
          refine WL.pure rfl rfl rfl (PV.add rfl rfl (by constructor <;> omega)) ?_
          refine WL.pure rfl rfl rfl (PV.move rfl) ?_
          refine WL.nil ?_
          refine NQ.next (ρ := [(15, _)]) ⟨rfl, rfl, rfl, rfl, rfl, rfl, rfl, rfl, trivial⟩ ?_
          exact ⟨_, ⟨K + 1, _, _, rfl, rfl, hU0, bxM hb1 (by rfl), bxE hb2 (by rfl), (by first | omega | assumption | (simp_all; done) | (simp_all; omega)), (by exact (TQM.imp hp (fun h9 => by first | assumption | cases h9)).close (by first | exact .inl (by omega) | exact .inr (by assumption)) (by omega) (fun h9 => by first | (cases h9; done) | (rw [ec]; exact of_decide_eq_true h9))), (by intro h9; first | exact hf1 (by assumption) | exact hp.bad (by assumption) hg (by omega) (by omega) (by omega) (by omega) (by rw [ec]; have h99 := of_decide_eq_false h9; omega))⟩, by omega⟩
        try simp only [decide_eq_true_eq, decide_eq_false_iff_not, Bool.not_eq_true', Bool.not_eq_false', Bool.not_eq_eq_eq_not, Bool.not_true, Bool.not_false, Int.not_lt, Int.not_le, Classical.not_not, beq_iff_eq, beq_eq_false_iff_ne] at hc14
        refine WL.pureG rfl rfl rfl rfl rfl (PV.move rfl) ?_
        refine WL.pureG rfl rfl rfl rfl rfl (PV.nilCheck rfl) ?_
        refine WL.pureG rfl rfl rfl rfl rfl (PV.loadArr 0 T.na2 rfl (Bx.cells hb1) (Ext.refl _) (by first | omega | (simp only [List.length_set]; omega))) ?_
        refine WL.pureG rfl rfl rfl rfl rfl (PV.leq rfl rfl) ?_
        refine WL.pure rfl rfl rfl (PV.pickT rfl rfl) ?_
        first
          | refine WL.op rfl (OpK.storeB T.sz4 rfl rfl (by first | rfl | exact Osl.oneCell (by assumption) | exact Osn.oneCell (by assumption) | exact Rd.oneCell (by assumption) | exact Rd.oneCell (NL.rd (by assumption)) | assumption) hb2 rfl (fun w19 hXw19 hb2 => ?_))
          | refine WL.op rfl (OpK.storeB0 T.sz4 rfl rfl (by first | rfl | exact Osl.oneCell (by assumption) | exact Osn.oneCell (by assumption) | exact Rd.oneCell (by assumption) | exact Rd.oneCell (NL.rd (by assumption)) | assumption) hb2 (fun w19 hXw19 hb2 => ?_))
        have hB := hB.updL hXw19 hl2
        have hb1 := hb1.updD hXw19 hd1_2
        have hb3 := hb3.updD hXw19 (Dj.symm hd2_3)
        have hb4 := hb4.updD hXw19 (Dj.symm hd2_4)
        have hb5 := hb5.updD hXw19 (Dj.symm hd2_5)
        have hb8 := hb8.updD hXw19 (Dj.symm hd2_8)
        have hUB := hUB.step hXw19 hkB_2
        have hU0 := hU0.step hXw19 hk0_2
        refine WL.nil ?_
        refine NQ.block ?_
        refine NQ.then ?_
        refine CW.reg ?_
        refine WL.pure rfl rfl rfl (PV.add rfl rfl (by constructor <;> omega)) ?_
        refine WL.pure rfl rfl rfl (PV.move rfl) ?_
        refine WL.nil ?_
        refine NQ.next (ρ := [(15, _)]) ⟨rfl, rfl, rfl, rfl, rfl, rfl, rfl, rfl, trivial⟩ ?_
        exact ⟨_, ⟨K + 1, _, _, rfl, rfl, hU0, bxM hb1 (by rfl), bxE hb2 (by rfl), (by first | omega | assumption | (simp_all; done) | (simp_all; omega)), (by exact (TQM.imp hp (fun h9 => by first | assumption | cases h9)).close (by first | exact .inl (by omega) | exact .inr (by assumption)) (by omega) (fun h9 => by first | (cases h9; done) | (rw [ec]; exact of_decide_eq_true h9))), (by intro h9; first | exact hf1 (by assumption) | exact hp.bad (by assumption) hg (by omega) (by omega) (by omega) (by omega) (by rw [ec]; have h99 := of_decide_eq_false h9; omega))⟩, by omega⟩
      try simp only [decide_eq_true_eq, decide_eq_false_iff_not, Bool.not_eq_true', Bool.not_eq_false', Bool.not_eq_eq_eq_not, Bool.not_true, Bool.not_false, Int.not_lt, Int.not_le, Classical.not_not, beq_iff_eq, beq_eq_false_iff_ne] at hc13
      refine WL.pureG rfl rfl rfl rfl rfl ((by first | exact PV.fieldAddr T.fl100_2 rfl (by first | assumption | exact Bx.cells (by assumption)) | exact PV.fieldAddrP T.fl100_2 rfl rfl)) ?_
      refine WL.pureG rfl rfl rfl rfl rfl ((by first | exact PV.load0 T.na2 rfl (by first | exact Cells.up (by assumption) hB | exact Bx.cells (by assumption) | assumption) (Ext.refl _) rfl | exact PV.load1 T.na2 rfl (by first | exact Cells.up (by assumption) hB | exact Bx.cells (by assumption) | assumption) (Ext.refl _) rfl)) ?_
      refine WL.pureG rfl rfl rfl rfl rfl (PV.geq rfl rfl) ?_
      refine WL.pure rfl rfl rfl (PV.pickT rfl rfl) ?_
      refine WL.nilS ?_
      refine CW.cond rfl (fun hc15 => ?_) (fun hc15 => ?_)
      · skip
        try simp only [decide_eq_true_eq, decide_eq_false_iff_not, Bool.not_eq_true', Bool.not_eq_false', Bool.not_eq_eq_eq_not, Bool.not_true, Bool.not_false, Int.not_lt, Int.not_le, Classical.not_not, beq_iff_eq, beq_eq_false_iff_ne] at hc15
        refine CW.skipS ?_
        refine CW.seq ?_
        refine CW.block ?_
        refine CW.draw T.mixed (by kernel_rfl) (fun _ _ _ _ _ h => h) (fun w8 w9 => Upd none w8 w9) 28 (.take 0 (.take 1 (.take 2 (.take 3 (.take 4 (.take 5 (.take 6 (.take 7 (.take 8 (.take 9 (.take 10 (.take 11 (.take 12 (.take 13 (.take 14 (.take 15 (.take 16 (.take 17 (.take 18 (.take 19 (.take 20 (.take 21 (.take 22 (.take 23 (.take 24 (.take 25 (.take 26 (.take 27 (.must 28 .done))))))))))))))))))))))))))))) (by kernel_rfl) (fun w20 hXd => ?_)
        have hB := hB.trans hXd
        have hb1 := hb1.up hXd
        have hb2 := hb2.up hXd
        have hb3 := hb3.up hXd
        have hb4 := hb4.up hXd
        have hb5 := hb5.up hXd
        have hb8 := hb8.up hXd
        have hUB := hUB.ext hXd
        have hU0 := hU0.ext hXd
        have hU1 := hU1.ext hXd
        have hBr := hB
        have hS : Upd none w20 w20 := Ext.toUpd (Ext.refl _)
        have hgl := gram_left hg K (by omega); have hgl1 : 0 ≤ (xa2.getD K (0, 0, 0, 0)).1 := hgl.1; have hgl2 : (xa2.getD K (0, 0, 0, 0)).1 < a0 := hgl.2; have hyn := hp.n; have ei : i * 104 + (i + L) * 8 + (xa2.getD K (0, 0, 0, 0)).1.toNat = (i * 13 + (i + L)) * 8 + (rl xa2 K).1.toNat := (by simp only [rl]; omega); have ec : cl 0 13 8 ys1 i (i + L) (rl xa2 K).1 = ys1.getD (i * 104 + (i + L) * 8 + (xa2.getD K (0, 0, 0, 0)).1.toNat) 0 := congrArg (fun q => ys1.getD q 0) ei.symm; have hcr := hp.range (by omega) hgl; rw [ec] at hcr; have hgn := gram_node hg (k := K) (by omega) (by assumption); have gn1 : 0 ≤ (xa2.getD K (0, 0, 0, 0)).2.1 ∧ (xa2.getD K (0, 0, 0, 0)).2.1 < a0 := hgn.1; have gn2 : 0 ≤ (xa2.getD K (0, 0, 0, 0)).2.2.1 ∧ (xa2.getD K (0, 0, 0, 0)).2.2.1 < a0 := hgn.2; have hsb := hp.sub hg (by omega) (by omega) (by assumption) (by omega) (by omega); have ea : cl 0 13 8 ys1 i M (rl xa2 K).2.1 = ys1.getD (i * 104 + M * 8 + (xa2.getD K (0, 0, 0, 0)).2.1.toNat) 0 := congrArg (fun q => ys1.getD q 0) (show (i * 13 + M) * 8 + (xa2.getD K (0, 0, 0, 0)).2.1.toNat = _ from (by omega)); have eb : cl 0 13 8 ys1 M (i + L) (rl xa2 K).2.2.1 = ys1.getD (M * 104 + (i + L) * 8 + (xa2.getD K (0, 0, 0, 0)).2.2.1.toNat) 0 := congrArg (fun q => ys1.getD q 0) (show (M * 13 + (i + L)) * 8 + (xa2.getD K (0, 0, 0, 0)).2.2.1.toNat = _ from (by omega)); rw [ea, eb] at hsb; have hmb := mul_bd hsb.1 hsb.2
        refine HP.take rfl rfl rfl rfl hS (fun wS hS1 => PV.move rfl) ?_
        refine HP.take rfl rfl rfl rfl hS (fun wS hS1 => PV.move rfl) ?_
        refine HP.take rfl rfl rfl rfl hS (fun wS hS1 => PV.nilCheck rfl) ?_
        refine HP.take rfl rfl rfl rfl hS (fun wS hS1 => PV.loadArr 0 T.na2 rfl (Bx.cells (Bx.updD hb1 hS1 (Dj.nlR _))) (Ext.refl _) (by first | omega | (simp only [List.length_set]; omega))) ?_
        refine HP.take rfl rfl rfl rfl hS (fun wS hS1 => (by first | exact PV.load0 T.na102 rfl (by first | exact Cells.up (by assumption) (hBr.trans hS1) | exact Bx.cells (Bx.updD (by assumption) hS1 (Dj.nlR _)) | exact Cells.upd (by assumption) hS1 (by simp)) (Ext.refl _) rfl | exact PV.load1 T.na102 rfl (by first | exact Cells.up (by assumption) (hBr.trans hS1) | exact Bx.cells (Bx.updD (by assumption) hS1 (Dj.nlR _)) | exact Cells.upd (by assumption) hS1 (by simp)) (Ext.refl _) rfl)) ?_
        refine HP.take rfl rfl rfl rfl hS (fun wS hS1 => PV.move rfl) ?_
        refine HP.take rfl rfl rfl rfl hS (fun wS hS1 => PV.move rfl) ?_
        refine HP.take rfl rfl rfl rfl hS (fun wS hS1 => (by first | exact PV.fieldAddr T.fl100_1 rfl (by first | assumption | exact Bx.cells (by assumption)) | exact PV.fieldAddrP T.fl100_1 rfl rfl)) ?_
        refine HP.take rfl rfl rfl rfl hS (fun wS hS1 => (by first | exact PV.load0 T.na2 rfl (by first | exact Cells.up (by assumption) (hBr.trans hS1) | exact Bx.cells (Bx.updD (by assumption) hS1 (Dj.nlR _)) | exact Cells.upd (by assumption) hS1 (by simp)) (Ext.refl _) rfl | exact PV.load1 T.na2 rfl (by first | exact Cells.up (by assumption) (hBr.trans hS1) | exact Bx.cells (Bx.updD (by assumption) hS1 (Dj.nlR _)) | exact Cells.upd (by assumption) hS1 (by simp)) (Ext.refl _) rfl)) ?_
        refine HP.take rfl rfl rfl rfl hS (fun wS hS1 => PV.nilCheck rfl) ?_
        refine HP.take rfl rfl rfl rfl hS (fun wS hS1 => (by first | exact PV.ixN T.ar106 rfl hb1.spot rfl (by omega) | exact PV.ixZ T.ar106 rfl hb1.spot rfl (by omega))) ?_
        refine HP.take rfl rfl rfl rfl hS (fun wS hS1 => (by first | exact PV.ixPN T.ar104 rfl rfl (by omega) | exact PV.ixPZ T.ar104 rfl rfl (by omega))) ?_
        refine HP.take rfl rfl rfl rfl hS (fun wS hS1 => (by first | exact PV.ixPN1 T.ar103 rfl rfl (by omega) | exact PV.ixPZ1 T.ar103 rfl rfl (by omega))) ?_
        refine HP.take rfl rfl rfl rfl hS (fun wS hS1 => PV.loadArr 0 T.na2 rfl (Bx.cells (Bx.updD hb1 hS1 (Dj.nlR _))) (Ext.refl _) (by first | omega | (simp only [List.length_set]; omega))) ?_
        refine HP.take rfl rfl rfl rfl hS (fun wS hS1 => (by first | exact PV.load0 T.na102 rfl (by first | exact Cells.up (by assumption) (hBr.trans hS1) | exact Bx.cells (Bx.updD (by assumption) hS1 (Dj.nlR _)) | exact Cells.upd (by assumption) hS1 (by simp)) (Ext.refl _) rfl | exact PV.load1 T.na102 rfl (by first | exact Cells.up (by assumption) (hBr.trans hS1) | exact Bx.cells (Bx.updD (by assumption) hS1 (Dj.nlR _)) | exact Cells.upd (by assumption) hS1 (by simp)) (Ext.refl _) rfl)) ?_
        refine HP.take rfl rfl rfl rfl hS (fun wS hS1 => PV.move rfl) ?_
        refine HP.take rfl rfl rfl rfl hS (fun wS hS1 => PV.move rfl) ?_
        refine HP.take rfl rfl rfl rfl hS (fun wS hS1 => (by first | exact PV.fieldAddr T.fl100_2 rfl (by first | assumption | exact Bx.cells (by assumption)) | exact PV.fieldAddrP T.fl100_2 rfl rfl)) ?_
        refine HP.take rfl rfl rfl rfl hS (fun wS hS1 => (by first | exact PV.load0 T.na2 rfl (by first | exact Cells.up (by assumption) (hBr.trans hS1) | exact Bx.cells (Bx.updD (by assumption) hS1 (Dj.nlR _)) | exact Cells.upd (by assumption) hS1 (by simp)) (Ext.refl _) rfl | exact PV.load1 T.na2 rfl (by first | exact Cells.up (by assumption) (hBr.trans hS1) | exact Bx.cells (Bx.updD (by assumption) hS1 (Dj.nlR _)) | exact Cells.upd (by assumption) hS1 (by simp)) (Ext.refl _) rfl)) ?_
        refine HP.take rfl rfl rfl rfl hS (fun wS hS1 => PV.nilCheck rfl) ?_
        refine HP.take rfl rfl rfl rfl hS (fun wS hS1 => (by first | exact PV.ixN T.ar106 rfl hb1.spot rfl (by omega) | exact PV.ixZ T.ar106 rfl hb1.spot rfl (by omega))) ?_
        refine HP.take rfl rfl rfl rfl hS (fun wS hS1 => (by first | exact PV.ixPN T.ar104 rfl rfl (by omega) | exact PV.ixPZ T.ar104 rfl rfl (by omega))) ?_
        refine HP.take rfl rfl rfl rfl hS (fun wS hS1 => (by first | exact PV.ixPN1 T.ar103 rfl rfl (by omega) | exact PV.ixPZ1 T.ar103 rfl rfl (by omega))) ?_
        refine HP.take rfl rfl rfl rfl hS (fun wS hS1 => PV.loadArr 0 T.na2 rfl (Bx.cells (Bx.updD hb1 hS1 (Dj.nlR _))) (Ext.refl _) (by first | omega | (simp only [List.length_set]; omega))) ?_
        refine HP.take rfl rfl rfl rfl hS (fun wS hS1 => PV.mul rfl rfl (by constructor <;> omega)) ?_
        refine HP.take rfl rfl rfl rfl hS (fun wS hS1 => PV.add rfl rfl (by constructor <;> omega)) ?_
        refine HP.take rfl rfl rfl rfl hS (fun wS hS1 => PV.min2 rfl rfl) ?_
        refine HP.take rfl rfl rfl rfl hS (fun wS hS1 => PV.nilCheck rfl) ?_
        refine HP.last rfl rfl (OpK.storeArr T.sz2 rfl rfl rfl hb1 (by first | omega | (simp only [List.length_set]; omega)) (fun w21 hXw21 hb1 => ?_))
        have hB := hB.updL hXw21 hl1
        have hb2 := hb2.updD hXw21 (Dj.symm hd1_2)
        have hb3 := hb3.updD hXw21 (Dj.symm hd1_3)
        have hb4 := hb4.updD hXw21 (Dj.symm hd1_4)
        have hb5 := hb5.updD hXw21 (Dj.symm hd1_5)
        have hb8 := hb8.updD hXw21 (Dj.symm hd1_8)
        have hUB := hUB.step hXw21 hkB_1
        have hU0 := hU0.step hXw21 hk0_1
        have hU1 := hU1.step hXw21 hk1_1
        refine HP.done ?_
        refine NQ.block ?_
        refine NQ.then ?_
        refine CW.reg ?_
        refine WL.pure rfl rfl rfl (PV.move rfl) ?_
        refine WL.pure rfl rfl rfl (PV.add rfl rfl (by constructor <;> omega)) ?_
        refine WL.pure rfl rfl rfl (PV.assign rfl) ?_
        refine WL.nil ?_
        refine NQ.next (ρ := [(11, _)]) ⟨rfl, rfl, rfl, rfl, rfl, rfl, rfl, rfl, rfl, rfl, rfl, trivial⟩ ?_
        exact ⟨_, ⟨M + 1, _, rfl, rfl, hU1, bxM hb1 (by rfl), (by first | omega | assumption | (simp_all; done) | (simp_all; omega)), (by rw [← ec, ← ea, ← eb, ei]; exact hp.step hg (by omega) (by omega) (by omega) (by omega) (by omega) (by assumption) (by omega) (by omega) (by split <;> omega))⟩, by omega⟩
      try simp only [decide_eq_true_eq, decide_eq_false_iff_not, Bool.not_eq_true', Bool.not_eq_false', Bool.not_eq_eq_eq_not, Bool.not_true, Bool.not_false, Int.not_lt, Int.not_le, Classical.not_not, beq_iff_eq, beq_eq_false_iff_ne] at hc15
      refine CW.exit ?_
      refine XQ.then ?_
      refine XQ.then ?_
      refine XQ.here ?_
      refine NQ.then ?_
      refine CW.reg ?_
      have hgl := gram_left hg K (by omega); have hgl1 : 0 ≤ (xa2.getD K (0, 0, 0, 0)).1 := hgl.1; have hgl2 : (xa2.getD K (0, 0, 0, 0)).1 < a0 := hgl.2; have hyn := hp.n; have ei : i * 104 + (i + L) * 8 + (xa2.getD K (0, 0, 0, 0)).1.toNat = (i * 13 + (i + L)) * 8 + (rl xa2 K).1.toNat := (by simp only [rl]; omega); have ec : cl 0 13 8 ys1 i (i + L) (rl xa2 K).1 = ys1.getD (i * 104 + (i + L) * 8 + (xa2.getD K (0, 0, 0, 0)).1.toNat) 0 := congrArg (fun q => ys1.getD q 0) ei.symm; have hcr := hp.range (by omega) hgl; rw [ec] at hcr
      refine WL.pure rfl rfl rfl ((by first | exact PV.load0 T.na4 rfl (by first | exact Cells.up (by assumption) hB | exact Bx.cells (by assumption) | assumption) (Ext.refl _) rfl | exact PV.load1 T.na4 rfl (by first | exact Cells.up (by assumption) hB | exact Bx.cells (by assumption) | assumption) (Ext.refl _) rfl)) ?_
      refine WL.pure rfl rfl rfl (PV.move rfl) ?_
      refine WL.split (t := 92) rfl (fun hc16 => ?_) (fun hc16 => ?_)
      rotate_left
      · skip
        try simp only [decide_eq_true_eq, decide_eq_false_iff_not, Bool.not_eq_true', Bool.not_eq_false', Bool.not_eq_eq_eq_not, Bool.not_true, Bool.not_false, Int.not_lt, Int.not_le, Classical.not_not, beq_iff_eq, beq_eq_false_iff_ne] at hc16
        refine WL.skip rfl rfl rfl rfl rfl ?_
        refine WL.skip rfl rfl rfl rfl rfl ?_
        refine WL.skip rfl rfl rfl rfl rfl ?_
        refine WL.skip rfl rfl rfl rfl rfl ?_
        refine WL.pure rfl rfl rfl (PV.pickF rfl rfl) ?_
        first
          | refine WL.op rfl (OpK.storeB T.sz4 rfl rfl (by first | rfl | exact Osl.oneCell (by assumption) | exact Osn.oneCell (by assumption) | exact Rd.oneCell (by assumption) | exact Rd.oneCell (NL.rd (by assumption)) | assumption) hb2 rfl (fun w22 hXw22 hb2 => ?_))
          | refine WL.op rfl (OpK.storeB0 T.sz4 rfl rfl (by first | rfl | exact Osl.oneCell (by assumption) | exact Osn.oneCell (by assumption) | exact Rd.oneCell (by assumption) | exact Rd.oneCell (NL.rd (by assumption)) | assumption) hb2 (fun w22 hXw22 hb2 => ?_))
        have hB := hB.updL hXw22 hl2
        have hb1 := hb1.updD hXw22 hd1_2
        have hb3 := hb3.updD hXw22 (Dj.symm hd2_3)
        have hb4 := hb4.updD hXw22 (Dj.symm hd2_4)
        have hb5 := hb5.updD hXw22 (Dj.symm hd2_5)
        have hb8 := hb8.updD hXw22 (Dj.symm hd2_8)
        have hUB := hUB.step hXw22 hkB_2
        have hU0 := hU0.step hXw22 hk0_2
        refine WL.nil ?_
        refine NQ.block ?_
        refine NQ.then ?_
        refine CW.reg ?_
        refine WL.pure rfl rfl rfl (PV.add rfl rfl (by constructor <;> omega)) ?_
        refine WL.pure rfl rfl rfl (PV.move rfl) ?_
        refine WL.nil ?_
        refine NQ.next (ρ := [(15, _)]) ⟨rfl, rfl, rfl, rfl, rfl, rfl, rfl, rfl, trivial⟩ ?_
        exact ⟨_, ⟨K + 1, _, _, rfl, rfl, hU0, bxM hb1 (by rfl), bxE hb2 (by rfl), (by first | omega | assumption | (simp_all; done) | (simp_all; omega)), (by exact (TQM.imp hp (fun h9 => by first | assumption | cases h9)).close (by first | exact .inl (by omega) | exact .inr (by assumption)) (by omega) (fun h9 => by first | (cases h9; done) | (rw [ec]; exact of_decide_eq_true h9))), (by intro h9; first | exact hf1 (by assumption) | exact hp.bad (by assumption) hg (by omega) (by omega) (by omega) (by omega) (by rw [ec]; have h99 := of_decide_eq_false h9; omega))⟩, by omega⟩
      try simp only [decide_eq_true_eq, decide_eq_false_iff_not, Bool.not_eq_true', Bool.not_eq_false', Bool.not_eq_eq_eq_not, Bool.not_true, Bool.not_false, Int.not_lt, Int.not_le, Classical.not_not, beq_iff_eq, beq_eq_false_iff_ne] at hc16
      refine WL.pureG rfl rfl rfl rfl rfl (PV.move rfl) ?_
      refine WL.pureG rfl rfl rfl rfl rfl (PV.nilCheck rfl) ?_
      refine WL.pureG rfl rfl rfl rfl rfl (PV.loadArr 0 T.na2 rfl (Bx.cells hb1) (Ext.refl _) (by first | omega | (simp only [List.length_set]; omega))) ?_
      refine WL.pureG rfl rfl rfl rfl rfl (PV.leq rfl rfl) ?_
      refine WL.pure rfl rfl rfl (PV.pickT rfl rfl) ?_
      first
        | refine WL.op rfl (OpK.storeB T.sz4 rfl rfl (by first | rfl | exact Osl.oneCell (by assumption) | exact Osn.oneCell (by assumption) | exact Rd.oneCell (by assumption) | exact Rd.oneCell (NL.rd (by assumption)) | assumption) hb2 rfl (fun w23 hXw23 hb2 => ?_))
        | refine WL.op rfl (OpK.storeB0 T.sz4 rfl rfl (by first | rfl | exact Osl.oneCell (by assumption) | exact Osn.oneCell (by assumption) | exact Rd.oneCell (by assumption) | exact Rd.oneCell (NL.rd (by assumption)) | assumption) hb2 (fun w23 hXw23 hb2 => ?_))
      have hB := hB.updL hXw23 hl2
      have hb1 := hb1.updD hXw23 hd1_2
      have hb3 := hb3.updD hXw23 (Dj.symm hd2_3)
      have hb4 := hb4.updD hXw23 (Dj.symm hd2_4)
      have hb5 := hb5.updD hXw23 (Dj.symm hd2_5)
      have hb8 := hb8.updD hXw23 (Dj.symm hd2_8)
      have hUB := hUB.step hXw23 hkB_2
      have hU0 := hU0.step hXw23 hk0_2
      refine WL.nil ?_
      refine NQ.block ?_
      refine NQ.then ?_
      refine CW.reg ?_
      refine WL.pure rfl rfl rfl (PV.add rfl rfl (by constructor <;> omega)) ?_
      refine WL.pure rfl rfl rfl (PV.move rfl) ?_
      refine WL.nil ?_
      refine NQ.next (ρ := [(15, _)]) ⟨rfl, rfl, rfl, rfl, rfl, rfl, rfl, rfl, trivial⟩ ?_
      exact ⟨_, ⟨K + 1, _, _, rfl, rfl, hU0, bxM hb1 (by rfl), bxE hb2 (by rfl), (by first | omega | assumption | (simp_all; done) | (simp_all; omega)), (by exact (TQM.imp hp (fun h9 => by first | assumption | cases h9)).close (by first | exact .inl (by omega) | exact .inr (by assumption)) (by omega) (fun h9 => by first | (cases h9; done) | (rw [ec]; exact of_decide_eq_true h9))), (by intro h9; first | exact hf1 (by assumption) | exact hp.bad (by assumption) hg (by omega) (by omega) (by omega) (by omega) (by rw [ec]; have h99 := of_decide_eq_false h9; omega))⟩, by omega⟩
    try simp only [decide_eq_true_eq, decide_eq_false_iff_not, Bool.not_eq_true', Bool.not_eq_false', Bool.not_eq_eq_eq_not, Bool.not_true, Bool.not_false, Int.not_lt, Int.not_le, Classical.not_not, beq_iff_eq, beq_eq_false_iff_ne] at hc12
    refine CW.skipS ?_
    refine CW.seq ?_
    refine CW.seq ?_
    refine CW.reg ?_
    refine WL.pure rfl rfl rfl (PV.move rfl) ?_
    refine WL.pure rfl rfl rfl (PV.add rfl rfl (by constructor <;> omega)) ?_
    refine WL.pure rfl rfl rfl (PV.assign rfl) ?_
    refine WL.nilS ?_
    refine CW.block ?_
    refine CW.loop (σk := [(0, _), (1, _), (3, _), (4, _), (5, _), (9, _), (10, _), (13, _), (14, _), (15, _)]) (fun ρ wz m => ∃ (M : Nat) (ys1 : List Int), ρ = [(11, .int .i64 (M : Nat))] ∧ m = i + L - M ∧ UpdL [(some pc.block)] w4 wz ∧ Bx wz pc (List.map VI (ys1)) ∧ (i + 1 ≤ M ∧ M ≤ i + L) ∧ (TQM (f1 = true) xa2 xs a0 13 8 1248 ys1 L i K M)) (ρ₀ := [(11, _)]) (m₀ := _) ⟨rfl, rfl, rfl, rfl, rfl, rfl, rfl, rfl, rfl, rfl, rfl, trivial⟩ ⟨i + 1, _, rfl, rfl, (UpdL.refl _ _), bxM hb1 (by rfl), (by first | omega | rfl | (simp; done) | assumption | (simp_all; done)), (by first | exact hp0.open_no (fun h9 => by have h91 : (xa2.getD K (0, 0, 0, 0)).2.2.1 < 0 := h9.1; have h92 := h9.2.1; first | omega | exact absurd h9.2.2 (by assumption)) | (rw [← ec, ei]; exact hp0.open_leaf hg (by omega) (by omega) (by omega) (by omega) (by omega) (by omega) (by assumption) (by omega) (by assumption)))⟩ ?_
    rintro _ wl5 _ ⟨M, ys1, rfl, rfl, hU1, hb1, hm, hp⟩
    have hUB := hUB.trans hU1 ⟨hkB_1, trivial⟩
    have hU0 := hU0.trans hU1 ⟨hk0_1, trivial⟩
    have hb2 := hb2.loop hU1 ⟨(Dj.symm hd1_2), trivial⟩
    have hb3 := hb3.loop hU1 ⟨(Dj.symm hd1_3), trivial⟩
    have hb4 := hb4.loop hU1 ⟨(Dj.symm hd1_4), trivial⟩
    have hb5 := hb5.loop hU1 ⟨(Dj.symm hd1_5), trivial⟩
    have hb8 := hb8.loop hU1 ⟨(Dj.symm hd1_8), trivial⟩
    have hk1_1 : OkB [(some pc.block)] w4 (some pc.block) := OkB.mem (by simp)
    have hB := hB.loop hU1 ⟨hl1, trivial⟩
    refine CW.seq ?_
    refine CW.seq ?_
    refine CW.reg ?_
    refine WL.pure rfl rfl rfl (PV.move rfl) ?_
    refine WL.pure rfl rfl rfl (PV.move rfl) ?_
    refine WL.pure rfl rfl rfl (PV.lss rfl rfl) ?_
    refine WL.pure rfl rfl rfl (PV.move rfl) ?_
    refine WL.split (t := 56) rfl (fun hc17 => ?_) (fun hc17 => ?_)
    rotate_left
    · skip
      try simp only [decide_eq_true_eq, decide_eq_false_iff_not, Bool.not_eq_true', Bool.not_eq_false', Bool.not_eq_eq_eq_not, Bool.not_true, Bool.not_false, Int.not_lt, Int.not_le, Classical.not_not, beq_iff_eq, beq_eq_false_iff_ne] at hc17
      refine WL.skip rfl rfl rfl rfl rfl ?_
      refine WL.skip rfl rfl rfl rfl rfl ?_
      refine WL.skip rfl rfl rfl rfl rfl ?_
      refine WL.pure rfl rfl rfl (PV.pickF rfl rfl) ?_
      refine WL.nilS ?_
      refine CW.condF rfl ?_
      refine CW.exit ?_
      refine XQ.then ?_
      refine XQ.then ?_
      refine XQ.here ?_
      refine NQ.then ?_
      refine CW.reg ?_
      have hgl := gram_left hg K (by omega); have hgl1 : 0 ≤ (xa2.getD K (0, 0, 0, 0)).1 := hgl.1; have hgl2 : (xa2.getD K (0, 0, 0, 0)).1 < a0 := hgl.2; have hyn := hp.n; have ei : i * 104 + (i + L) * 8 + (xa2.getD K (0, 0, 0, 0)).1.toNat = (i * 13 + (i + L)) * 8 + (rl xa2 K).1.toNat := (by simp only [rl]; omega); have ec : cl 0 13 8 ys1 i (i + L) (rl xa2 K).1 = ys1.getD (i * 104 + (i + L) * 8 + (xa2.getD K (0, 0, 0, 0)).1.toNat) 0 := congrArg (fun q => ys1.getD q 0) ei.symm; have hcr := hp.range (by omega) hgl; rw [ec] at hcr
      refine WL.pure rfl rfl rfl ((by first | exact PV.load0 T.na4 rfl (by first | exact Cells.up (by assumption) hB | exact Bx.cells (by assumption) | assumption) (Ext.refl _) rfl | exact PV.load1 T.na4 rfl (by first | exact Cells.up (by assumption) hB | exact Bx.cells (by assumption) | assumption) (Ext.refl _) rfl)) ?_
      refine WL.pure rfl rfl rfl (PV.move rfl) ?_
      refine WL.split (t := 92) rfl (fun hc18 => ?_) (fun hc18 => ?_)
      rotate_left
      · skip
        try simp only [decide_eq_true_eq, decide_eq_false_iff_not, Bool.not_eq_true', Bool.not_eq_false', Bool.not_eq_eq_eq_not, Bool.not_true, Bool.not_false, Int.not_lt, Int.not_le, Classical.not_not, beq_iff_eq, beq_eq_false_iff_ne] at hc18
        refine WL.skip rfl rfl rfl rfl rfl ?_
        refine WL.skip rfl rfl rfl rfl rfl ?_
        refine WL.skip rfl rfl rfl rfl rfl ?_
        refine WL.skip rfl rfl rfl rfl rfl ?_
        refine WL.pure rfl rfl rfl (PV.pickF rfl rfl) ?_
        first
          | refine WL.op rfl (OpK.storeB T.sz4 rfl rfl (by first | rfl | exact Osl.oneCell (by assumption) | exact Osn.oneCell (by assumption) | exact Rd.oneCell (by assumption) | exact Rd.oneCell (NL.rd (by assumption)) | assumption) hb2 rfl (fun w24 hXw24 hb2 => ?_))
          | refine WL.op rfl (OpK.storeB0 T.sz4 rfl rfl (by first | rfl | exact Osl.oneCell (by assumption) | exact Osn.oneCell (by assumption) | exact Rd.oneCell (by assumption) | exact Rd.oneCell (NL.rd (by assumption)) | assumption) hb2 (fun w24 hXw24 hb2 => ?_))
        have hB := hB.updL hXw24 hl2
        have hb1 := hb1.updD hXw24 hd1_2
        have hb3 := hb3.updD hXw24 (Dj.symm hd2_3)
        have hb4 := hb4.updD hXw24 (Dj.symm hd2_4)
        have hb5 := hb5.updD hXw24 (Dj.symm hd2_5)
        have hb8 := hb8.updD hXw24 (Dj.symm hd2_8)
        have hUB := hUB.step hXw24 hkB_2
        have hU0 := hU0.step hXw24 hk0_2
        refine WL.nil ?_
        refine NQ.block ?_
        refine NQ.then ?_
        refine CW.reg ?_
        refine WL.pure rfl rfl rfl (PV.add rfl rfl (by constructor <;> omega)) ?_
        refine WL.pure rfl rfl rfl (PV.move rfl) ?_
        refine WL.nil ?_
        refine NQ.next (ρ := [(15, _)]) ⟨rfl, rfl, rfl, rfl, rfl, rfl, rfl, rfl, trivial⟩ ?_
        exact ⟨_, ⟨K + 1, _, _, rfl, rfl, hU0, bxM hb1 (by rfl), bxE hb2 (by rfl), (by first | omega | assumption | (simp_all; done) | (simp_all; omega)), (by exact (TQM.imp hp (fun h9 => by first | assumption | cases h9)).close (by first | exact .inl (by omega) | exact .inr (by assumption)) (by omega) (fun h9 => by first | (cases h9; done) | (rw [ec]; exact of_decide_eq_true h9))), (by intro h9; first | exact hf1 (by assumption) | exact hp.bad (by assumption) hg (by omega) (by omega) (by omega) (by omega) (by rw [ec]; have h99 := of_decide_eq_false h9; omega))⟩, by omega⟩
      try simp only [decide_eq_true_eq, decide_eq_false_iff_not, Bool.not_eq_true', Bool.not_eq_false', Bool.not_eq_eq_eq_not, Bool.not_true, Bool.not_false, Int.not_lt, Int.not_le, Classical.not_not, beq_iff_eq, beq_eq_false_iff_ne] at hc18
      refine WL.pureG rfl rfl rfl rfl rfl (PV.move rfl) ?_
      refine WL.pureG rfl rfl rfl rfl rfl (PV.nilCheck rfl) ?_
      refine WL.pureG rfl rfl rfl rfl rfl (PV.loadArr 0 T.na2 rfl (Bx.cells hb1) (Ext.refl _) (by first | omega | (simp only [List.length_set]; omega))) ?_
      refine WL.pureG rfl rfl rfl rfl rfl (PV.leq rfl rfl) ?_
      refine WL.pure rfl rfl rfl (PV.pickT rfl rfl) ?_
      first
        | refine WL.op rfl (OpK.storeB T.sz4 rfl rfl (by first | rfl | exact Osl.oneCell (by assumption) | exact Osn.oneCell (by assumption) | exact Rd.oneCell (by assumption) | exact Rd.oneCell (NL.rd (by assumption)) | assumption) hb2 rfl (fun w25 hXw25 hb2 => ?_))
        | refine WL.op rfl (OpK.storeB0 T.sz4 rfl rfl (by first | rfl | exact Osl.oneCell (by assumption) | exact Osn.oneCell (by assumption) | exact Rd.oneCell (by assumption) | exact Rd.oneCell (NL.rd (by assumption)) | assumption) hb2 (fun w25 hXw25 hb2 => ?_))
      have hB := hB.updL hXw25 hl2
      have hb1 := hb1.updD hXw25 hd1_2
      have hb3 := hb3.updD hXw25 (Dj.symm hd2_3)
      have hb4 := hb4.updD hXw25 (Dj.symm hd2_4)
      have hb5 := hb5.updD hXw25 (Dj.symm hd2_5)
      have hb8 := hb8.updD hXw25 (Dj.symm hd2_8)
      have hUB := hUB.step hXw25 hkB_2
      have hU0 := hU0.step hXw25 hk0_2
      refine WL.nil ?_
      refine NQ.block ?_
      refine NQ.then ?_
      refine CW.reg ?_
      refine WL.pure rfl rfl rfl (PV.add rfl rfl (by constructor <;> omega)) ?_
      refine WL.pure rfl rfl rfl (PV.move rfl) ?_
      refine WL.nil ?_
      refine NQ.next (ρ := [(15, _)]) ⟨rfl, rfl, rfl, rfl, rfl, rfl, rfl, rfl, trivial⟩ ?_
      exact ⟨_, ⟨K + 1, _, _, rfl, rfl, hU0, bxM hb1 (by rfl), bxE hb2 (by rfl), (by first | omega | assumption | (simp_all; done) | (simp_all; omega)), (by exact (TQM.imp hp (fun h9 => by first | assumption | cases h9)).close (by first | exact .inl (by omega) | exact .inr (by assumption)) (by omega) (fun h9 => by first | (cases h9; done) | (rw [ec]; exact of_decide_eq_true h9))), (by intro h9; first | exact hf1 (by assumption) | exact hp.bad (by assumption) hg (by omega) (by omega) (by omega) (by omega) (by rw [ec]; have h99 := of_decide_eq_false h9; omega))⟩, by omega⟩
    try simp only [decide_eq_true_eq, decide_eq_false_iff_not, Bool.not_eq_true', Bool.not_eq_false', Bool.not_eq_eq_eq_not, Bool.not_true, Bool.not_false, Int.not_lt, Int.not_le, Classical.not_not, beq_iff_eq, beq_eq_false_iff_ne] at hc17
    refine WL.pureG rfl rfl rfl rfl rfl ((by first | exact PV.fieldAddr T.fl100_2 rfl (by first | assumption | exact Bx.cells (by assumption)) | exact PV.fieldAddrP T.fl100_2 rfl rfl)) ?_
    refine WL.pureG rfl rfl rfl rfl rfl ((by first | exact PV.load0 T.na2 rfl (by first | exact Cells.up (by assumption) hB | exact Bx.cells (by assumption) | assumption) (Ext.refl _) rfl | exact PV.load1 T.na2 rfl (by first | exact Cells.up (by assumption) hB | exact Bx.cells (by assumption) | assumption) (Ext.refl _) rfl)) ?_
    refine WL.pureG rfl rfl rfl rfl rfl (PV.geq rfl rfl) ?_
    refine WL.pure rfl rfl rfl (PV.pickT rfl rfl) ?_
    refine WL.nilS ?_
    refine CW.cond rfl (fun hc19 => ?_) (fun hc19 => ?_)
    · skip
      try simp only [decide_eq_true_eq, decide_eq_false_iff_not, Bool.not_eq_true', Bool.not_eq_false', Bool.not_eq_eq_eq_not, Bool.not_true, Bool.not_false, Int.not_lt, Int.not_le, Classical.not_not, beq_iff_eq, beq_eq_false_iff_ne] at hc19
      refine CW.skipS ?_
      refine CW.seq ?_
      refine CW.block ?_
      refine CW.draw T.mixed (by kernel_rfl) (fun _ _ _ _ _ h => h) (fun w8 w9 => Upd none w8 w9) 28 (.take 0 (.take 1 (.take 2 (.take 3 (.take 4 (.take 5 (.take 6 (.take 7 (.take 8 (.take 9 (.take 10 (.take 11 (.take 12 (.take 13 (.take 14 (.take 15 (.take 16 (.take 17 (.take 18 (.take 19 (.take 20 (.take 21 (.take 22 (.take 23 (.take 24 (.take 25 (.take 26 (.take 27 (.must 28 .done))))))))))))))))))))))))))))) (by kernel_rfl) (fun w26 hXd => ?_)
      have hB := hB.trans hXd
      have hb1 := hb1.up hXd
      have hb2 := hb2.up hXd
      have hb3 := hb3.up hXd
      have hb4 := hb4.up hXd
      have hb5 := hb5.up hXd
      have hb8 := hb8.up hXd
      have hUB := hUB.ext hXd
      have hU0 := hU0.ext hXd
      have hU1 := hU1.ext hXd
      have hBr := hB
      have hS : Upd none w26 w26 := Ext.toUpd (Ext.refl _)
      have hgl := gram_left hg K (by omega); have hgl1 : 0 ≤ (xa2.getD K (0, 0, 0, 0)).1 := hgl.1; have hgl2 : (xa2.getD K (0, 0, 0, 0)).1 < a0 := hgl.2; have hyn := hp.n; have ei : i * 104 + (i + L) * 8 + (xa2.getD K (0, 0, 0, 0)).1.toNat = (i * 13 + (i + L)) * 8 + (rl xa2 K).1.toNat := (by simp only [rl]; omega); have ec : cl 0 13 8 ys1 i (i + L) (rl xa2 K).1 = ys1.getD (i * 104 + (i + L) * 8 + (xa2.getD K (0, 0, 0, 0)).1.toNat) 0 := congrArg (fun q => ys1.getD q 0) ei.symm; have hcr := hp.range (by omega) hgl; rw [ec] at hcr; have hgn := gram_node hg (k := K) (by omega) (by assumption); have gn1 : 0 ≤ (xa2.getD K (0, 0, 0, 0)).2.1 ∧ (xa2.getD K (0, 0, 0, 0)).2.1 < a0 := hgn.1; have gn2 : 0 ≤ (xa2.getD K (0, 0, 0, 0)).2.2.1 ∧ (xa2.getD K (0, 0, 0, 0)).2.2.1 < a0 := hgn.2; have hsb := hp.sub hg (by omega) (by omega) (by assumption) (by omega) (by omega); have ea : cl 0 13 8 ys1 i M (rl xa2 K).2.1 = ys1.getD (i * 104 + M * 8 + (xa2.getD K (0, 0, 0, 0)).2.1.toNat) 0 := congrArg (fun q => ys1.getD q 0) (show (i * 13 + M) * 8 + (xa2.getD K (0, 0, 0, 0)).2.1.toNat = _ from (by omega)); have eb : cl 0 13 8 ys1 M (i + L) (rl xa2 K).2.2.1 = ys1.getD (M * 104 + (i + L) * 8 + (xa2.getD K (0, 0, 0, 0)).2.2.1.toNat) 0 := congrArg (fun q => ys1.getD q 0) (show (M * 13 + (i + L)) * 8 + (xa2.getD K (0, 0, 0, 0)).2.2.1.toNat = _ from (by omega)); rw [ea, eb] at hsb; have hmb := mul_bd hsb.1 hsb.2
      refine HP.take rfl rfl rfl rfl hS (fun wS hS1 => PV.move rfl) ?_
      refine HP.take rfl rfl rfl rfl hS (fun wS hS1 => PV.move rfl) ?_
      refine HP.take rfl rfl rfl rfl hS (fun wS hS1 => PV.nilCheck rfl) ?_
      refine HP.take rfl rfl rfl rfl hS (fun wS hS1 => PV.loadArr 0 T.na2 rfl (Bx.cells (Bx.updD hb1 hS1 (Dj.nlR _))) (Ext.refl _) (by first | omega | (simp only [List.length_set]; omega))) ?_
      refine HP.take rfl rfl rfl rfl hS (fun wS hS1 => (by first | exact PV.load0 T.na102 rfl (by first | exact Cells.up (by assumption) (hBr.trans hS1) | exact Bx.cells (Bx.updD (by assumption) hS1 (Dj.nlR _)) | exact Cells.upd (by assumption) hS1 (by simp)) (Ext.refl _) rfl | exact PV.load1 T.na102 rfl (by first | exact Cells.up (by assumption) (hBr.trans hS1) | exact Bx.cells (Bx.updD (by assumption) hS1 (Dj.nlR _)) | exact Cells.upd (by assumption) hS1 (by simp)) (Ext.refl _) rfl)) ?_
      refine HP.take rfl rfl rfl rfl hS (fun wS hS1 => PV.move rfl) ?_
      refine HP.take rfl rfl rfl rfl hS (fun wS hS1 => PV.move rfl) ?_
      refine HP.take rfl rfl rfl rfl hS (fun wS hS1 => (by first | exact PV.fieldAddr T.fl100_1 rfl (by first | assumption | exact Bx.cells (by assumption)) | exact PV.fieldAddrP T.fl100_1 rfl rfl)) ?_
      refine HP.take rfl rfl rfl rfl hS (fun wS hS1 => (by first | exact PV.load0 T.na2 rfl (by first | exact Cells.up (by assumption) (hBr.trans hS1) | exact Bx.cells (Bx.updD (by assumption) hS1 (Dj.nlR _)) | exact Cells.upd (by assumption) hS1 (by simp)) (Ext.refl _) rfl | exact PV.load1 T.na2 rfl (by first | exact Cells.up (by assumption) (hBr.trans hS1) | exact Bx.cells (Bx.updD (by assumption) hS1 (Dj.nlR _)) | exact Cells.upd (by assumption) hS1 (by simp)) (Ext.refl _) rfl)) ?_
      refine HP.take rfl rfl rfl rfl hS (fun wS hS1 => PV.nilCheck rfl) ?_
      refine HP.take rfl rfl rfl rfl hS (fun wS hS1 => (by first | exact PV.ixN T.ar106 rfl hb1.spot rfl (by omega) | exact PV.ixZ T.ar106 rfl hb1.spot rfl (by omega))) ?_
      refine HP.take rfl rfl rfl rfl hS (fun wS hS1 => (by first | exact PV.ixPN T.ar104 rfl rfl (by omega) | exact PV.ixPZ T.ar104 rfl rfl (by omega))) ?_
      refine HP.take rfl rfl rfl rfl hS (fun wS hS1 => (by first | exact PV.ixPN1 T.ar103 rfl rfl (by omega) | exact PV.ixPZ1 T.ar103 rfl rfl (by omega))) ?_
      refine HP.take rfl rfl rfl rfl hS (fun wS hS1 => PV.loadArr 0 T.na2 rfl (Bx.cells (Bx.updD hb1 hS1 (Dj.nlR _))) (Ext.refl _) (by first | omega | (simp only [List.length_set]; omega))) ?_
      refine HP.take rfl rfl rfl rfl hS (fun wS hS1 => (by first | exact PV.load0 T.na102 rfl (by first | exact Cells.up (by assumption) (hBr.trans hS1) | exact Bx.cells (Bx.updD (by assumption) hS1 (Dj.nlR _)) | exact Cells.upd (by assumption) hS1 (by simp)) (Ext.refl _) rfl | exact PV.load1 T.na102 rfl (by first | exact Cells.up (by assumption) (hBr.trans hS1) | exact Bx.cells (Bx.updD (by assumption) hS1 (Dj.nlR _)) | exact Cells.upd (by assumption) hS1 (by simp)) (Ext.refl _) rfl)) ?_
      refine HP.take rfl rfl rfl rfl hS (fun wS hS1 => PV.move rfl) ?_
      refine HP.take rfl rfl rfl rfl hS (fun wS hS1 => PV.move rfl) ?_
      refine HP.take rfl rfl rfl rfl hS (fun wS hS1 => (by first | exact PV.fieldAddr T.fl100_2 rfl (by first | assumption | exact Bx.cells (by assumption)) | exact PV.fieldAddrP T.fl100_2 rfl rfl)) ?_
      refine HP.take rfl rfl rfl rfl hS (fun wS hS1 => (by first | exact PV.load0 T.na2 rfl (by first | exact Cells.up (by assumption) (hBr.trans hS1) | exact Bx.cells (Bx.updD (by assumption) hS1 (Dj.nlR _)) | exact Cells.upd (by assumption) hS1 (by simp)) (Ext.refl _) rfl | exact PV.load1 T.na2 rfl (by first | exact Cells.up (by assumption) (hBr.trans hS1) | exact Bx.cells (Bx.updD (by assumption) hS1 (Dj.nlR _)) | exact Cells.upd (by assumption) hS1 (by simp)) (Ext.refl _) rfl)) ?_
      refine HP.take rfl rfl rfl rfl hS (fun wS hS1 => PV.nilCheck rfl) ?_
      refine HP.take rfl rfl rfl rfl hS (fun wS hS1 => (by first | exact PV.ixN T.ar106 rfl hb1.spot rfl (by omega) | exact PV.ixZ T.ar106 rfl hb1.spot rfl (by omega))) ?_
      refine HP.take rfl rfl rfl rfl hS (fun wS hS1 => (by first | exact PV.ixPN T.ar104 rfl rfl (by omega) | exact PV.ixPZ T.ar104 rfl rfl (by omega))) ?_
      refine HP.take rfl rfl rfl rfl hS (fun wS hS1 => (by first | exact PV.ixPN1 T.ar103 rfl rfl (by omega) | exact PV.ixPZ1 T.ar103 rfl rfl (by omega))) ?_
      refine HP.take rfl rfl rfl rfl hS (fun wS hS1 => PV.loadArr 0 T.na2 rfl (Bx.cells (Bx.updD hb1 hS1 (Dj.nlR _))) (Ext.refl _) (by first | omega | (simp only [List.length_set]; omega))) ?_
      refine HP.take rfl rfl rfl rfl hS (fun wS hS1 => PV.mul rfl rfl (by constructor <;> omega)) ?_
      refine HP.take rfl rfl rfl rfl hS (fun wS hS1 => PV.add rfl rfl (by constructor <;> omega)) ?_
      refine HP.take rfl rfl rfl rfl hS (fun wS hS1 => PV.min2 rfl rfl) ?_
      refine HP.take rfl rfl rfl rfl hS (fun wS hS1 => PV.nilCheck rfl) ?_
      refine HP.last rfl rfl (OpK.storeArr T.sz2 rfl rfl rfl hb1 (by first | omega | (simp only [List.length_set]; omega)) (fun w27 hXw27 hb1 => ?_))
      have hB := hB.updL hXw27 hl1
      have hb2 := hb2.updD hXw27 (Dj.symm hd1_2)
      have hb3 := hb3.updD hXw27 (Dj.symm hd1_3)
      have hb4 := hb4.updD hXw27 (Dj.symm hd1_4)
      have hb5 := hb5.updD hXw27 (Dj.symm hd1_5)
      have hb8 := hb8.updD hXw27 (Dj.symm hd1_8)
      have hUB := hUB.step hXw27 hkB_1
      have hU0 := hU0.step hXw27 hk0_1
      have hU1 := hU1.step hXw27 hk1_1
      refine HP.done ?_
      refine NQ.block ?_
      refine NQ.then ?_
      refine CW.reg ?_
      refine WL.pure rfl rfl rfl (PV.move rfl) ?_
      refine WL.pure rfl rfl rfl (PV.add rfl rfl (by constructor <;> omega)) ?_
      refine WL.pure rfl rfl rfl (PV.assign rfl) ?_
      refine WL.nil ?_
      refine NQ.next (ρ := [(11, _)]) ⟨rfl, rfl, rfl, rfl, rfl, rfl, rfl, rfl, rfl, rfl, rfl, trivial⟩ ?_
      exact ⟨_, ⟨M + 1, _, rfl, rfl, hU1, bxM hb1 (by rfl), (by first | omega | assumption | (simp_all; done) | (simp_all; omega)), (by rw [← ec, ← ea, ← eb, ei]; exact hp.step hg (by omega) (by omega) (by omega) (by omega) (by omega) (by assumption) (by omega) (by omega) (by split <;> omega))⟩, by omega⟩
    try simp only [decide_eq_true_eq, decide_eq_false_iff_not, Bool.not_eq_true', Bool.not_eq_false', Bool.not_eq_eq_eq_not, Bool.not_true, Bool.not_false, Int.not_lt, Int.not_le, Classical.not_not, beq_iff_eq, beq_eq_false_iff_ne] at hc19
    refine CW.exit ?_
    refine XQ.then ?_
    refine XQ.then ?_
    refine XQ.here ?_
    refine NQ.then ?_
    refine CW.reg ?_
    have hgl := gram_left hg K (by omega); have hgl1 : 0 ≤ (xa2.getD K (0, 0, 0, 0)).1 := hgl.1; have hgl2 : (xa2.getD K (0, 0, 0, 0)).1 < a0 := hgl.2; have hyn := hp.n; have ei : i * 104 + (i + L) * 8 + (xa2.getD K (0, 0, 0, 0)).1.toNat = (i * 13 + (i + L)) * 8 + (rl xa2 K).1.toNat := (by simp only [rl]; omega); have ec : cl 0 13 8 ys1 i (i + L) (rl xa2 K).1 = ys1.getD (i * 104 + (i + L) * 8 + (xa2.getD K (0, 0, 0, 0)).1.toNat) 0 := congrArg (fun q => ys1.getD q 0) ei.symm; have hcr := hp.range (by omega) hgl; rw [ec] at hcr
    refine WL.pure rfl rfl rfl ((by first | exact PV.load0 T.na4 rfl (by first | exact Cells.up (by assumption) hB | exact Bx.cells (by assumption) | assumption) (Ext.refl _) rfl | exact PV.load1 T.na4 rfl (by first | exact Cells.up (by assumption) hB | exact Bx.cells (by assumption) | assumption) (Ext.refl _) rfl)) ?_
    refine WL.pure rfl rfl rfl (PV.move rfl) ?_
    refine WL.split (t := 92) rfl (fun hc20 => ?_) (fun hc20 => ?_)
    rotate_left
    · skip
      try simp only [decide_eq_true_eq, decide_eq_false_iff_not, Bool.not_eq_true', Bool.not_eq_false', Bool.not_eq_eq_eq_not, Bool.not_true, Bool.not_false, Int.not_lt, Int.not_le, Classical.not_not, beq_iff_eq, beq_eq_false_iff_ne] at hc20
      refine WL.skip rfl rfl rfl rfl rfl ?_
      refine WL.skip rfl rfl rfl rfl rfl ?_
      refine WL.skip rfl rfl rfl rfl rfl ?_
      refine WL.skip rfl rfl rfl rfl rfl ?_
      refine WL.pure rfl rfl rfl (PV.pickF rfl rfl) ?_
      first
        | refine WL.op rfl (OpK.storeB T.sz4 rfl rfl (by first | rfl | exact Osl.oneCell (by assumption) | exact Osn.oneCell (by assumption) | exact Rd.oneCell (by assumption) | exact Rd.oneCell (NL.rd (by assumption)) | assumption) hb2 rfl (fun w28 hXw28 hb2 => ?_))
        | refine WL.op rfl (OpK.storeB0 T.sz4 rfl rfl (by first | rfl | exact Osl.oneCell (by assumption) | exact Osn.oneCell (by assumption) | exact Rd.oneCell (by assumption) | exact Rd.oneCell (NL.rd (by assumption)) | assumption) hb2 (fun w28 hXw28 hb2 => ?_))
      have hB := hB.updL hXw28 hl2
      have hb1 := hb1.updD hXw28 hd1_2
      have hb3 := hb3.updD hXw28 (Dj.symm hd2_3)
      have hb4 := hb4.updD hXw28 (Dj.symm hd2_4)
      have hb5 := hb5.updD hXw28 (Dj.symm hd2_5)
      have hb8 := hb8.updD hXw28 (Dj.symm hd2_8)
      have hUB := hUB.step hXw28 hkB_2
      have hU0 := hU0.step hXw28 hk0_2
      refine WL.nil ?_
      refine NQ.block ?_
      refine NQ.then ?_
      refine CW.reg ?_
      refine WL.pure rfl rfl rfl (PV.add rfl rfl (by constructor <;> omega)) ?_
      refine WL.pure rfl rfl rfl (PV.move rfl) ?_
      refine WL.nil ?_
      refine NQ.next (ρ := [(15, _)]) ⟨rfl, rfl, rfl, rfl, rfl, rfl, rfl, rfl, trivial⟩ ?_
      exact ⟨_, ⟨K + 1, _, _, rfl, rfl, hU0, bxM hb1 (by rfl), bxE hb2 (by rfl), (by first | omega | assumption | (simp_all; done) | (simp_all; omega)), (by exact (TQM.imp hp (fun h9 => by first | assumption | cases h9)).close (by first | exact .inl (by omega) | exact .inr (by assumption)) (by omega) (fun h9 => by first | (cases h9; done) | (rw [ec]; exact of_decide_eq_true h9))), (by intro h9; first | exact hf1 (by assumption) | exact hp.bad (by assumption) hg (by omega) (by omega) (by omega) (by omega) (by rw [ec]; have h99 := of_decide_eq_false h9; omega))⟩, by omega⟩
    try simp only [decide_eq_true_eq, decide_eq_false_iff_not, Bool.not_eq_true', Bool.not_eq_false', Bool.not_eq_eq_eq_not, Bool.not_true, Bool.not_false, Int.not_lt, Int.not_le, Classical.not_not, beq_iff_eq, beq_eq_false_iff_ne] at hc20
    refine WL.pureG rfl rfl rfl rfl rfl (PV.move rfl) ?_
    refine WL.pureG rfl rfl rfl rfl rfl (PV.nilCheck rfl) ?_
    refine WL.pureG rfl rfl rfl rfl rfl (PV.loadArr 0 T.na2 rfl (Bx.cells hb1) (Ext.refl _) (by first | omega | (simp only [List.length_set]; omega))) ?_
    refine WL.pureG rfl rfl rfl rfl rfl (PV.leq rfl rfl) ?_
    refine WL.pure rfl rfl rfl (PV.pickT rfl rfl) ?_
    first
      | refine WL.op rfl (OpK.storeB T.sz4 rfl rfl (by first | rfl | exact Osl.oneCell (by assumption) | exact Osn.oneCell (by assumption) | exact Rd.oneCell (by assumption) | exact Rd.oneCell (NL.rd (by assumption)) | assumption) hb2 rfl (fun w29 hXw29 hb2 => ?_))
      | refine WL.op rfl (OpK.storeB0 T.sz4 rfl rfl (by first | rfl | exact Osl.oneCell (by assumption) | exact Osn.oneCell (by assumption) | exact Rd.oneCell (by assumption) | exact Rd.oneCell (NL.rd (by assumption)) | assumption) hb2 (fun w29 hXw29 hb2 => ?_))
    have hB := hB.updL hXw29 hl2
    have hb1 := hb1.updD hXw29 hd1_2
    have hb3 := hb3.updD hXw29 (Dj.symm hd2_3)
    have hb4 := hb4.updD hXw29 (Dj.symm hd2_4)
    have hb5 := hb5.updD hXw29 (Dj.symm hd2_5)
    have hb8 := hb8.updD hXw29 (Dj.symm hd2_8)
    have hUB := hUB.step hXw29 hkB_2
    have hU0 := hU0.step hXw29 hk0_2
    refine WL.nil ?_
    refine NQ.block ?_
    refine NQ.then ?_
    refine CW.reg ?_
    refine WL.pure rfl rfl rfl (PV.add rfl rfl (by constructor <;> omega)) ?_
    refine WL.pure rfl rfl rfl (PV.move rfl) ?_
    refine WL.nil ?_
    refine NQ.next (ρ := [(15, _)]) ⟨rfl, rfl, rfl, rfl, rfl, rfl, rfl, rfl, trivial⟩ ?_
    exact ⟨_, ⟨K + 1, _, _, rfl, rfl, hU0, bxM hb1 (by rfl), bxE hb2 (by rfl), (by first | omega | assumption | (simp_all; done) | (simp_all; omega)), (by exact (TQM.imp hp (fun h9 => by first | assumption | cases h9)).close (by first | exact .inl (by omega) | exact .inr (by assumption)) (by omega) (fun h9 => by first | (cases h9; done) | (rw [ec]; exact of_decide_eq_true h9))), (by intro h9; first | exact hf1 (by assumption) | exact hp.bad (by assumption) hg (by omega) (by omega) (by omega) (by omega) (by rw [ec]; have h99 := of_decide_eq_false h9; omega))⟩, by omega⟩
  try simp only [decide_eq_true_eq, decide_eq_false_iff_not, Bool.not_eq_true', Bool.not_eq_false', Bool.not_eq_eq_eq_not, Bool.not_true, Bool.not_false, Int.not_lt, Int.not_le, Classical.not_not, beq_iff_eq, beq_eq_false_iff_ne] at hc1
  refine CW.exit ?_
  refine XQ.then ?_
  refine XQ.then ?_
  refine XQ.here ?_
  refine NQ.r0 ?_
  refine ⟨hUB, _, _, rfl, ?_, ?_, hb1, hb2⟩
  · skip
    obtain rfl : K = xa2.length := (by omega); exact hp0.fin (by omega) (by omega)
  · skip
    assumption
theorem c_impl_eachPart {w : World} {b : World} {pg pq pw pc pf : Addr} {a0 : Int} {a1 : Int} {va2 : Value} {xa2 : List R4} {vw : Value} {xs ys : List Int} {f : Bool} (hB0 : Ext b w) (htb_pc : Bx w pc (List.map VI (ys))) (htb_pf : Bx w pf [.bool f]) (htl_pc : Lo b (some pc.block)) (htl_pf : Lo b (some pf.block)) (htb_pg : Bx w pg [.int .i64 a0, .int .i64 a1, va2]) (htb_pq : Bx w pq [.pointer (some pc)]) (htb_pw : Bx w pw [vw]) (htd_pg_pc : Dj (some pg.block) (some pc.block)) (htd_pg_pf : Dj (some pg.block) (some pf.block)) (htd_pq_pc : Dj (some pq.block) (some pc.block)) (htd_pq_pf : Dj (some pq.block) (some pf.block)) (htd_pw_pc : Dj (some pw.block) (some pc.block)) (htd_pw_pf : Dj (some pw.block) (some pf.block)) (htm_pc_pf : Dj (some pc.block) (some pf.block)) (ha2 : Rd ER b va2 xa2) (hw : Rd EI b vw xs) (hg : gramV a0 a1 xa2) (h12 : 1 ≤ xs.length ∧ xs.length ≤ 12) (hTb : TDC (f = true) xa2 xs a0 13 8 1248 ys 1 0) (hfn : f = false → ¬ okT xa2 xs a0) : Calls Try.prog 85 #[.int .i64 (xs.length : Nat), .func (.func 86) #[] #[.pointer (some pg), .pointer (some pq), .pointer (some pw), .pointer (some pf)]] w (Ret1 (fun v w' => UpdL [some pc.block, some pf.block] w w' ∧ ∃ (zs : List Int) (f2 : Bool), v = .tuple #[] ∧ (TDC (f2 = true) xa2 xs a0 13 8 1248 zs (xs.length + 1) 0) ∧ (f2 = false → ¬ okT xa2 xs a0) ∧ Bx w' pc (List.map VI (zs)) ∧ Bx w' pf [.bool f2])) := by
  have hB := hB0
  have hla2 := ha2.leI; have hlw := hw.leI; have hg1 := hg.1; have hnn := hTb.n
  refine callsOf (vs := [_, _]) Try.func85 rfl Try.ntmps85 rfl rfl ?_
  have hUB : UpdL [(some pc.block), (some pf.block)] w w := UpdL.refl _ _
  have hb1 := htb_pc
  have hl1 := htl_pc
  have hkB_1 : OkB [(some pc.block), (some pf.block)] w (some pc.block) := OkB.mem (by simp)
  have hgB_1 := OgR.refl w (some pc.block)
  have hb2 := htb_pf
  have hl2 := htl_pf
  have hkB_2 : OkB [(some pc.block), (some pf.block)] w (some pf.block) := OkB.mem (by simp)
  have hgB_2 := OgR.refl w (some pf.block)
  have hd1_2 := htm_pc_pf
  have hb3 := htb_pg
  have hd1_3 := Dj.symm htd_pg_pc
  have hd2_3 := Dj.symm htd_pg_pf
  have hb4 := htb_pq
  have hd1_4 := Dj.symm htd_pq_pc
  have hd2_4 := Dj.symm htd_pq_pf
  have hb5 := htb_pw
  have hd1_5 := Dj.symm htd_pw_pc
  have hd2_5 := Dj.symm htd_pw_pf
  refine CW.seq ?_
  refine CW.reg ?_
  refine WL.pure rfl rfl rfl (PV.assign rfl) ?_
  refine WL.nilS ?_
  refine CW.block ?_
  refine CW.loop (σk := [(0, _), (1, _)]) (fun ρ wz m => ∃ (L : Nat) (ys1 : List Int) (f1 : Bool), ρ = [(4, .int .i64 (L : Nat))] ∧ m = xs.length + 1 - L ∧ UpdL [(some pc.block), (some pf.block)] w wz ∧ Bx wz pc (List.map VI (ys1)) ∧ Bx wz pf [.bool f1] ∧ (1 ≤ L ∧ L ≤ xs.length + 1) ∧ (TDC (f1 = true) xa2 xs a0 13 8 1248 ys1 L 0) ∧ (f1 = false → ¬ okT xa2 xs a0)) (ρ₀ := [(4, _)]) (m₀ := _) ⟨rfl, rfl, rfl, trivial⟩ ⟨1, ys, f, rfl, rfl, (UpdL.refl _ _), bxM hb1 (by rfl), bxE hb2 (by rfl), (by first | omega | rfl | (simp; done) | assumption | (simp_all; done)), (by first | omega | rfl | (simp; done) | assumption | (simp_all; done)), (by first | omega | rfl | (simp; done) | assumption | (simp_all; done))⟩ ?_
  rintro _ wl1 _ ⟨L, ys1, f1, rfl, rfl, hU0, hb1, hb2, hL, ht, hf1⟩
  have hUB := hUB.trans hU0 ⟨hkB_1, hkB_2, trivial⟩
  have hb3 := hb3.loop hU0 ⟨(Dj.symm hd1_3), (Dj.symm hd2_3), trivial⟩
  have hb4 := hb4.loop hU0 ⟨(Dj.symm hd1_4), (Dj.symm hd2_4), trivial⟩
  have hb5 := hb5.loop hU0 ⟨(Dj.symm hd1_5), (Dj.symm hd2_5), trivial⟩
  have hk0_1 : OkB [(some pc.block), (some pf.block)] w (some pc.block) := OkB.mem (by simp)
  have hk0_2 : OkB [(some pc.block), (some pf.block)] w (some pf.block) := OkB.mem (by simp)
  have hB := hB.loop hU0 ⟨hl1, hl2, trivial⟩
  refine CW.seq ?_
  refine CW.seq ?_
  refine CW.reg ?_
  refine WL.pure rfl rfl rfl (PV.move rfl) ?_
  refine WL.pure rfl rfl rfl (PV.move rfl) ?_
  refine WL.pure rfl rfl rfl (PV.leq rfl rfl) ?_
  refine WL.nilS ?_
  refine CW.cond rfl (fun hc1 => ?_) (fun hc1 => ?_)
  · skip
    try simp only [decide_eq_true_eq, decide_eq_false_iff_not, Bool.not_eq_true', Bool.not_eq_false', Bool.not_eq_eq_eq_not, Bool.not_true, Bool.not_false, Int.not_lt, Int.not_le, Classical.not_not, beq_iff_eq, beq_eq_false_iff_ne] at hc1
    refine CW.skipS ?_
    refine CW.seq ?_
    refine CW.block ?_
    refine CW.seq ?_
    refine CW.reg ?_
    refine WL.pure rfl rfl rfl (PV.move rfl) ?_
    refine WL.pure rfl rfl rfl (PV.move rfl) ?_
    refine WL.pure rfl rfl rfl (PV.sub rfl rfl (by constructor <;> omega)) ?_
    refine WL.pure rfl rfl rfl (PV.add rfl rfl (by constructor <;> omega)) ?_
    refine WL.pure rfl rfl rfl (PV.move rfl) ?_
    refine WL.nilS ?_
    refine CW.block ?_
    refine CW.loop (σk := [(0, _), (1, _), (4, _), (14, _)]) (fun ρ wz m => ∃ (I : Nat) (ys2 : List Int) (f3 : Bool), ρ = [(15, .int .i64 (I : Nat))] ∧ m = xs.length + 1 - I ∧ UpdL [(some pc.block), (some pf.block)] wl1 wz ∧ Bx wz pc (List.map VI (ys2)) ∧ Bx wz pf [.bool f3] ∧ (I + L ≤ xs.length + 1) ∧ (TDC (f3 = true) xa2 xs a0 13 8 1248 ys2 L I) ∧ (f3 = false → ¬ okT xa2 xs a0)) (ρ₀ := [(15, _)]) (m₀ := _) ⟨rfl, rfl, rfl, rfl, rfl, trivial⟩ ⟨0, ys1, f1, rfl, rfl, (UpdL.refl _ _), bxM hb1 (by rfl), bxE hb2 (by rfl), (by first | omega | rfl | (simp; done) | assumption | (simp_all; done)), (by first | omega | rfl | (simp; done) | assumption | (simp_all; done)), (by first | omega | rfl | (simp; done) | assumption | (simp_all; done))⟩ ?_
    rintro _ wl2 _ ⟨I, ys2, f3, rfl, rfl, hU1, hb1, hb2, hI, ht2, hf3⟩
    have hUB := hUB.trans hU1 ⟨hkB_1, hkB_2, trivial⟩
    have hU0 := hU0.trans hU1 ⟨hk0_1, hk0_2, trivial⟩
    have hb3 := hb3.loop hU1 ⟨(Dj.symm hd1_3), (Dj.symm hd2_3), trivial⟩
    have hb4 := hb4.loop hU1 ⟨(Dj.symm hd1_4), (Dj.symm hd2_4), trivial⟩
    have hb5 := hb5.loop hU1 ⟨(Dj.symm hd1_5), (Dj.symm hd2_5), trivial⟩
    have hk1_1 : OkB [(some pc.block), (some pf.block)] wl1 (some pc.block) := OkB.mem (by simp)
    have hk1_2 : OkB [(some pc.block), (some pf.block)] wl1 (some pf.block) := OkB.mem (by simp)
    have hB := hB.loop hU1 ⟨hl1, hl2, trivial⟩
    refine CW.seq ?_
    refine CW.reg ?_
    refine WL.pure rfl rfl rfl (PV.lss rfl rfl) ?_
    refine WL.nilS ?_
    refine CW.seq ?_
    refine CW.cond rfl (fun hc2 => ?_) (fun hc2 => ?_)
    · skip
      try simp only [decide_eq_true_eq, decide_eq_false_iff_not, Bool.not_eq_true', Bool.not_eq_false', Bool.not_eq_eq_eq_not, Bool.not_true, Bool.not_false, Int.not_lt, Int.not_le, Classical.not_not, beq_iff_eq, beq_eq_false_iff_ne] at hc2
      refine CW.skipS ?_
      refine CW.seq ?_
      refine CW.block ?_
      refine CW.seq ?_
      refine CW.reg ?_
      refine WL.pure rfl rfl rfl (PV.move rfl) ?_
      refine WL.pure rfl rfl rfl (PV.assign rfl) ?_
      refine WL.nilS ?_
      refine CW.reg ?_
      refine WL.pure rfl rfl rfl (PV.move rfl) ?_
      refine WL.pure rfl rfl rfl (PV.move rfl) ?_
      refine WL.pure rfl rfl rfl (PV.move rfl) ?_
      refine WL.pure rfl rfl rfl (PV.move rfl) ?_
      refine WL.pure rfl rfl rfl (PV.add rfl rfl (by constructor <;> omega)) ?_
      refine WL.op rfl (OpK.callC rfl T.cf86 rfl rfl (c_impl_CountTrees_1 (i := I) (L := L) (ys := ys2) (f := f3) hB (by first | assumption | exact Lo.nl _) (by first | assumption | exact Lo.nl _) (by first | assumption | exact Lo.nl _) (by first | assumption | exact Lo.nl _) (by first | assumption | exact Lo.nl _) (by first | assumption | exact Lo.nl _) (by first | assumption | exact Lo.nl _) (by first | assumption | exact Dj.symm (by assumption)) (by first | assumption | exact Dj.symm (by assumption)) (by first | assumption | exact Dj.symm (by assumption)) (by first | assumption | exact Dj.symm (by assumption)) (by first | assumption | exact Dj.symm (by assumption)) (by first | assumption | exact Dj.symm (by assumption)) (by first | assumption | exact Dj.symm (by assumption)) (by first | assumption | exact Rd.up (by assumption) hB | exact Osl.rd (by assumption) | exact Osn.rdR (by assumption) | exact NL.rd (by assumption)) (by first | assumption | exact Rd.up (by assumption) hB | exact Osl.rd (by assumption) | exact Osn.rdR (by assumption) | exact NL.rd (by assumption)) (by first | assumption | omega | (simp only [marks_len, marksB_len, marksR_len]; omega)) (by first | assumption | omega | (simp only [marks_len, marksB_len, marksR_len]; omega)) (by first | assumption | omega | (simp only [marks_len, marksB_len, marksR_len]; omega)) (by first | assumption | exact fun h9 => by cases h9) (by first | assumption | omega | (simp only [marks_len, marksB_len, marksR_len]; omega))) (fun rv1 w1 hR => ?_))
      obtain ⟨hUC10, zs11, f212, rfl, hm13, hm14, hbn1, hbn2⟩ := hR
      have hUB := hUB.trans hUC10 ⟨hkB_1, hkB_2, trivial⟩
      have hU0 := hU0.trans hUC10 ⟨hk0_1, hk0_2, trivial⟩
      have hU1 := hU1.trans hUC10 ⟨hk1_1, hk1_2, trivial⟩
      have hb3 := hb3.loop hUC10 ⟨(Dj.symm hd1_3), (Dj.symm hd2_3), trivial⟩
      have hb4 := hb4.loop hUC10 ⟨(Dj.symm hd1_4), (Dj.symm hd2_4), trivial⟩
      have hb5 := hb5.loop hUC10 ⟨(Dj.symm hd1_5), (Dj.symm hd2_5), trivial⟩
      have hB := hB.loop hUC10 ⟨hl1, hl2, trivial⟩
      have hb1 := hbn1
      have hb2 := hbn2
      refine WL.nil ?_
      refine NQ.block ?_
      refine NQ.then ?_
      refine CW.reg ?_
      refine WL.pure rfl rfl rfl (PV.add rfl rfl (by constructor <;> omega)) ?_
      refine WL.pure rfl rfl rfl (PV.move rfl) ?_
      refine WL.nil ?_
      refine NQ.next (ρ := [(15, _)]) ⟨rfl, rfl, rfl, rfl, rfl, trivial⟩ ?_
      exact ⟨_, ⟨I + 1, _, _, rfl, rfl, hU1, bxM hb1 (by rfl), bxE hb2 (by rfl), (by first | omega | assumption | (simp_all; done) | (simp_all; omega)), (by assumption), (by assumption)⟩, by omega⟩
    try simp only [decide_eq_true_eq, decide_eq_false_iff_not, Bool.not_eq_true', Bool.not_eq_false', Bool.not_eq_eq_eq_not, Bool.not_true, Bool.not_false, Int.not_lt, Int.not_le, Classical.not_not, beq_iff_eq, beq_eq_false_iff_ne] at hc2
    refine CW.exit ?_
    refine XQ.then ?_
    refine XQ.then ?_
    refine XQ.here ?_
    refine NQ.block ?_
    refine NQ.then ?_
    refine CW.reg ?_
    refine WL.pure rfl rfl rfl (PV.move rfl) ?_
    refine WL.pure rfl rfl rfl (PV.add rfl rfl (by constructor <;> omega)) ?_
    refine WL.pure rfl rfl rfl (PV.assign rfl) ?_
    refine WL.nil ?_
    refine NQ.next (ρ := [(4, _)]) ⟨rfl, rfl, rfl, trivial⟩ ?_
    exact ⟨_, ⟨L + 1, _, _, rfl, rfl, hU0, bxM hb1 (by rfl), bxE hb2 (by rfl), (by first | omega | assumption | (simp_all; done) | (simp_all; omega)), (by exact ht2.next (by omega)), (by assumption)⟩, by omega⟩
  try simp only [decide_eq_true_eq, decide_eq_false_iff_not, Bool.not_eq_true', Bool.not_eq_false', Bool.not_eq_eq_eq_not, Bool.not_true, Bool.not_false, Int.not_lt, Int.not_le, Classical.not_not, beq_iff_eq, beq_eq_false_iff_ne] at hc1
  refine CW.exit ?_
  refine XQ.then ?_
  refine XQ.then ?_
  refine XQ.here ?_
  refine NQ.r0 ?_
  refine ⟨hUB, _, _, rfl, ?_, ?_, hb1, hb2⟩
  · skip
    (obtain rfl : L = xs.length + 1 := (by omega)); exact ht
  · skip
    assumption
theorem c_impl_CountTrees {w : World} {a0 : Int} {a1 : Int} {va2 : Value} {xa2 : List R4} {vw : Value} {xs : List Int} (ha2 : Rd ER w va2 xa2) (hw : Rd EI w vw xs) : Calls Try.prog 41 #[.agg #[.int .i64 a0, .int .i64 a1, va2], vw] w (Ret1 (RQt (.tuple #[.int .i64 (onI (canT a0 a1 xa2 xs) (cnt xa2 xs 0 xs.length 0)), .bool (canT a0 a1 xa2 xs)]) w)) := by
  have hB : Ext w w := Ext.refl w
  have hla2 := ha2.leI; have hlw := hw.leI
  refine callsOf (vs := [_, _]) Try.func41 rfl Try.ntmps41 rfl rfl ?_
  refine CW.seq ?_
  refine CW.reg ?_
  refine WL.op rfl (OpK.box rfl rfl (by first | exact Rd.cells1 (by assumption) | exact Osl.cells1 (by assumption) | exact Osn.cells1 (by assumption) | exact Rd.cells1 (NL.rd (by assumption)) | rfl) (fun b1 w1 hXw1 hb1 hge1 => ?_))
  have hl1 := Lo.new hB hge1
  have hB := hB.trans hXw1
  refine WL.op rfl (OpK.box rfl rfl (by first | exact Rd.cells1 (by assumption) | exact Osl.cells1 (by assumption) | exact Osn.cells1 (by assumption) | exact Rd.cells1 (NL.rd (by assumption)) | rfl) (fun b2 w2 hXw2 hb2 hge2 => ?_))
  have hl2 := Lo.new hB hge2
  have hd1_2 := Dj.new hb1.ltO hge2
  have hB := hB.trans hXw2
  have hb1 := hb1.up hXw2
  refine WL.pure rfl rfl rfl (PV.assign rfl) ?_
  refine WL.pure rfl rfl rfl (PV.assign rfl) ?_
  refine WL.nilS ?_
  refine CW.seq ?_
  refine CW.seq ?_
  refine CW.reg ?_
  refine WL.pure rfl rfl rfl ((by first | exact PV.loadA T.ag56 rfl (by first | exact Cells.up (by assumption) hB | exact Bx.cells (by assumption) | assumption) (Ext.refl _) rfl | exact PV.loadP (ds := [_, _, _]) T.ag56 rfl (by first | exact Cells.up (by assumption) hB | exact Bx.cells (by assumption) | assumption) (Ext.refl _) rfl rfl)) ?_
  refine WL.pure rfl rfl rfl ((by first | exact PV.load0 T.na22 rfl (by first | exact Cells.up (by assumption) hB | exact Bx.cells (by assumption) | assumption) (Ext.refl _) rfl | exact PV.load1 T.na22 rfl (by first | exact Cells.up (by assumption) hB | exact Bx.cells (by assumption) | assumption) (Ext.refl _) rfl)) ?_
  refine WL.op rfl (OpK.callR rfl T.cf84 rfl (c_impl_Grammar_has (by first | assumption | exact Rd.up (by assumption) hB | exact Osl.rd (by assumption) | exact Osn.rdR (by assumption) | exact NL.rd (by assumption)) (by first | assumption | exact Rd.up (by assumption) hB | exact Osl.rd (by assumption) | exact Osn.rdR (by assumption) | exact NL.rd (by assumption))) (fun w3 hXw3 => ?_))
  have hB := hB.trans hXw3
  have hb1 := hb1.up hXw3
  have hb2 := hb2.up hXw3
  refine WL.pure rfl rfl rfl (PV.not rfl) ?_
  refine WL.nilS ?_
  refine CW.cond rfl (fun hc1 => ?_) (fun hc1 => ?_)
  · skip
    try simp only [decide_eq_true_eq, decide_eq_false_iff_not, Bool.not_eq_true', Bool.not_eq_false', Bool.not_eq_eq_eq_not, Bool.not_true, Bool.not_false, Int.not_lt, Int.not_le, Classical.not_not, beq_iff_eq, beq_eq_false_iff_ne] at hc1
    refine CW.seq ?_
    refine CW.reg ?_
    refine WL.pure rfl rfl rfl (PV.assign rfl) ?_
    refine WL.pure rfl rfl rfl (PV.assign rfl) ?_
    refine WL.nilS ?_
    refine CW.ret ?_
    refine RQ.then ?_
    refine RQ.r2 rfl rfl ?_
    refine ⟨?_, hB⟩
    first | exact tE2 (iE (by rw [onI_no (by rw [← canT_n1 (by assumption)]; decide)])) (bE (canT_n1 (by assumption))) | exact tE2 (iE (by rw [onI_no (by rw [← canT_n2 hno]; decide)])) (bE (canT_n2 hno)) | exact tE2 (iE (by rw [onI_yes (canT_y (by assumption) hyo).symm]; exact (congrArg (fun q => List.getD _ q (0 : Int)) (by omega)).trans hval)) (bE (canT_y (by assumption) hyo))
  try simp only [decide_eq_true_eq, decide_eq_false_iff_not, Bool.not_eq_true', Bool.not_eq_false', Bool.not_eq_eq_eq_not, Bool.not_true, Bool.not_false, Int.not_lt, Int.not_le, Classical.not_not, beq_iff_eq, beq_eq_false_iff_ne] at hc1
  refine CW.skipS ?_
  refine CW.seq ?_
  refine CW.reg ?_
  have hcan := canB_y (by assumption : canB a0 a1 xa2 xs = true); have hg := hcan.1; have h12 := hcan.2.1; have hg1 := hg.1; have hT0 := TD.zero (sn := snC (true = true) xa2 xs) (d := 0) (v0 := 0) (wd := xs) (nm := a0) (W := 13) (Nm := 8) (N := 1248) (fun i j a h1 h2 h3 h4 => by omega)
  refine WL.pure rfl rfl rfl (PV.buildArr (f := VI) (x0 := 0) T.az106) ?_
  refine WL.op rfl (OpK.boxArr (f := VI) rfl rfl (fun b3 w4 hXw4 hb3 hge3 => ?_))
  have hl3 := Lo.new hB hge3
  have hd1_3 := Dj.new hb1.ltO hge3
  have hd2_3 := Dj.new hb2.ltO hge3
  have hB := hB.trans hXw4
  have hb1 := hb1.up hXw4
  have hb2 := hb2.up hXw4
  refine WL.op rfl (OpK.alloc rfl T.zv102 rfl (fun b4 w5 hXw5 hb4 hge4 => ?_))
  have hl4 := Lo.new hB hge4
  have hd1_4 := Dj.new hb1.ltO hge4
  have hd2_4 := Dj.new hb2.ltO hge4
  have hd3_4 := Dj.new hb3.ltO hge4
  have hB := hB.trans hXw5
  have hb1 := hb1.up hXw5
  have hb2 := hb2.up hXw5
  have hb3 := hb3.up hXw5
  first
    | refine WL.op rfl (OpK.storeB T.sz102 rfl rfl (by first | rfl | exact Osl.oneCell (by assumption) | exact Osn.oneCell (by assumption) | exact Rd.oneCell (by assumption) | exact Rd.oneCell (NL.rd (by assumption)) | assumption) hb4 rfl (fun w6 hXw6 hb4 => ?_))
    | refine WL.op rfl (OpK.storeB0 T.sz102 rfl rfl (by first | rfl | exact Osl.oneCell (by assumption) | exact Osn.oneCell (by assumption) | exact Rd.oneCell (by assumption) | exact Rd.oneCell (NL.rd (by assumption)) | assumption) hb4 (fun w6 hXw6 hb4 => ?_))
  have hB := hB.updL hXw6 hl4
  have hb1 := hb1.updD hXw6 hd1_4
  have hb2 := hb2.updD hXw6 hd2_4
  have hb3 := hb3.updD hXw6 hd3_4
  refine WL.nilS ?_
  refine CW.seq ?_
  refine CW.reg ?_
  refine WL.op rfl (OpK.alloc rfl T.zv4 rfl (fun b5 w7 hXw7 hb5 hge5 => ?_))
  have hl5 := Lo.new hB hge5
  have hd1_5 := Dj.new hb1.ltO hge5
  have hd2_5 := Dj.new hb2.ltO hge5
  have hd3_5 := Dj.new hb3.ltO hge5
  have hd4_5 := Dj.new hb4.ltO hge5
  have hB := hB.trans hXw7
  have hb1 := hb1.up hXw7
  have hb2 := hb2.up hXw7
  have hb3 := hb3.up hXw7
  have hb4 := hb4.up hXw7
  first
    | refine WL.op rfl (OpK.storeB T.sz4 rfl rfl (by first | rfl | exact Osl.oneCell (by assumption) | exact Osn.oneCell (by assumption) | exact Rd.oneCell (by assumption) | exact Rd.oneCell (NL.rd (by assumption)) | assumption) hb5 rfl (fun w8 hXw8 hb5 => ?_))
    | refine WL.op rfl (OpK.storeB0 T.sz4 rfl rfl (by first | rfl | exact Osl.oneCell (by assumption) | exact Osn.oneCell (by assumption) | exact Rd.oneCell (by assumption) | exact Rd.oneCell (NL.rd (by assumption)) | assumption) hb5 (fun w8 hXw8 hb5 => ?_))
  have hB := hB.updL hXw8 hl5
  have hb1 := hb1.updD hXw8 hd1_5
  have hb2 := hb2.updD hXw8 hd2_5
  have hb3 := hb3.updD hXw8 hd3_5
  have hb4 := hb4.updD hXw8 hd4_5
  refine WL.nilS ?_
  refine CW.seq ?_
  refine CW.reg ?_
  refine WL.pure rfl rfl rfl ((by first | exact PV.load0 T.na22 rfl (by first | exact Cells.up (by assumption) hB | exact Bx.cells (by assumption) | assumption) (Ext.refl _) rfl | exact PV.load1 T.na22 rfl (by first | exact Cells.up (by assumption) hB | exact Bx.cells (by assumption) | assumption) (Ext.refl _) rfl)) ?_
  refine WL.pure rfl rfl rfl ((by first | exact PV.len rfl (by assumption) T.sl22 | exact PV.lenOs rfl (by assumption) T.sl22 | exact PV.len rfl (NL.rd (by assumption)) T.sl22)) ?_
  refine WL.pure rfl rfl rfl (PV.makeFunc (fs := []) (cs := [.tmp 2, .tmp 6, .tmp 3, .tmp 7]) rfl rfl) ?_
  refine WL.op rfl (OpK.call rfl T.cf85 rfl (c_impl_eachPart hB (by first | assumption | exact Lo.nl _) (by first | assumption | exact Lo.nl _) (by first | assumption | exact Lo.nl _) (by first | assumption | exact Lo.nl _) (by first | assumption | exact Lo.nl _) (by first | assumption | exact Lo.nl _) (by first | assumption | exact Lo.nl _) (by first | assumption | exact Dj.symm (by assumption)) (by first | assumption | exact Dj.symm (by assumption)) (by first | assumption | exact Dj.symm (by assumption)) (by first | assumption | exact Dj.symm (by assumption)) (by first | assumption | exact Dj.symm (by assumption)) (by first | assumption | exact Dj.symm (by assumption)) (by first | assumption | exact Dj.symm (by assumption)) (by first | assumption | exact Rd.up (by assumption) hB | exact Osl.rd (by assumption) | exact Osn.rdR (by assumption) | exact NL.rd (by assumption)) (by first | assumption | exact Rd.up (by assumption) hB | exact Osl.rd (by assumption) | exact Osn.rdR (by assumption) | exact NL.rd (by assumption)) (by first | assumption | omega | (simp only [marks_len, marksB_len, marksR_len]; omega)) (by first | assumption | omega | (simp only [marks_len, marksB_len, marksR_len]; omega)) (by first | assumption | omega | (simp only [marks_len, marksB_len, marksR_len]; omega)) (by first | assumption | exact fun h9 => by cases h9)) (fun rv1 w9 hR => ?_))
  obtain ⟨hUC6, zs7, f28, rfl, hm9, hm10, hbn3, hbn5⟩ := hR
  have hb1 := hb1.loop hUC6 ⟨hd1_3, hd1_5, trivial⟩
  have hb2 := hb2.loop hUC6 ⟨hd2_3, hd2_5, trivial⟩
  have hb4 := hb4.loop hUC6 ⟨(Dj.symm hd3_4), hd4_5, trivial⟩
  have hB := hB.loop hUC6 ⟨hl3, hl5, trivial⟩
  have hb3 := hbn3
  have hb5 := hbn5
  refine WL.nilS ?_
  refine CW.seq ?_
  refine CW.seq ?_
  refine CW.reg ?_
  refine WL.pure rfl rfl rfl ((by first | exact PV.load0 T.na4 rfl (by first | exact Cells.up (by assumption) hB | exact Bx.cells (by assumption) | assumption) (Ext.refl _) rfl | exact PV.load1 T.na4 rfl (by first | exact Cells.up (by assumption) hB | exact Bx.cells (by assumption) | assumption) (Ext.refl _) rfl)) ?_
  refine WL.pure rfl rfl rfl (PV.not rfl) ?_
  refine WL.nilS ?_
  refine CW.cond rfl (fun hc2 => ?_) (fun hc2 => ?_)
  · skip
    try simp only [decide_eq_true_eq, decide_eq_false_iff_not, Bool.not_eq_true', Bool.not_eq_false', Bool.not_eq_eq_eq_not, Bool.not_true, Bool.not_false, Int.not_lt, Int.not_le, Classical.not_not, beq_iff_eq, beq_eq_false_iff_ne] at hc2
    have hno := (by assumption : _ = false → ¬ okT xa2 xs a0) (by assumption)
    refine CW.seq ?_
    refine CW.reg ?_
    refine WL.pure rfl rfl rfl (PV.assign rfl) ?_
    refine WL.pure rfl rfl rfl (PV.assign rfl) ?_
    refine WL.nilS ?_
    refine CW.ret ?_
    refine RQ.then ?_
    refine RQ.r2 rfl rfl ?_
    refine ⟨?_, hB⟩
    first | exact tE2 (iE (by rw [onI_no (by rw [← canT_n1 (by assumption)]; decide)])) (bE (canT_n1 (by assumption))) | exact tE2 (iE (by rw [onI_no (by rw [← canT_n2 hno]; decide)])) (bE (canT_n2 hno)) | exact tE2 (iE (by rw [onI_yes (canT_y (by assumption) hyo).symm]; exact (congrArg (fun q => List.getD _ q (0 : Int)) (by omega)).trans hval)) (bE (canT_y (by assumption) hyo))
  try simp only [decide_eq_true_eq, decide_eq_false_iff_not, Bool.not_eq_true', Bool.not_eq_false', Bool.not_eq_eq_eq_not, Bool.not_true, Bool.not_false, Int.not_lt, Int.not_le, Classical.not_not, beq_iff_eq, beq_eq_false_iff_ne] at hc2
  have hTC := (by assumption : TD (snC (_ = true) xa2 xs) 0 0 xs a0 13 8 1248 _ (xs.length + 1) 0); have hTn := hTC.n; have hyo := TDC.okT hTC (by assumption); have hval := TDC.val (i := 0) (j := xs.length) (a := 0) hTC (by assumption) (by omega) (by omega) (by omega)
  refine CW.skipS ?_
  refine CW.seq ?_
  refine CW.draw T.mixed (by kernel_rfl) (fun _ _ _ _ _ h => h) (fun w8 w9 => Upd none w8 w9) 10 (.take 0 (.take 1 (.take 2 (.take 3 (.take 4 (.take 5 (.take 6 (.take 7 (.take 8 (.take 9 .done)))))))))) (by kernel_rfl) (fun w10 hXd => ?_)
  have hB := hB.trans hXd
  have hb1 := hb1.up hXd
  have hb2 := hb2.up hXd
  have hb3 := hb3.up hXd
  have hb4 := hb4.up hXd
  have hb5 := hb5.up hXd
  have hBr := hB
  have hS : Upd none w10 w10 := Ext.toUpd (Ext.refl _)
  refine HP.take rfl rfl rfl rfl hS (fun wS hS1 => (by first | exact PV.load0 T.na102 rfl (by first | exact Cells.up (by assumption) (hBr.trans hS1) | exact Bx.cells (Bx.updD (by assumption) hS1 (Dj.nlR _)) | exact Cells.upd (by assumption) hS1 (by simp)) (Ext.refl _) rfl | exact PV.load1 T.na102 rfl (by first | exact Cells.up (by assumption) (hBr.trans hS1) | exact Bx.cells (Bx.updD (by assumption) hS1 (Dj.nlR _)) | exact Cells.upd (by assumption) hS1 (by simp)) (Ext.refl _) rfl)) ?_
  refine HP.take rfl rfl rfl rfl hS (fun wS hS1 => (by first | exact PV.load0 T.na22 rfl (by first | exact Cells.up (by assumption) (hBr.trans hS1) | exact Bx.cells (Bx.updD (by assumption) hS1 (Dj.nlR _)) | exact Cells.upd (by assumption) hS1 (by simp)) (Ext.refl _) rfl | exact PV.load1 T.na22 rfl (by first | exact Cells.up (by assumption) (hBr.trans hS1) | exact Bx.cells (Bx.updD (by assumption) hS1 (Dj.nlR _)) | exact Cells.upd (by assumption) hS1 (by simp)) (Ext.refl _) rfl)) ?_
  refine HP.take rfl rfl rfl rfl hS (fun wS hS1 => (by first | exact PV.len rfl (by assumption) T.sl22 | exact PV.lenOs rfl (by assumption) T.sl22 | exact PV.len rfl (NL.rd (by assumption)) T.sl22)) ?_
  refine HP.take rfl rfl rfl rfl hS (fun wS hS1 => PV.nilCheck rfl) ?_
  refine HP.take rfl rfl rfl rfl hS (fun wS hS1 => PV.ixN (i := 0) T.ar106 rfl hb3.spot rfl (by omega)) ?_
  refine HP.take rfl rfl rfl rfl hS (fun wS hS1 => (by first | exact PV.ixPN T.ar104 rfl rfl (by omega) | exact PV.ixPZ T.ar104 rfl rfl (by omega))) ?_
  refine HP.take rfl rfl rfl rfl hS (fun wS hS1 => PV.ixPN1 (i := 0) T.ar103 rfl rfl (by omega)) ?_
  refine HP.take rfl rfl rfl rfl hS (fun wS hS1 => PV.loadArr 0 T.na2 rfl (Bx.cells (Bx.updD hb3 hS1 (Dj.nlR _))) (Ext.refl _) (by first | omega | (simp only [List.length_set]; omega))) ?_
  refine HP.take rfl rfl rfl rfl hS (fun wS hS1 => PV.assign rfl) ?_
  refine HP.take rfl rfl rfl rfl hS (fun wS hS1 => PV.assign rfl) ?_
  refine HP.doneS ?_
  refine CW.ret ?_
  refine RQ.r2 rfl rfl ?_
  refine ⟨?_, hB⟩
  first | exact tE2 (iE (by rw [onI_no (by rw [← canT_n1 (by assumption)]; decide)])) (bE (canT_n1 (by assumption))) | exact tE2 (iE (by rw [onI_no (by rw [← canT_n2 hno]; decide)])) (bE (canT_n2 hno)) | exact tE2 (iE (by rw [onI_yes (canT_y (by assumption) hyo).symm]; exact (congrArg (fun q => List.getD _ q (0 : Int)) (by omega)).trans hval)) (bE (canT_y (by assumption) hyo))
theorem c_laws_eqRule {w : World} {a0 a1 a2 a3 b0 b1 b2 b3 : Int} : Calls Try.prog 115 #[.agg #[.int .i64 a0, .int .i64 a1, .int .i64 a2, .int .i64 a3], .agg #[.int .i64 b0, .int .i64 b1, .int .i64 b2, .int .i64 b3]] w (Ret1 (RQt (.bool (decide (a0 = b0 ∧ a1 = b1 ∧ a2 = b2 ∧ a3 = b3))) w)) := by
  have hB : Ext w w := Ext.refl w
  refine callsOf (vs := [_, _]) Try.func115 rfl Try.ntmps115 rfl rfl ?_
  refine CW.seq ?_
  refine CW.reg ?_
  refine WL.op rfl (OpK.box rfl rfl (by first | exact Rd.cells1 (by assumption) | exact Osl.cells1 (by assumption) | exact Osn.cells1 (by assumption) | exact Rd.cells1 (NL.rd (by assumption)) | rfl) (fun b1 w1 hXw1 hb1 hge1 => ?_))
  have hl1 := Lo.new hB hge1
  have hB := hB.trans hXw1
  refine WL.op rfl (OpK.box rfl rfl (by first | exact Rd.cells1 (by assumption) | exact Osl.cells1 (by assumption) | exact Osn.cells1 (by assumption) | exact Rd.cells1 (NL.rd (by assumption)) | rfl) (fun b2 w2 hXw2 hb2 hge2 => ?_))
  have hl2 := Lo.new hB hge2
  have hd1_2 := Dj.new hb1.ltO hge2
  have hB := hB.trans hXw2
  have hb1 := hb1.up hXw2
  refine WL.pure rfl rfl rfl (PV.assign rfl) ?_
  refine WL.nilS ?_
  refine CW.seq ?_
  refine CW.seq ?_
  refine CW.reg ?_
  refine WL.pure rfl rfl rfl ((by first | exact PV.fieldAddr T.fl100_0 rfl (by first | assumption | exact Bx.cells (by assumption)) | exact PV.fieldAddrP T.fl100_0 rfl rfl)) ?_
  refine WL.pure rfl rfl rfl ((by first | exact PV.load0 T.na2 rfl (by first | exact Cells.up (by assumption) hB | exact Bx.cells (by assumption) | assumption) (Ext.refl _) rfl | exact PV.load1 T.na2 rfl (by first | exact Cells.up (by assumption) hB | exact Bx.cells (by assumption) | assumption) (Ext.refl _) rfl)) ?_
  refine WL.pure rfl rfl rfl ((by first | exact PV.fieldAddr T.fl100_0 rfl (by first | assumption | exact Bx.cells (by assumption)) | exact PV.fieldAddrP T.fl100_0 rfl rfl)) ?_
  refine WL.pure rfl rfl rfl ((by first | exact PV.load0 T.na2 rfl (by first | exact Cells.up (by assumption) hB | exact Bx.cells (by assumption) | assumption) (Ext.refl _) rfl | exact PV.load1 T.na2 rfl (by first | exact Cells.up (by assumption) hB | exact Bx.cells (by assumption) | assumption) (Ext.refl _) rfl)) ?_
  refine WL.pure rfl rfl rfl (PV.neq rfl rfl) ?_
  refine WL.nilS ?_
  refine CW.cond rfl (fun hc1 => ?_) (fun hc1 => ?_)
  · skip
    try simp only [decide_eq_true_eq, decide_eq_false_iff_not, Bool.not_eq_true', Bool.not_eq_false', Bool.not_eq_eq_eq_not, Bool.not_true, Bool.not_false, Int.not_lt, Int.not_le, Classical.not_not, beq_iff_eq, beq_eq_false_iff_ne] at hc1
    refine CW.seq ?_
    refine CW.reg ?_
    refine WL.pure rfl rfl rfl (PV.assign rfl) ?_
    refine WL.nilS ?_
    refine CW.ret ?_
    refine RQ.then ?_
    refine RQ.r1 rfl ?_
    refine ⟨?_, hB⟩
    first | rfl | exact bT (by omega) | exact bF (by omega) | exact bD (by omega) | exact iE (by omega) | (simp_all; done) | (simp_all; omega) | (simp_all; intros; omega)
  try simp only [decide_eq_true_eq, decide_eq_false_iff_not, Bool.not_eq_true', Bool.not_eq_false', Bool.not_eq_eq_eq_not, Bool.not_true, Bool.not_false, Int.not_lt, Int.not_le, Classical.not_not, beq_iff_eq, beq_eq_false_iff_ne] at hc1
  refine CW.skipS ?_
  refine CW.seq ?_
  refine CW.seq ?_
  refine CW.reg ?_
  refine WL.pure rfl rfl rfl ((by first | exact PV.fieldAddr T.fl100_1 rfl (by first | assumption | exact Bx.cells (by assumption)) | exact PV.fieldAddrP T.fl100_1 rfl rfl)) ?_
  refine WL.pure rfl rfl rfl ((by first | exact PV.load0 T.na2 rfl (by first | exact Cells.up (by assumption) hB | exact Bx.cells (by assumption) | assumption) (Ext.refl _) rfl | exact PV.load1 T.na2 rfl (by first | exact Cells.up (by assumption) hB | exact Bx.cells (by assumption) | assumption) (Ext.refl _) rfl)) ?_
  refine WL.pure rfl rfl rfl ((by first | exact PV.fieldAddr T.fl100_1 rfl (by first | assumption | exact Bx.cells (by assumption)) | exact PV.fieldAddrP T.fl100_1 rfl rfl)) ?_
  refine WL.pure rfl rfl rfl ((by first | exact PV.load0 T.na2 rfl (by first | exact Cells.up (by assumption) hB | exact Bx.cells (by assumption) | assumption) (Ext.refl _) rfl | exact PV.load1 T.na2 rfl (by first | exact Cells.up (by assumption) hB | exact Bx.cells (by assumption) | assumption) (Ext.refl _) rfl)) ?_
  refine WL.pure rfl rfl rfl (PV.neq rfl rfl) ?_
  refine WL.nilS ?_
  refine CW.cond rfl (fun hc2 => ?_) (fun hc2 => ?_)
  · skip
    try simp only [decide_eq_true_eq, decide_eq_false_iff_not, Bool.not_eq_true', Bool.not_eq_false', Bool.not_eq_eq_eq_not, Bool.not_true, Bool.not_false, Int.not_lt, Int.not_le, Classical.not_not, beq_iff_eq, beq_eq_false_iff_ne] at hc2
    refine CW.seq ?_
    refine CW.reg ?_
    refine WL.pure rfl rfl rfl (PV.assign rfl) ?_
    refine WL.nilS ?_
    refine CW.ret ?_
    refine RQ.then ?_
    refine RQ.r1 rfl ?_
    refine ⟨?_, hB⟩
    first | rfl | exact bT (by omega) | exact bF (by omega) | exact bD (by omega) | exact iE (by omega) | (simp_all; done) | (simp_all; omega) | (simp_all; intros; omega)
  try simp only [decide_eq_true_eq, decide_eq_false_iff_not, Bool.not_eq_true', Bool.not_eq_false', Bool.not_eq_eq_eq_not, Bool.not_true, Bool.not_false, Int.not_lt, Int.not_le, Classical.not_not, beq_iff_eq, beq_eq_false_iff_ne] at hc2
  refine CW.skipS ?_
  refine CW.seq ?_
  refine CW.seq ?_
  refine CW.reg ?_
  refine WL.pure rfl rfl rfl ((by first | exact PV.fieldAddr T.fl100_2 rfl (by first | assumption | exact Bx.cells (by assumption)) | exact PV.fieldAddrP T.fl100_2 rfl rfl)) ?_
  refine WL.pure rfl rfl rfl ((by first | exact PV.load0 T.na2 rfl (by first | exact Cells.up (by assumption) hB | exact Bx.cells (by assumption) | assumption) (Ext.refl _) rfl | exact PV.load1 T.na2 rfl (by first | exact Cells.up (by assumption) hB | exact Bx.cells (by assumption) | assumption) (Ext.refl _) rfl)) ?_
  refine WL.pure rfl rfl rfl ((by first | exact PV.fieldAddr T.fl100_2 rfl (by first | assumption | exact Bx.cells (by assumption)) | exact PV.fieldAddrP T.fl100_2 rfl rfl)) ?_
  refine WL.pure rfl rfl rfl ((by first | exact PV.load0 T.na2 rfl (by first | exact Cells.up (by assumption) hB | exact Bx.cells (by assumption) | assumption) (Ext.refl _) rfl | exact PV.load1 T.na2 rfl (by first | exact Cells.up (by assumption) hB | exact Bx.cells (by assumption) | assumption) (Ext.refl _) rfl)) ?_
  refine WL.pure rfl rfl rfl (PV.neq rfl rfl) ?_
  refine WL.nilS ?_
  refine CW.cond rfl (fun hc3 => ?_) (fun hc3 => ?_)
  · skip
    try simp only [decide_eq_true_eq, decide_eq_false_iff_not, Bool.not_eq_true', Bool.not_eq_false', Bool.not_eq_eq_eq_not, Bool.not_true, Bool.not_false, Int.not_lt, Int.not_le, Classical.not_not, beq_iff_eq, beq_eq_false_iff_ne] at hc3
    refine CW.seq ?_
    refine CW.reg ?_
    refine WL.pure rfl rfl rfl (PV.assign rfl) ?_
    refine WL.nilS ?_
    refine CW.ret ?_
    refine RQ.then ?_
    refine RQ.r1 rfl ?_
    refine ⟨?_, hB⟩
    first | rfl | exact bT (by omega) | exact bF (by omega) | exact bD (by omega) | exact iE (by omega) | (simp_all; done) | (simp_all; omega) | (simp_all; intros; omega)
  try simp only [decide_eq_true_eq, decide_eq_false_iff_not, Bool.not_eq_true', Bool.not_eq_false', Bool.not_eq_eq_eq_not, Bool.not_true, Bool.not_false, Int.not_lt, Int.not_le, Classical.not_not, beq_iff_eq, beq_eq_false_iff_ne] at hc3
  refine CW.skipS ?_
  refine CW.seq ?_
  refine CW.seq ?_
  refine CW.reg ?_
  refine WL.pure rfl rfl rfl ((by first | exact PV.fieldAddr T.fl100_3 rfl (by first | assumption | exact Bx.cells (by assumption)) | exact PV.fieldAddrP T.fl100_3 rfl rfl)) ?_
  refine WL.pure rfl rfl rfl ((by first | exact PV.load0 T.na2 rfl (by first | exact Cells.up (by assumption) hB | exact Bx.cells (by assumption) | assumption) (Ext.refl _) rfl | exact PV.load1 T.na2 rfl (by first | exact Cells.up (by assumption) hB | exact Bx.cells (by assumption) | assumption) (Ext.refl _) rfl)) ?_
  refine WL.pure rfl rfl rfl ((by first | exact PV.fieldAddr T.fl100_3 rfl (by first | assumption | exact Bx.cells (by assumption)) | exact PV.fieldAddrP T.fl100_3 rfl rfl)) ?_
  refine WL.pure rfl rfl rfl ((by first | exact PV.load0 T.na2 rfl (by first | exact Cells.up (by assumption) hB | exact Bx.cells (by assumption) | assumption) (Ext.refl _) rfl | exact PV.load1 T.na2 rfl (by first | exact Cells.up (by assumption) hB | exact Bx.cells (by assumption) | assumption) (Ext.refl _) rfl)) ?_
  refine WL.pure rfl rfl rfl (PV.neq rfl rfl) ?_
  refine WL.nilS ?_
  refine CW.cond rfl (fun hc4 => ?_) (fun hc4 => ?_)
  · skip
    try simp only [decide_eq_true_eq, decide_eq_false_iff_not, Bool.not_eq_true', Bool.not_eq_false', Bool.not_eq_eq_eq_not, Bool.not_true, Bool.not_false, Int.not_lt, Int.not_le, Classical.not_not, beq_iff_eq, beq_eq_false_iff_ne] at hc4
    refine CW.seq ?_
    refine CW.reg ?_
    refine WL.pure rfl rfl rfl (PV.assign rfl) ?_
    refine WL.nilS ?_
    refine CW.ret ?_
    refine RQ.then ?_
    refine RQ.r1 rfl ?_
    refine ⟨?_, hB⟩
    first | rfl | exact bT (by omega) | exact bF (by omega) | exact bD (by omega) | exact iE (by omega) | (simp_all; done) | (simp_all; omega) | (simp_all; intros; omega)
  try simp only [decide_eq_true_eq, decide_eq_false_iff_not, Bool.not_eq_true', Bool.not_eq_false', Bool.not_eq_eq_eq_not, Bool.not_true, Bool.not_false, Int.not_lt, Int.not_le, Classical.not_not, beq_iff_eq, beq_eq_false_iff_ne] at hc4
  refine CW.skipS ?_
  refine CW.seq ?_
  refine CW.reg ?_
  refine WL.pure rfl rfl rfl (PV.assign rfl) ?_
  refine WL.nilS ?_
  refine CW.ret ?_
  refine RQ.r1 rfl ?_
  refine ⟨?_, hB⟩
  first | rfl | exact bT (by omega) | exact bF (by omega) | exact bD (by omega) | exact iE (by omega) | (simp_all; done) | (simp_all; omega) | (simp_all; intros; omega)
theorem c_laws_eqRuleS {w : World} {va vb : Value} {xs ys : List R4} (ha : Rd ER w va xs) (hb : Rd ER w vb ys) : Calls Try.prog 87 #[va, vb] w (Ret1 (RQt (.bool (decide (xs = ys))) w)) := by
  have hB : Ext w w := Ext.refl w
  have hla := ha.leI; have hlb := hb.leI
  refine callsOf (vs := [_, _]) Try.func87 rfl Try.ntmps87 rfl rfl ?_
  refine CW.seq ?_
  refine CW.reg ?_
  refine WL.pure rfl rfl rfl (PV.assign rfl) ?_
  refine WL.nilS ?_
  refine CW.seq ?_
  refine CW.seq ?_
  refine CW.reg ?_
  refine WL.pure rfl rfl rfl (PV.move rfl) ?_
  refine WL.pure rfl rfl rfl ((by first | exact PV.len rfl (by assumption) T.sl54 | exact PV.lenOs rfl (by assumption) T.sl54 | exact PV.len rfl (NL.rd (by assumption)) T.sl54)) ?_
  refine WL.pure rfl rfl rfl (PV.move rfl) ?_
  refine WL.pure rfl rfl rfl ((by first | exact PV.len rfl (by assumption) T.sl54 | exact PV.lenOs rfl (by assumption) T.sl54 | exact PV.len rfl (NL.rd (by assumption)) T.sl54)) ?_
  refine WL.pure rfl rfl rfl (PV.neq rfl rfl) ?_
  refine WL.nilS ?_
  refine CW.cond rfl (fun hc1 => ?_) (fun hc1 => ?_)
  · skip
    try simp only [decide_eq_true_eq, decide_eq_false_iff_not, Bool.not_eq_true', Bool.not_eq_false', Bool.not_eq_eq_eq_not, Bool.not_true, Bool.not_false, Int.not_lt, Int.not_le, Classical.not_not, beq_iff_eq, beq_eq_false_iff_ne] at hc1
    refine CW.seq ?_
    refine CW.reg ?_
    refine WL.pure rfl rfl rfl (PV.assign rfl) ?_
    refine WL.nilS ?_
    refine CW.ret ?_
    refine RQ.then ?_
    refine RQ.r1 rfl ?_
    refine ⟨?_, hB⟩
    first | exact bT (eq_of_takes (by omega) (by omega) he) | exact bF (by rintro rfl; first | omega | exact (r4_no (by assumption)).elim)
  try simp only [decide_eq_true_eq, decide_eq_false_iff_not, Bool.not_eq_true', Bool.not_eq_false', Bool.not_eq_eq_eq_not, Bool.not_true, Bool.not_false, Int.not_lt, Int.not_le, Classical.not_not, beq_iff_eq, beq_eq_false_iff_ne] at hc1
  refine CW.skipS ?_
  refine CW.seq ?_
  refine CW.seq ?_
  refine CW.reg ?_
  refine WL.pure rfl rfl rfl (PV.assign rfl) ?_
  refine WL.nilS ?_
  refine CW.block ?_
  refine CW.loop (σk := [(0, _), (1, _)]) (fun ρ wz m => ∃ (k : Nat), ρ = [(5, .int .i64 (k : Nat))] ∧ m = xs.length - k ∧ UpdL [] w wz ∧ (k ≤ xs.length) ∧ (xs.take k = ys.take k)) (ρ₀ := [(5, _)]) (m₀ := _) ⟨rfl, rfl, rfl, trivial⟩ ⟨0, rfl, rfl, (UpdL.refl _ _), (by first | omega | rfl | (simp; done) | assumption | (simp_all; done)), (by first | omega | rfl | (simp; done) | assumption | (simp_all; done))⟩ ?_
  rintro _ wl1 _ ⟨k, rfl, rfl, hU0, hk, he⟩
  have hB := hB.loop hU0 trivial
  refine CW.seq ?_
  refine CW.seq ?_
  refine CW.reg ?_
  refine WL.pure rfl rfl rfl (PV.move rfl) ?_
  refine WL.pure rfl rfl rfl (PV.move rfl) ?_
  refine WL.pure rfl rfl rfl ((by first | exact PV.len rfl (by assumption) T.sl54 | exact PV.lenOs rfl (by assumption) T.sl54 | exact PV.len rfl (NL.rd (by assumption)) T.sl54)) ?_
  refine WL.pure rfl rfl rfl (PV.lss rfl rfl) ?_
  refine WL.nilS ?_
  refine CW.cond rfl (fun hc2 => ?_) (fun hc2 => ?_)
  · skip
    try simp only [decide_eq_true_eq, decide_eq_false_iff_not, Bool.not_eq_true', Bool.not_eq_false', Bool.not_eq_eq_eq_not, Bool.not_true, Bool.not_false, Int.not_lt, Int.not_le, Classical.not_not, beq_iff_eq, beq_eq_false_iff_ne] at hc2
    refine CW.skipS ?_
    refine CW.seq ?_
    refine CW.block ?_
    refine CW.seq ?_
    refine CW.draw T.mixed (by kernel_rfl) (fun _ _ _ _ _ h => h) (fun w8 w9 => Upd none w8 w9) 10 (.take 0 (.take 1 (.take 2 (.take 3 (.take 4 (.take 5 (.take 6 (.take 7 (.must 8 (.take 9 .done)))))))))) (by kernel_rfl) (fun w1 hXd => ?_)
    have hB := hB.trans hXd
    have hU0 := hU0.ext hXd
    have hBr := hB
    have hS : Upd none w1 w1 := Ext.toUpd (Ext.refl _)
    refine HP.take rfl rfl rfl rfl hS (fun wS hS1 => PV.move rfl) ?_
    refine HP.take rfl rfl rfl rfl hS (fun wS hS1 => PV.move rfl) ?_
    first
      | refine HP.at (x := .tmp 17) (y := .tmp 18) (E := ER) ((0, 0, 0, 0)) rfl rfl (by assumption) (by first | omega | (simp; omega) | (simp_all; omega)) (fun p1 csp1 hpp1 hcp1 hq => ?_)
      | refine HP.atZ (x := .tmp 17) (y := .tmp 18) (E := ER) ((0, 0, 0, 0)) rfl rfl (by assumption) (by first | omega | (simp; omega) | (simp_all; omega)) (fun p1 csp1 hpp1 hzp1 hcp1 hq => ?_)
    cases hq
    refine HP.take rfl rfl rfl rfl hS (fun wS hS1 => (by first | exact PV.indexAddr hpp1 rfl rfl T.sl54 | exact PV.indexAddr hpp1 rfl (by rw [← hzp1]; rfl) T.sl54)) ?_
    refine HP.take rfl rfl rfl rfl hS (fun wS hS1 => (by first | exact PV.loadA T.ag100 rfl (by first | exact Cells.up (by assumption) (hBr.trans hS1) | exact Bx.cells (Bx.updD (by assumption) hS1 (Dj.nlR _)) | exact Cells.upd (by assumption) hS1 (by simp)) (Ext.refl _) rfl | exact PV.loadP (ds := [_, _, _, _]) T.ag100 rfl (by first | exact Cells.up (by assumption) (hBr.trans hS1) | exact Bx.cells (Bx.updD (by assumption) hS1 (Dj.nlR _)) | exact Cells.upd (by assumption) hS1 (by simp)) (Ext.refl _) rfl rfl)) ?_
    refine HP.take rfl rfl rfl rfl hS (fun wS hS1 => PV.move rfl) ?_
    refine HP.take rfl rfl rfl rfl hS (fun wS hS1 => PV.move rfl) ?_
    first
      | refine HP.at (x := .tmp 21) (y := .tmp 22) (E := ER) ((0, 0, 0, 0)) rfl rfl (by assumption) (by first | omega | (simp; omega) | (simp_all; omega)) (fun p2 csp2 hpp2 hcp2 hq => ?_)
      | refine HP.atZ (x := .tmp 21) (y := .tmp 22) (E := ER) ((0, 0, 0, 0)) rfl rfl (by assumption) (by first | omega | (simp; omega) | (simp_all; omega)) (fun p2 csp2 hpp2 hzp2 hcp2 hq => ?_)
    cases hq
    refine HP.take rfl rfl rfl rfl hS (fun wS hS1 => (by first | exact PV.indexAddr hpp2 rfl rfl T.sl54 | exact PV.indexAddr hpp2 rfl (by rw [← hzp2]; rfl) T.sl54)) ?_
    refine HP.take rfl rfl rfl rfl hS (fun wS hS1 => (by first | exact PV.loadA T.ag100 rfl (by first | exact Cells.up (by assumption) (hBr.trans hS1) | exact Bx.cells (Bx.updD (by assumption) hS1 (Dj.nlR _)) | exact Cells.upd (by assumption) hS1 (by simp)) (Ext.refl _) rfl | exact PV.loadP (ds := [_, _, _, _]) T.ag100 rfl (by first | exact Cells.up (by assumption) (hBr.trans hS1) | exact Bx.cells (Bx.updD (by assumption) hS1 (Dj.nlR _)) | exact Cells.upd (by assumption) hS1 (by simp)) (Ext.refl _) rfl rfl)) ?_
    refine HP.must rfl rfl (OpK.callR rfl T.cf115 rfl (c_laws_eqRule) (fun w2 hXw2 => ?_))
    refine ⟨Upd.trans hS hXw2, ?_⟩
    have hS := Upd.trans hS hXw2
    have hB := hB.trans hXw2
    have hU0 := hU0.ext hXw2
    refine HP.take rfl rfl rfl rfl hS (fun wS hS1 => PV.not rfl) ?_
    refine HP.doneS ?_
    refine CW.cond rfl (fun hc3 => ?_) (fun hc3 => ?_)
    · skip
      try simp only [decide_eq_true_eq, decide_eq_false_iff_not, Bool.not_eq_true', Bool.not_eq_false', Bool.not_eq_eq_eq_not, Bool.not_true, Bool.not_false, Int.not_lt, Int.not_le, Classical.not_not, beq_iff_eq, beq_eq_false_iff_ne] at hc3
      refine CW.seq ?_
      refine CW.reg ?_
      refine WL.pure rfl rfl rfl (PV.assign rfl) ?_
      refine WL.nilS ?_
      refine CW.ret ?_
      refine RQ.block ?_
      refine RQ.then ?_
      refine RQ.then ?_
      refine RQ.block ?_
      refine RQ.then ?_
      refine RQ.r1 rfl ?_
      refine ⟨?_, hB⟩
      first | exact bT (eq_of_takes (by omega) (by omega) he) | exact bF (by rintro rfl; first | omega | exact (r4_no (by assumption)).elim)
    try simp only [decide_eq_true_eq, decide_eq_false_iff_not, Bool.not_eq_true', Bool.not_eq_false', Bool.not_eq_eq_eq_not, Bool.not_true, Bool.not_false, Int.not_lt, Int.not_le, Classical.not_not, beq_iff_eq, beq_eq_false_iff_ne] at hc3
    refine CW.skip ?_
    refine NQ.block ?_
    refine NQ.then ?_
    refine CW.reg ?_
    refine WL.pure rfl rfl rfl (PV.move rfl) ?_
    refine WL.pure rfl rfl rfl (PV.add rfl rfl (by constructor <;> omega)) ?_
    refine WL.pure rfl rfl rfl (PV.assign rfl) ?_
    refine WL.nil ?_
    refine NQ.next (ρ := [(5, _)]) ⟨rfl, rfl, rfl, trivial⟩ ?_
    exact ⟨_, ⟨k + 1, rfl, rfl, hU0, (by first | omega | assumption | (simp_all; done) | (simp_all; omega)), (by exact take_eq_succ (by omega) (by omega) he (r4_ext (by assumption)))⟩, by omega⟩
  try simp only [decide_eq_true_eq, decide_eq_false_iff_not, Bool.not_eq_true', Bool.not_eq_false', Bool.not_eq_eq_eq_not, Bool.not_true, Bool.not_false, Int.not_lt, Int.not_le, Classical.not_not, beq_iff_eq, beq_eq_false_iff_ne] at hc2
  refine CW.exit ?_
  refine XQ.then ?_
  refine XQ.then ?_
  refine XQ.here ?_
  refine NQ.then ?_
  refine CW.seq ?_
  refine CW.reg ?_
  refine WL.pure rfl rfl rfl (PV.assign rfl) ?_
  refine WL.nilS ?_
  refine CW.ret ?_
  refine RQ.r1 rfl ?_
  refine ⟨?_, hB⟩
  first | exact bT (eq_of_takes (by omega) (by omega) he) | exact bF (by rintro rfl; first | omega | exact (r4_no (by assumption)).elim)

end Go.Proofs.Ytfnmkcncofjjkaa
