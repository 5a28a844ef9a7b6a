/- Walks of the functions that the law FnExactCountTrees reaches: each says what its function computes. No condition. -/
import Derived.Test.YtfnmkcncofjjkaaProg
import Derived.Test.YtfnmkcncofjjkaaLibM
import Derived.Test.YtfnmkcncofjjkaaPlA
import Derived.Test.YtfnmkcncofjjkaaLibN
import Derived.Test.YtfnmkcncofjjkaaPlG
import Derived.Test.YtfnmkcncofjjkaaPlX
import Derived.Test.YtfnmkcncofjjkaaLibR
import Derived.Test.YtfnmkcncofjjkaaPlD
import Derived.Test.YtfnmkcncofjjkaaPlB
import Derived.Test.YtfnmkcncofjjkaaPlH
import Derived.Test.YtfnmkcncofjjkaaWFnExactCountTreesb
namespace Go.Proofs.Ytfnmkcncofjjkaa
open Go Go.WX Go.Proofs
set_option linter.unusedSimpArgs false
set_option linter.unusedVariables false

theorem c_laws_eqGrammar {w : World} {a0 : Int} {a1 : Int} {va2 : Value} {xa2 : List R4} {b0 : Int} {b1 : Int} {vb2 : Value} {xb2 : List R4}  (ha2 : Rd ER w va2 xa2) (hb2 : Rd ER w vb2 xb2) : Calls Try.prog 42 #[.agg #[.int .i64 a0, .int .i64 a1, va2], .agg #[.int .i64 b0, .int .i64 b1, vb2]] w (Ret1 (RQt (.bool (decide (a0 = b0 ∧ a1 = b1 ∧ xa2 = xb2))) w)) := by
  have hB : Ext w w := Ext.refl w
  have hla2 := ha2.leI; have hlb2 := hb2.leI
  refine callsOf (vs := [_, _]) Try.func42 rfl Try.ntmps42 rfl rfl ?_
  refine CW.seq ?_
  refine CW.reg ?_
  refine WL.op rfl (OpK.box rfl rfl (by first | exact Rd.cells1 (by assumption) | exact Osl.cells1 (by assumption) | exact Osn.cells1 (by assumption) | exact Rd.cells1 (NL.rd (by assumption)) | rfl) (fun b1 w1 hXw1 hb1 hge1 => ?_))
  have hl1 := Lo.new hB hge1
  have hB := hB.trans hXw1
  refine WL.op rfl (OpK.box rfl rfl (by first | exact Rd.cells1 (by assumption) | exact Osl.cells1 (by assumption) | exact Osn.cells1 (by assumption) | exact Rd.cells1 (NL.rd (by assumption)) | rfl) (fun b2 w2 hXw2 hb2 hge2 => ?_))
  have hl2 := Lo.new hB hge2
  have hd1_2 := Dj.new hb1.ltO hge2
  have hB := hB.trans hXw2
  have hb1 := hb1.up hXw2
  refine WL.pure rfl rfl rfl (PV.assign rfl) ?_
  refine WL.nilS ?_
  refine CW.seq ?_
  refine CW.seq ?_
  refine CW.reg ?_
  refine WL.pure rfl rfl rfl ((by first | exact PV.fieldAddr T.fl56_0 rfl (by first | assumption | exact Bx.cells (by assumption)) | exact PV.fieldAddrP T.fl56_0 rfl rfl)) ?_
  refine WL.pure rfl rfl rfl ((by first | exact PV.load0 T.na2 rfl (by first | exact Cells.up (by assumption) hB | exact Bx.cells (by assumption) | assumption) (Ext.refl _) rfl | exact PV.load1 T.na2 rfl (by first | exact Cells.up (by assumption) hB | exact Bx.cells (by assumption) | assumption) (Ext.refl _) rfl)) ?_
  refine WL.pure rfl rfl rfl ((by first | exact PV.fieldAddr T.fl56_0 rfl (by first | assumption | exact Bx.cells (by assumption)) | exact PV.fieldAddrP T.fl56_0 rfl rfl)) ?_
  refine WL.pure rfl rfl rfl ((by first | exact PV.load0 T.na2 rfl (by first | exact Cells.up (by assumption) hB | exact Bx.cells (by assumption) | assumption) (Ext.refl _) rfl | exact PV.load1 T.na2 rfl (by first | exact Cells.up (by assumption) hB | exact Bx.cells (by assumption) | assumption) (Ext.refl _) rfl)) ?_
  refine WL.pure rfl rfl rfl (PV.neq rfl rfl) ?_
  refine WL.nilS ?_
  refine CW.cond rfl (fun hc1 => ?_) (fun hc1 => ?_)
  · skip
    try simp only [decide_eq_true_eq, decide_eq_false_iff_not, Bool.not_eq_true', Bool.not_eq_false', Bool.not_eq_eq_eq_not, Bool.not_true, Bool.not_false, Int.not_lt, Int.not_le, Classical.not_not, beq_iff_eq, beq_eq_false_iff_ne] at hc1
    refine CW.seq ?_
    refine CW.reg ?_
    refine WL.pure rfl rfl rfl (PV.assign rfl) ?_
    refine WL.nilS ?_
    refine CW.ret ?_
    refine RQ.then ?_
    refine RQ.r1 rfl ?_
    refine ⟨?_, hB⟩
    first | rfl | exact bT (by omega) | exact bF (by omega) | exact bD (by omega) | exact iE (by omega) | (simp_all; done) | (simp_all; omega) | (simp_all; intros; omega)
  try simp only [decide_eq_true_eq, decide_eq_false_iff_not, Bool.not_eq_true', Bool.not_eq_false', Bool.not_eq_eq_eq_not, Bool.not_true, Bool.not_false, Int.not_lt, Int.not_le, Classical.not_not, beq_iff_eq, beq_eq_false_iff_ne] at hc1
  refine CW.skipS ?_
  refine CW.seq ?_
  refine CW.seq ?_
  refine CW.reg ?_
  refine WL.pure rfl rfl rfl ((by first | exact PV.fieldAddr T.fl56_1 rfl (by first | assumption | exact Bx.cells (by assumption)) | exact PV.fieldAddrP T.fl56_1 rfl rfl)) ?_
  refine WL.pure rfl rfl rfl ((by first | exact PV.load0 T.na2 rfl (by first | exact Cells.up (by assumption) hB | exact Bx.cells (by assumption) | assumption) (Ext.refl _) rfl | exact PV.load1 T.na2 rfl (by first | exact Cells.up (by assumption) hB | exact Bx.cells (by assumption) | assumption) (Ext.refl _) rfl)) ?_
  refine WL.pure rfl rfl rfl ((by first | exact PV.fieldAddr T.fl56_1 rfl (by first | assumption | exact Bx.cells (by assumption)) | exact PV.fieldAddrP T.fl56_1 rfl rfl)) ?_
  refine WL.pure rfl rfl rfl ((by first | exact PV.load0 T.na2 rfl (by first | exact Cells.up (by assumption) hB | exact Bx.cells (by assumption) | assumption) (Ext.refl _) rfl | exact PV.load1 T.na2 rfl (by first | exact Cells.up (by assumption) hB | exact Bx.cells (by assumption) | assumption) (Ext.refl _) rfl)) ?_
  refine WL.pure rfl rfl rfl (PV.neq rfl rfl) ?_
  refine WL.nilS ?_
  refine CW.cond rfl (fun hc2 => ?_) (fun hc2 => ?_)
  · skip
    try simp only [decide_eq_true_eq, decide_eq_false_iff_not, Bool.not_eq_true', Bool.not_eq_false', Bool.not_eq_eq_eq_not, Bool.not_true, Bool.not_false, Int.not_lt, Int.not_le, Classical.not_not, beq_iff_eq, beq_eq_false_iff_ne] at hc2
    refine CW.seq ?_
    refine CW.reg ?_
    refine WL.pure rfl rfl rfl (PV.assign rfl) ?_
    refine WL.nilS ?_
    refine CW.ret ?_
    refine RQ.then ?_
    refine RQ.r1 rfl ?_
    refine ⟨?_, hB⟩
    first | rfl | exact bT (by omega) | exact bF (by omega) | exact bD (by omega) | exact iE (by omega) | (simp_all; done) | (simp_all; omega) | (simp_all; intros; omega)
  try simp only [decide_eq_true_eq, decide_eq_false_iff_not, Bool.not_eq_true', Bool.not_eq_false', Bool.not_eq_eq_eq_not, Bool.not_true, Bool.not_false, Int.not_lt, Int.not_le, Classical.not_not, beq_iff_eq, beq_eq_false_iff_ne] at hc2
  refine CW.skipS ?_
  refine CW.seq ?_
  refine CW.seq ?_
  refine CW.reg ?_
  refine WL.pure rfl rfl rfl ((by first | exact PV.fieldAddr T.fl56_2 rfl (by first | assumption | exact Bx.cells (by assumption)) | exact PV.fieldAddrP T.fl56_2 rfl rfl)) ?_
  refine WL.pure rfl rfl rfl ((by first | exact PV.load0 T.na54 rfl (by first | exact Cells.up (by assumption) hB | exact Bx.cells (by assumption) | assumption) (Ext.refl _) rfl | exact PV.load1 T.na54 rfl (by first | exact Cells.up (by assumption) hB | exact Bx.cells (by assumption) | assumption) (Ext.refl _) rfl)) ?_
  refine WL.pure rfl rfl rfl ((by first | exact PV.fieldAddr T.fl56_2 rfl (by first | assumption | exact Bx.cells (by assumption)) | exact PV.fieldAddrP T.fl56_2 rfl rfl)) ?_
  refine WL.pure rfl rfl rfl ((by first | exact PV.load0 T.na54 rfl (by first | exact Cells.up (by assumption) hB | exact Bx.cells (by assumption) | assumption) (Ext.refl _) rfl | exact PV.load1 T.na54 rfl (by first | exact Cells.up (by assumption) hB | exact Bx.cells (by assumption) | assumption) (Ext.refl _) rfl)) ?_
  refine WL.op rfl (OpK.callR rfl T.cf87 rfl (c_laws_eqRuleS (by first | assumption | exact Rd.up (by assumption) hB | exact Osl.rd (by assumption) | exact Osn.rdR (by assumption) | exact NL.rd (by assumption)) (by first | assumption | exact Rd.up (by assumption) hB | exact Osl.rd (by assumption) | exact Osn.rdR (by assumption) | exact NL.rd (by assumption))) (fun w3 hXw3 => ?_))
  have hB := hB.trans hXw3
  have hb1 := hb1.up hXw3
  have hb2 := hb2.up hXw3
  refine WL.pure rfl rfl rfl (PV.not rfl) ?_
  refine WL.nilS ?_
  refine CW.cond rfl (fun hc3 => ?_) (fun hc3 => ?_)
  · skip
    try simp only [decide_eq_true_eq, decide_eq_false_iff_not, Bool.not_eq_true', Bool.not_eq_false', Bool.not_eq_eq_eq_not, Bool.not_true, Bool.not_false, Int.not_lt, Int.not_le, Classical.not_not, beq_iff_eq, beq_eq_false_iff_ne] at hc3
    refine CW.seq ?_
    refine CW.reg ?_
    refine WL.pure rfl rfl rfl (PV.assign rfl) ?_
    refine WL.nilS ?_
    refine CW.ret ?_
    refine RQ.then ?_
    refine RQ.r1 rfl ?_
    refine ⟨?_, hB⟩
    first | rfl | exact bT (by omega) | exact bF (by omega) | exact bD (by omega) | exact iE (by omega) | (simp_all; done) | (simp_all; omega) | (simp_all; intros; omega)
  try simp only [decide_eq_true_eq, decide_eq_false_iff_not, Bool.not_eq_true', Bool.not_eq_false', Bool.not_eq_eq_eq_not, Bool.not_true, Bool.not_false, Int.not_lt, Int.not_le, Classical.not_not, beq_iff_eq, beq_eq_false_iff_ne] at hc3
  refine CW.skipS ?_
  refine CW.seq ?_
  refine CW.reg ?_
  refine WL.pure rfl rfl rfl (PV.assign rfl) ?_
  refine WL.nilS ?_
  refine CW.ret ?_
  refine RQ.r1 rfl ?_
  refine ⟨?_, hB⟩
  first | rfl | exact bT (by omega) | exact bF (by omega) | exact bD (by omega) | exact iE (by omega) | (simp_all; done) | (simp_all; omega) | (simp_all; intros; omega)
theorem c_laws_eqInt64S {w : World} {va vb : Value} {xs ys : List Int} (ha : Rd EI w va xs) (hb : Rd EI w vb ys) : Calls Try.prog 18 #[va, vb] w (Ret1 (RQt (.bool (decide (xs = ys))) w)) := by
  have hB : Ext w w := Ext.refl w
  have hla := ha.leI; have hlb := hb.leI
  refine callsOf (vs := [_, _]) Try.func18 rfl Try.ntmps18 rfl rfl ?_
  refine CW.seq ?_
  refine CW.reg ?_
  refine WL.pure rfl rfl rfl (PV.assign rfl) ?_
  refine WL.nilS ?_
  refine CW.seq ?_
  refine CW.seq ?_
  refine CW.reg ?_
  refine WL.pure rfl rfl rfl (PV.move rfl) ?_
  refine WL.pure rfl rfl rfl ((by first | exact PV.len rfl (by assumption) T.sl22 | exact PV.lenOs rfl (by assumption) T.sl22 | exact PV.len rfl (NL.rd (by assumption)) T.sl22)) ?_
  refine WL.pure rfl rfl rfl (PV.move rfl) ?_
  refine WL.pure rfl rfl rfl ((by first | exact PV.len rfl (by assumption) T.sl22 | exact PV.lenOs rfl (by assumption) T.sl22 | exact PV.len rfl (NL.rd (by assumption)) T.sl22)) ?_
  refine WL.pure rfl rfl rfl (PV.neq rfl rfl) ?_
  refine WL.nilS ?_
  refine CW.cond rfl (fun hc1 => ?_) (fun hc1 => ?_)
  · skip
    try simp only [decide_eq_true_eq, decide_eq_false_iff_not, Bool.not_eq_true', Bool.not_eq_false', Bool.not_eq_eq_eq_not, Bool.not_true, Bool.not_false, Int.not_lt, Int.not_le, Classical.not_not, beq_iff_eq, beq_eq_false_iff_ne] at hc1
    refine CW.seq ?_
    refine CW.reg ?_
    refine WL.pure rfl rfl rfl (PV.assign rfl) ?_
    refine WL.nilS ?_
    refine CW.ret ?_
    refine RQ.then ?_
    refine RQ.r1 rfl ?_
    refine ⟨?_, hB⟩
    first | exact bT (eq_of_takes (by omega) (by omega) he) | exact bF (by rintro rfl; simp_all)
  try simp only [decide_eq_true_eq, decide_eq_false_iff_not, Bool.not_eq_true', Bool.not_eq_false', Bool.not_eq_eq_eq_not, Bool.not_true, Bool.not_false, Int.not_lt, Int.not_le, Classical.not_not, beq_iff_eq, beq_eq_false_iff_ne] at hc1
  refine CW.skipS ?_
  refine CW.seq ?_
  refine CW.seq ?_
  refine CW.reg ?_
  refine WL.pure rfl rfl rfl (PV.assign rfl) ?_
  refine WL.nilS ?_
  refine CW.block ?_
  refine CW.loop (σk := [(0, _), (1, _)]) (fun ρ wz m => ∃ (k : Nat), ρ = [(5, .int .i64 (k : Nat))] ∧ m = xs.length - k ∧ UpdL [] w wz ∧ (k ≤ xs.length) ∧ (xs.take k = ys.take k)) (ρ₀ := [(5, _)]) (m₀ := _) ⟨rfl, rfl, rfl, trivial⟩ ⟨0, rfl, rfl, (UpdL.refl _ _), (by first | omega | rfl | (simp; done) | assumption | (simp_all; done)), (by first | omega | rfl | (simp; done) | assumption | (simp_all; done))⟩ ?_
  rintro _ wl1 _ ⟨k, rfl, rfl, hU0, hk, he⟩
  have hB := hB.loop hU0 trivial
  refine CW.seq ?_
  refine CW.seq ?_
  refine CW.reg ?_
  refine WL.pure rfl rfl rfl (PV.move rfl) ?_
  refine WL.pure rfl rfl rfl (PV.move rfl) ?_
  refine WL.pure rfl rfl rfl ((by first | exact PV.len rfl (by assumption) T.sl22 | exact PV.lenOs rfl (by assumption) T.sl22 | exact PV.len rfl (NL.rd (by assumption)) T.sl22)) ?_
  refine WL.pure rfl rfl rfl (PV.lss rfl rfl) ?_
  refine WL.nilS ?_
  refine CW.cond rfl (fun hc2 => ?_) (fun hc2 => ?_)
  · skip
    try simp only [decide_eq_true_eq, decide_eq_false_iff_not, Bool.not_eq_true', Bool.not_eq_false', Bool.not_eq_eq_eq_not, Bool.not_true, Bool.not_false, Int.not_lt, Int.not_le, Classical.not_not, beq_iff_eq, beq_eq_false_iff_ne] at hc2
    refine CW.skipS ?_
    refine CW.seq ?_
    refine CW.block ?_
    refine CW.seq ?_
    refine CW.draw T.mixed (by kernel_rfl) (fun _ _ _ _ _ h => h) (fun w8 w9 => Upd none w8 w9) 9 (.take 0 (.take 1 (.take 2 (.take 3 (.take 4 (.take 5 (.take 6 (.take 7 (.take 8 .done))))))))) (by kernel_rfl) (fun w1 hXd => ?_)
    have hB := hB.trans hXd
    have hU0 := hU0.ext hXd
    have hBr := hB
    have hS : Upd none w1 w1 := Ext.toUpd (Ext.refl _)
    refine HP.take rfl rfl rfl rfl hS (fun wS hS1 => PV.move rfl) ?_
    refine HP.take rfl rfl rfl rfl hS (fun wS hS1 => PV.move rfl) ?_
    first
      | refine HP.at (x := .tmp 17) (y := .tmp 18) (E := EI) (0) rfl rfl (by assumption) (by first | omega | (simp; omega) | (simp_all; omega)) (fun p1 csp1 hpp1 hcp1 hq => ?_)
      | refine HP.atZ (x := .tmp 17) (y := .tmp 18) (E := EI) (0) rfl rfl (by assumption) (by first | omega | (simp; omega) | (simp_all; omega)) (fun p1 csp1 hpp1 hzp1 hcp1 hq => ?_)
    cases hq
    refine HP.take rfl rfl rfl rfl hS (fun wS hS1 => (by first | exact PV.indexAddr hpp1 rfl rfl T.sl22 | exact PV.indexAddr hpp1 rfl (by rw [← hzp1]; rfl) T.sl22)) ?_
    refine HP.take rfl rfl rfl rfl hS (fun wS hS1 => (by first | exact PV.load0 T.na2 rfl (by first | exact Cells.up (by assumption) (hBr.trans hS1) | exact Bx.cells (Bx.updD (by assumption) hS1 (Dj.nlR _)) | exact Cells.upd (by assumption) hS1 (by simp)) (Ext.refl _) rfl | exact PV.load1 T.na2 rfl (by first | exact Cells.up (by assumption) (hBr.trans hS1) | exact Bx.cells (Bx.updD (by assumption) hS1 (Dj.nlR _)) | exact Cells.upd (by assumption) hS1 (by simp)) (Ext.refl _) rfl)) ?_
    refine HP.take rfl rfl rfl rfl hS (fun wS hS1 => PV.move rfl) ?_
    refine HP.take rfl rfl rfl rfl hS (fun wS hS1 => PV.move rfl) ?_
    first
      | refine HP.at (x := .tmp 21) (y := .tmp 22) (E := EI) (0) rfl rfl (by assumption) (by first | omega | (simp; omega) | (simp_all; omega)) (fun p2 csp2 hpp2 hcp2 hq => ?_)
      | refine HP.atZ (x := .tmp 21) (y := .tmp 22) (E := EI) (0) rfl rfl (by assumption) (by first | omega | (simp; omega) | (simp_all; omega)) (fun p2 csp2 hpp2 hzp2 hcp2 hq => ?_)
    cases hq
    refine HP.take rfl rfl rfl rfl hS (fun wS hS1 => (by first | exact PV.indexAddr hpp2 rfl rfl T.sl22 | exact PV.indexAddr hpp2 rfl (by rw [← hzp2]; rfl) T.sl22)) ?_
    refine HP.take rfl rfl rfl rfl hS (fun wS hS1 => (by first | exact PV.load0 T.na2 rfl (by first | exact Cells.up (by assumption) (hBr.trans hS1) | exact Bx.cells (Bx.updD (by assumption) hS1 (Dj.nlR _)) | exact Cells.upd (by assumption) hS1 (by simp)) (Ext.refl _) rfl | exact PV.load1 T.na2 rfl (by first | exact Cells.up (by assumption) (hBr.trans hS1) | exact Bx.cells (Bx.updD (by assumption) hS1 (Dj.nlR _)) | exact Cells.upd (by assumption) hS1 (by simp)) (Ext.refl _) rfl)) ?_
    refine HP.take rfl rfl rfl rfl hS (fun wS hS1 => PV.neq rfl rfl) ?_
    refine HP.doneS ?_
    refine CW.cond rfl (fun hc3 => ?_) (fun hc3 => ?_)
    · skip
      try simp only [decide_eq_true_eq, decide_eq_false_iff_not, Bool.not_eq_true', Bool.not_eq_false', Bool.not_eq_eq_eq_not, Bool.not_true, Bool.not_false, Int.not_lt, Int.not_le, Classical.not_not, beq_iff_eq, beq_eq_false_iff_ne] at hc3
      refine CW.seq ?_
      refine CW.reg ?_
      refine WL.pure rfl rfl rfl (PV.assign rfl) ?_
      refine WL.nilS ?_
      refine CW.ret ?_
      refine RQ.block ?_
      refine RQ.then ?_
      refine RQ.then ?_
      refine RQ.block ?_
      refine RQ.then ?_
      refine RQ.r1 rfl ?_
      refine ⟨?_, hB⟩
      first | exact bT (eq_of_takes (by omega) (by omega) he) | exact bF (by rintro rfl; simp_all)
    try simp only [decide_eq_true_eq, decide_eq_false_iff_not, Bool.not_eq_true', Bool.not_eq_false', Bool.not_eq_eq_eq_not, Bool.not_true, Bool.not_false, Int.not_lt, Int.not_le, Classical.not_not, beq_iff_eq, beq_eq_false_iff_ne] at hc3
    refine CW.skip ?_
    refine NQ.block ?_
    refine NQ.then ?_
    refine CW.reg ?_
    refine WL.pure rfl rfl rfl (PV.move rfl) ?_
    refine WL.pure rfl rfl rfl (PV.add rfl rfl (by constructor <;> omega)) ?_
    refine WL.pure rfl rfl rfl (PV.assign rfl) ?_
    refine WL.nil ?_
    refine NQ.next (ρ := [(5, _)]) ⟨rfl, rfl, rfl, trivial⟩ ?_
    exact ⟨_, ⟨k + 1, rfl, rfl, hU0, (by first | omega | assumption | (simp_all; done) | (simp_all; omega)), (by exact take_eq_succ (by omega) (by omega) he (by assumption))⟩, by omega⟩
  try simp only [decide_eq_true_eq, decide_eq_false_iff_not, Bool.not_eq_true', Bool.not_eq_false', Bool.not_eq_eq_eq_not, Bool.not_true, Bool.not_false, Int.not_lt, Int.not_le, Classical.not_not, beq_iff_eq, beq_eq_false_iff_ne] at hc2
  refine CW.exit ?_
  refine XQ.then ?_
  refine XQ.then ?_
  refine XQ.here ?_
  refine NQ.then ?_
  refine CW.seq ?_
  refine CW.reg ?_
  refine WL.pure rfl rfl rfl (PV.assign rfl) ?_
  refine WL.nilS ?_
  refine CW.ret ?_
  refine RQ.r1 rfl ?_
  refine ⟨?_, hB⟩
  first | exact bT (eq_of_takes (by omega) (by omega) he) | exact bF (by rintro rfl; simp_all)
theorem c_laws_FnExactCountTrees {w : World} {a0 : Int} {a1 : Int} {va2 : Value} {xa2 : List R4} {vw : Value} {xs : List Int} (ha2 : Rd ER w va2 xa2) (hw : Rd EI w vw xs) : Calls Try.prog 10 #[.agg #[.int .i64 a0, .int .i64 a1, va2], vw] w (Ret1 (RQt (.bool true) w)) := by
  have hB : Ext w w := Ext.refl w
  have hla2 := ha2.leI; have hlw := hw.leI
  refine callsOf (vs := [_, _]) Try.func10 rfl Try.ntmps10 rfl rfl ?_
  refine CW.seq ?_
  refine CW.reg ?_
  refine WL.op rfl (OpK.box rfl rfl (by first | exact Rd.cells1 (by assumption) | exact Osl.cells1 (by assumption) | exact Osn.cells1 (by assumption) | exact Rd.cells1 (NL.rd (by assumption)) | rfl) (fun b1 w1 hXw1 hb1 hge1 => ?_))
  have hl1 := Lo.new hB hge1
  have hB := hB.trans hXw1
  refine WL.pure rfl rfl rfl (PV.assign rfl) ?_
  refine WL.nilS ?_
  refine CW.seq ?_
  refine CW.seq ?_
  refine CW.reg ?_
  refine WL.pure rfl rfl rfl (PV.move rfl) ?_
  refine WL.pure rfl rfl rfl ((by first | exact PV.len rfl (by assumption) T.sl22 | exact PV.lenOs rfl (by assumption) T.sl22 | exact PV.len rfl (NL.rd (by assumption)) T.sl22)) ?_
  refine WL.pure rfl rfl rfl (PV.gtr rfl rfl) ?_
  refine WL.nilS ?_
  refine CW.cond rfl (fun hc1 => ?_) (fun hc1 => ?_)
  · skip
    try simp only [decide_eq_true_eq, decide_eq_false_iff_not, Bool.not_eq_true', Bool.not_eq_false', Bool.not_eq_eq_eq_not, Bool.not_true, Bool.not_false, Int.not_lt, Int.not_le, Classical.not_not, beq_iff_eq, beq_eq_false_iff_ne] at hc1
    refine CW.seq ?_
    refine CW.reg ?_
    refine WL.pure rfl rfl rfl (PV.assign rfl) ?_
    refine WL.nilS ?_
    refine CW.ret ?_
    refine RQ.then ?_
    refine RQ.r1 rfl ?_
    refine ⟨?_, hB⟩
    first | rfl | (exfalso; revert hc1; simp; done) | (exfalso; revert hc1; simp; omega) | (exfalso; omega) | first | rfl | exact bT (by omega) | exact bF (by omega) | exact bD (by omega) | exact iE (by omega) | (simp_all; done) | (simp_all; omega) | (simp_all; intros; omega)
  try simp only [decide_eq_true_eq, decide_eq_false_iff_not, Bool.not_eq_true', Bool.not_eq_false', Bool.not_eq_eq_eq_not, Bool.not_true, Bool.not_false, Int.not_lt, Int.not_le, Classical.not_not, beq_iff_eq, beq_eq_false_iff_ne] at hc1
  refine CW.skipS ?_
  refine CW.seq ?_
  refine CW.reg ?_
  refine WL.pure rfl rfl rfl (PV.assign rfl) ?_
  refine WL.nilS ?_
  refine CW.seq ?_
  refine CW.reg ?_
  refine WL.pure rfl rfl rfl ((by first | exact PV.loadA T.ag51 rfl (by first | exact Cells.up (by assumption) hB | exact Bx.cells (by assumption) | assumption) (Ext.refl _) rfl | exact PV.loadP (ds := [_, _, _]) T.ag51 rfl (by first | exact Cells.up (by assumption) hB | exact Bx.cells (by assumption) | assumption) (Ext.refl _) rfl rfl)) ?_
  refine WL.pure rfl rfl rfl (PV.move rfl) ?_
  refine WL.op rfl (OpK.callR rfl T.cf38 rfl (c_laws_szGrammar (by first | assumption | exact Rd.up (by assumption) hB | exact Osl.rd (by assumption) | exact Osn.rdR (by assumption) | exact NL.rd (by assumption)) (by first | assumption | omega | (simp only [marks_len, marksB_len, marksR_len]; omega))) (fun w2 hXw2 => ?_))
  have hB := hB.trans hXw2
  have hb1 := hb1.up hXw2
  refine WL.pure rfl rfl rfl (PV.assign rfl) ?_
  refine WL.nilS ?_
  refine CW.seq ?_
  refine CW.seq ?_
  refine CW.reg ?_
  refine WL.pure rfl rfl rfl (PV.move rfl) ?_
  refine WL.pure rfl rfl rfl (PV.lss rfl rfl) ?_
  refine WL.nilS ?_
  refine CW.cond rfl (fun hc2 => ?_) (fun hc2 => ?_)
  · skip
    try simp only [decide_eq_true_eq, decide_eq_false_iff_not, Bool.not_eq_true', Bool.not_eq_false', Bool.not_eq_eq_eq_not, Bool.not_true, Bool.not_false, Int.not_lt, Int.not_le, Classical.not_not, beq_iff_eq, beq_eq_false_iff_ne] at hc2
    refine CW.seq ?_
    refine CW.reg ?_
    refine WL.pure rfl rfl rfl (PV.assign rfl) ?_
    refine WL.nilS ?_
    refine CW.ret ?_
    refine RQ.then ?_
    refine RQ.r1 rfl ?_
    refine ⟨?_, hB⟩
    first | rfl | (exfalso; revert hc2; simp; done) | (exfalso; revert hc2; simp; omega) | (exfalso; omega) | first | rfl | exact bT (by omega) | exact bF (by omega) | exact bD (by omega) | exact iE (by omega) | (simp_all; done) | (simp_all; omega) | (simp_all; intros; omega)
  try simp only [decide_eq_true_eq, decide_eq_false_iff_not, Bool.not_eq_true', Bool.not_eq_false', Bool.not_eq_eq_eq_not, Bool.not_true, Bool.not_false, Int.not_lt, Int.not_le, Classical.not_not, beq_iff_eq, beq_eq_false_iff_ne] at hc2
  refine CW.skipS ?_
  refine CW.seq ?_
  refine CW.reg ?_
  refine WL.pure rfl rfl rfl ((by first | exact PV.loadA T.ag51 rfl (by first | exact Cells.up (by assumption) hB | exact Bx.cells (by assumption) | assumption) (Ext.refl _) rfl | exact PV.loadP (ds := [_, _, _]) T.ag51 rfl (by first | exact Cells.up (by assumption) hB | exact Bx.cells (by assumption) | assumption) (Ext.refl _) rfl rfl)) ?_
  refine WL.op rfl (OpK.call rfl T.cf40 rfl (c_laws_toGrammar (by first | assumption | exact Rd.up (by assumption) hB | exact Osl.rd (by assumption) | exact Osn.rdR (by assumption) | exact NL.rd (by assumption)) (by first | assumption | omega | (simp only [marks_len, marksB_len, marksR_len]; omega))) (fun rv1 w3 hR => ?_))
  obtain ⟨hXw3, v2, og2, rfl, ho2, hq2⟩ := hR
  have hl2 := Lo.up hq2 hB
  have hd1_2 := Dj.lo hb1.ltO hq2
  have hB := hB.trans hXw3
  have hb1 := hb1.up hXw3
  refine WL.pure rfl rfl rfl (PV.move rfl) ?_
  refine WL.op rfl (OpK.call rfl T.cf16 rfl (c_laws_toInt64S (by first | assumption | exact Rd.up (by assumption) hB | exact Osl.rd (by assumption) | exact Osn.rdR (by assumption) | exact NL.rd (by assumption)) (by first | assumption | omega | (simp only [marks_len, marksB_len, marksR_len]; omega))) (fun rv2 w4 hR => ?_))
  obtain ⟨hXw4, v3, og3, rfl, ho3, hq3⟩ := hR
  have hl3 := Lo.up hq3 hB
  have hd1_3 := Dj.lo hb1.ltO hq3
  have hd2_3 := Dj.lo ho2.ltO hq3
  have hB := hB.trans hXw4
  have hb1 := hb1.up hXw4
  have ho2 := ho2.up hXw4
  refine WL.op rfl (OpK.callR rfl T.cf39 rfl (c_spec_CountTrees (by first | assumption | exact Rd.up (by assumption) hB | exact Osl.rd (by assumption) | exact Osn.rdR (by assumption) | exact NL.rd (by assumption)) (by first | assumption | exact Rd.up (by assumption) hB | exact Osl.rd (by assumption) | exact Osn.rdR (by assumption) | exact NL.rd (by assumption))) (fun w5 hXw5 => ?_))
  have hB := hB.trans hXw5
  have hb1 := hb1.up hXw5
  have ho2 := ho2.up hXw5
  have ho3 := ho3.up hXw5
  refine WL.pure rfl rfl rfl (PV.move rfl) ?_
  refine WL.pure rfl rfl rfl (PV.extract rfl rfl) ?_
  refine WL.pure rfl rfl rfl (PV.extract rfl rfl) ?_
  refine WL.pure rfl rfl rfl (PV.assign rfl) ?_
  refine WL.pure rfl rfl rfl (PV.assign rfl) ?_
  refine WL.nilS ?_
  refine CW.seq ?_
  refine CW.reg ?_
  refine WL.pure rfl rfl rfl ((by first | exact PV.loadA T.ag51 rfl (by first | exact Cells.up (by assumption) hB | exact Bx.cells (by assumption) | assumption) (Ext.refl _) rfl | exact PV.loadP (ds := [_, _, _]) T.ag51 rfl (by first | exact Cells.up (by assumption) hB | exact Bx.cells (by assumption) | assumption) (Ext.refl _) rfl rfl)) ?_
  refine WL.op rfl (OpK.call rfl T.cf40 rfl (c_laws_toGrammar (by first | assumption | exact Rd.up (by assumption) hB | exact Osl.rd (by assumption) | exact Osn.rdR (by assumption) | exact NL.rd (by assumption)) (by first | assumption | omega | (simp only [marks_len, marksB_len, marksR_len]; omega))) (fun rv3 w6 hR => ?_))
  obtain ⟨hXw6, v4, og4, rfl, ho4, hq4⟩ := hR
  have hl4 := Lo.up hq4 hB
  have hd1_4 := Dj.lo hb1.ltO hq4
  have hd2_4 := Dj.lo ho2.ltO hq4
  have hd3_4 := Dj.lo ho3.ltO hq4
  have hB := hB.trans hXw6
  have hb1 := hb1.up hXw6
  have ho2 := ho2.up hXw6
  have ho3 := ho3.up hXw6
  refine WL.op rfl (OpK.alloc rfl T.zv56 rfl (fun b5 w7 hXw7 hb5 hge5 => ?_))
  have hl5 := Lo.new hB hge5
  have hd1_5 := Dj.new hb1.ltO hge5
  have hd2_5 := Dj.new ho2.ltO hge5
  have hd3_5 := Dj.new ho3.ltO hge5
  have hd4_5 := Dj.new ho4.ltO hge5
  have hB := hB.trans hXw7
  have hb1 := hb1.up hXw7
  have ho2 := ho2.up hXw7
  have ho3 := ho3.up hXw7
  have ho4 := ho4.up hXw7
  refine WL.op rfl (OpK.storeA T.sz56 rfl rfl rfl rfl (by simp [Value.oneCell'] <;> first | done | (repeat' apply And.intro) <;> first | rfl | exact Osl.oneCell (by assumption) | exact Osn.oneCell (by assumption) | exact Rd.oneCell (by assumption) | exact Rd.oneCell (NL.rd (by assumption)) | assumption) hb5 (fun w8 hXw8 hb5 => ?_))
  have hB := hB.updL hXw8 hl5
  have hb1 := hb1.updD hXw8 hd1_5
  have ho2 := ho2.updD hXw8 hd2_5
  have ho3 := ho3.updD hXw8 hd3_5
  have ho4 := ho4.updD hXw8 hd4_5
  refine WL.nilS ?_
  refine CW.seq ?_
  refine CW.reg ?_
  refine WL.pure rfl rfl rfl (PV.move rfl) ?_
  refine WL.op rfl (OpK.call rfl T.cf16 rfl (c_laws_toInt64S (by first | assumption | exact Rd.up (by assumption) hB | exact Osl.rd (by assumption) | exact Osn.rdR (by assumption) | exact NL.rd (by assumption)) (by first | assumption | omega | (simp only [marks_len, marksB_len, marksR_len]; omega))) (fun rv4 w9 hR => ?_))
  obtain ⟨hXw9, v6, og6, rfl, ho6, hq6⟩ := hR
  have hl6 := Lo.up hq6 hB
  have hd1_6 := Dj.lo hb1.ltO hq6
  have hd2_6 := Dj.lo ho2.ltO hq6
  have hd3_6 := Dj.lo ho3.ltO hq6
  have hd4_6 := Dj.lo ho4.ltO hq6
  have hd5_6 := Dj.lo hb5.ltO hq6
  have hB := hB.trans hXw9
  have hb1 := hb1.up hXw9
  have ho2 := ho2.up hXw9
  have ho3 := ho3.up hXw9
  have ho4 := ho4.up hXw9
  have hb5 := hb5.up hXw9
  refine WL.pure rfl rfl rfl (PV.assign rfl) ?_
  refine WL.nilS ?_
  refine CW.seq ?_
  refine CW.reg ?_
  refine WL.pure rfl rfl rfl ((by first | exact PV.loadA T.ag56 rfl (by first | exact Cells.up (by assumption) hB | exact Bx.cells (by assumption) | assumption) (Ext.refl _) rfl | exact PV.loadP (ds := [_, _, _]) T.ag56 rfl (by first | exact Cells.up (by assumption) hB | exact Bx.cells (by assumption) | assumption) (Ext.refl _) rfl rfl)) ?_
  refine WL.pure rfl rfl rfl (PV.move rfl) ?_
  refine WL.op rfl (OpK.callR rfl T.cf41 rfl (c_impl_CountTrees (by first | assumption | exact Rd.up (by assumption) hB | exact Osl.rd (by assumption) | exact Osn.rdR (by assumption) | exact NL.rd (by assumption)) (by first | assumption | exact Rd.up (by assumption) hB | exact Osl.rd (by assumption) | exact Osn.rdR (by assumption) | exact NL.rd (by assumption))) (fun w10 hXw10 => ?_))
  have hB := hB.trans hXw10
  have hb1 := hb1.up hXw10
  have ho2 := ho2.up hXw10
  have ho3 := ho3.up hXw10
  have ho4 := ho4.up hXw10
  have hb5 := hb5.up hXw10
  have ho6 := ho6.up hXw10
  refine WL.pure rfl rfl rfl (PV.move rfl) ?_
  refine WL.pure rfl rfl rfl (PV.extract rfl rfl) ?_
  refine WL.pure rfl rfl rfl (PV.extract rfl rfl) ?_
  refine WL.pure rfl rfl rfl (PV.assign rfl) ?_
  refine WL.pure rfl rfl rfl (PV.assign rfl) ?_
  refine WL.nilS ?_
  refine CW.seq ?_
  refine CW.seq ?_
  refine CW.reg ?_
  refine WL.pure rfl rfl rfl (PV.move rfl) ?_
  refine WL.pure rfl rfl rfl (PV.move rfl) ?_
  refine WL.pure rfl rfl rfl (PV.neq rfl rfl) ?_
  refine WL.pure rfl rfl rfl (PV.move rfl) ?_
  refine WL.split (t := 41) rfl (fun hc3 => ?_) (fun hc3 => ?_)
  · skip
    try simp only [decide_eq_true_eq, decide_eq_false_iff_not, Bool.not_eq_true', Bool.not_eq_false', Bool.not_eq_eq_eq_not, Bool.not_true, Bool.not_false, Int.not_lt, Int.not_le, Classical.not_not, beq_iff_eq, beq_eq_false_iff_ne] at hc3
    refine WL.skip rfl rfl rfl rfl rfl ?_
    refine WL.skip rfl rfl rfl rfl rfl ?_
    refine WL.skip rfl rfl rfl rfl rfl ?_
    refine WL.pure rfl rfl rfl (PV.pickT rfl rfl) ?_
    refine WL.nilS ?_
    refine CW.condT rfl ?_
    refine CW.seq ?_
    refine CW.reg ?_
    refine WL.pure rfl rfl rfl (PV.assign rfl) ?_
    refine WL.nilS ?_
    refine CW.ret ?_
    refine RQ.then ?_
    refine RQ.r1 rfl ?_
    refine ⟨?_, hB⟩
    first | rfl | (exfalso; revert hc3; simp; done) | (exfalso; revert hc3; simp; omega) | (exfalso; omega) | first | rfl | exact bT (by omega) | exact bF (by omega) | exact bD (by omega) | exact iE (by omega) | (simp_all; done) | (simp_all; omega) | (simp_all; intros; omega)
  try simp only [decide_eq_true_eq, decide_eq_false_iff_not, Bool.not_eq_true', Bool.not_eq_false', Bool.not_eq_eq_eq_not, Bool.not_true, Bool.not_false, Int.not_lt, Int.not_le, Classical.not_not, beq_iff_eq, beq_eq_false_iff_ne] at hc3
  refine WL.pureG rfl rfl rfl rfl rfl (PV.move rfl) ?_
  refine WL.pureG rfl rfl rfl rfl rfl (PV.move rfl) ?_
  refine WL.pureG rfl rfl rfl rfl rfl (PV.neqB T.bl4 rfl rfl) ?_
  refine WL.pure rfl rfl rfl (PV.pickF rfl rfl) ?_
  refine WL.nilS ?_
  refine CW.cond rfl (fun hc4 => ?_) (fun hc4 => ?_)
  · skip
    try simp only [decide_eq_true_eq, decide_eq_false_iff_not, Bool.not_eq_true', Bool.not_eq_false', Bool.not_eq_eq_eq_not, Bool.not_true, Bool.not_false, Int.not_lt, Int.not_le, Classical.not_not, beq_iff_eq, beq_eq_false_iff_ne] at hc4
    refine CW.seq ?_
    refine CW.reg ?_
    refine WL.pure rfl rfl rfl (PV.assign rfl) ?_
    refine WL.nilS ?_
    refine CW.ret ?_
    refine RQ.then ?_
    refine RQ.r1 rfl ?_
    refine ⟨?_, hB⟩
    first | rfl | (exfalso; revert hc4; simp; done) | (exfalso; revert hc4; simp; omega) | (exfalso; omega) | first | rfl | exact bT (by omega) | exact bF (by omega) | exact bD (by omega) | exact iE (by omega) | (simp_all; done) | (simp_all; omega) | (simp_all; intros; omega)
  try simp only [decide_eq_true_eq, decide_eq_false_iff_not, Bool.not_eq_true', Bool.not_eq_false', Bool.not_eq_eq_eq_not, Bool.not_true, Bool.not_false, Int.not_lt, Int.not_le, Classical.not_not, beq_iff_eq, beq_eq_false_iff_ne] at hc4
  refine CW.skipS ?_
  refine CW.seq ?_
  refine CW.seq ?_
  refine CW.draw T.mixed (by kernel_rfl) (fun _ _ _ _ _ h => h) (fun w8 w9 => Upd none w8 w9) 5 (.take 0 (.take 1 (.must 2 (.must 3 (.take 4 .done))))) (by kernel_rfl) (fun w11 hXd => ?_)
  have hB := hB.trans hXd
  have hb1 := hb1.up hXd
  have ho2 := ho2.up hXd
  have ho3 := ho3.up hXd
  have ho4 := ho4.up hXd
  have hb5 := hb5.up hXd
  have ho6 := ho6.up hXd
  have hBr := hB
  have hS : Upd none w11 w11 := Ext.toUpd (Ext.refl _)
  refine HP.take rfl rfl rfl rfl hS (fun wS hS1 => (by first | exact PV.loadA T.ag56 rfl (by first | exact Cells.up (by assumption) (hBr.trans hS1) | exact Bx.cells (Bx.updD (by assumption) hS1 (Dj.nlR _)) | exact Cells.upd (by assumption) hS1 (by simp)) (Ext.refl _) rfl | exact PV.loadP (ds := [_, _, _]) T.ag56 rfl (by first | exact Cells.up (by assumption) (hBr.trans hS1) | exact Bx.cells (Bx.updD (by assumption) hS1 (Dj.nlR _)) | exact Cells.upd (by assumption) hS1 (by simp)) (Ext.refl _) rfl rfl)) ?_
  refine HP.take rfl rfl rfl rfl hS (fun wS hS1 => (by first | exact PV.loadA T.ag51 rfl (by first | exact Cells.up (by assumption) (hBr.trans hS1) | exact Bx.cells (Bx.updD (by assumption) hS1 (Dj.nlR _)) | exact Cells.upd (by assumption) hS1 (by simp)) (Ext.refl _) rfl | exact PV.loadP (ds := [_, _, _]) T.ag51 rfl (by first | exact Cells.up (by assumption) (hBr.trans hS1) | exact Bx.cells (Bx.updD (by assumption) hS1 (Dj.nlR _)) | exact Cells.upd (by assumption) hS1 (by simp)) (Ext.refl _) rfl rfl)) ?_
  refine HP.must rfl rfl (OpK.call rfl T.cf40 rfl (c_laws_toGrammar (by first | assumption | exact Rd.up (by assumption) hB | exact Osl.rd (by assumption) | exact Osn.rdR (by assumption) | exact NL.rd (by assumption)) (by first | assumption | omega | (simp only [marks_len, marksB_len, marksR_len]; omega))) (fun rv5 w12 hR => ?_))
  obtain ⟨hXw12, v7, og7, rfl, ho7, hq7⟩ := hR
  have hl7 := Lo.up hq7 hB
  have hv7 := Lo.up hq7 hS
  have hd1_7 := Dj.lo hb1.ltO hq7
  have hd2_7 := Dj.lo ho2.ltO hq7
  have hd3_7 := Dj.lo ho3.ltO hq7
  have hd4_7 := Dj.lo ho4.ltO hq7
  have hd5_7 := Dj.lo hb5.ltO hq7
  have hd6_7 := Dj.lo ho6.ltO hq7
  refine ⟨Upd.trans hS hXw12, ?_⟩
  have hS := Upd.trans hS hXw12
  have hB := hB.trans hXw12
  have hb1 := hb1.up hXw12
  have ho2 := ho2.up hXw12
  have ho3 := ho3.up hXw12
  have ho4 := ho4.up hXw12
  have hb5 := hb5.up hXw12
  have ho6 := ho6.up hXw12
  refine HP.must rfl rfl (OpK.callR rfl T.cf42 rfl (c_laws_eqGrammar (by first | assumption | exact Rd.up (by assumption) hB | exact Osl.rd (by assumption) | exact Osn.rdR (by assumption) | exact NL.rd (by assumption)) (by first | assumption | exact Rd.up (by assumption) hB | exact Osl.rd (by assumption) | exact Osn.rdR (by assumption) | exact NL.rd (by assumption))) (fun w13 hXw13 => ?_))
  refine ⟨Upd.trans hS hXw13, ?_⟩
  have hS := Upd.trans hS hXw13
  have hB := hB.trans hXw13
  have hb1 := hb1.up hXw13
  have ho2 := ho2.up hXw13
  have ho3 := ho3.up hXw13
  have ho4 := ho4.up hXw13
  have hb5 := hb5.up hXw13
  have ho6 := ho6.up hXw13
  have ho7 := ho7.up hXw13
  refine HP.take rfl rfl rfl rfl hS (fun wS hS1 => PV.not rfl) ?_
  refine HP.doneS ?_
  refine CW.cond rfl (fun hc5 => ?_) (fun hc5 => ?_)
  · skip
    try simp only [decide_eq_true_eq, decide_eq_false_iff_not, Bool.not_eq_true', Bool.not_eq_false', Bool.not_eq_eq_eq_not, Bool.not_true, Bool.not_false, Int.not_lt, Int.not_le, Classical.not_not, beq_iff_eq, beq_eq_false_iff_ne] at hc5
    refine CW.seq ?_
    refine CW.reg ?_
    refine WL.pure rfl rfl rfl (PV.assign rfl) ?_
    refine WL.nilS ?_
    refine CW.ret ?_
    refine RQ.then ?_
    refine RQ.r1 rfl ?_
    refine ⟨?_, hB⟩
    first | rfl | (exfalso; revert hc5; simp; done) | (exfalso; revert hc5; simp; omega) | (exfalso; omega) | first | rfl | exact bT (by omega) | exact bF (by omega) | exact bD (by omega) | exact iE (by omega) | (simp_all; done) | (simp_all; omega) | (simp_all; intros; omega)
  try simp only [decide_eq_true_eq, decide_eq_false_iff_not, Bool.not_eq_true', Bool.not_eq_false', Bool.not_eq_eq_eq_not, Bool.not_true, Bool.not_false, Int.not_lt, Int.not_le, Classical.not_not, beq_iff_eq, beq_eq_false_iff_ne] at hc5
  refine CW.skipS ?_
  refine CW.seq ?_
  refine CW.seq ?_
  refine CW.reg ?_
  refine WL.pure rfl rfl rfl (PV.move rfl) ?_
  refine WL.pure rfl rfl rfl (PV.move rfl) ?_
  refine WL.op rfl (OpK.call rfl T.cf16 rfl (c_laws_toInt64S (by first | assumption | exact Rd.up (by assumption) hB | exact Osl.rd (by assumption) | exact Osn.rdR (by assumption) | exact NL.rd (by assumption)) (by first | assumption | omega | (simp only [marks_len, marksB_len, marksR_len]; omega))) (fun rv6 w14 hR => ?_))
  obtain ⟨hXw14, v8, og8, rfl, ho8, hq8⟩ := hR
  have hl8 := Lo.up hq8 hB
  have hd1_8 := Dj.lo hb1.ltO hq8
  have hd2_8 := Dj.lo ho2.ltO hq8
  have hd3_8 := Dj.lo ho3.ltO hq8
  have hd4_8 := Dj.lo ho4.ltO hq8
  have hd5_8 := Dj.lo hb5.ltO hq8
  have hd6_8 := Dj.lo ho6.ltO hq8
  have hd7_8 := Dj.lo ho7.ltO hq8
  have hB := hB.trans hXw14
  have hb1 := hb1.up hXw14
  have ho2 := ho2.up hXw14
  have ho3 := ho3.up hXw14
  have ho4 := ho4.up hXw14
  have hb5 := hb5.up hXw14
  have ho6 := ho6.up hXw14
  have ho7 := ho7.up hXw14
  refine WL.op rfl (OpK.callR rfl T.cf18 rfl (c_laws_eqInt64S (by first | assumption | exact Rd.up (by assumption) hB | exact Osl.rd (by assumption) | exact Osn.rdR (by assumption) | exact NL.rd (by assumption)) (by first | assumption | exact Rd.up (by assumption) hB | exact Osl.rd (by assumption) | exact Osn.rdR (by assumption) | exact NL.rd (by assumption))) (fun w15 hXw15 => ?_))
  have hB := hB.trans hXw15
  have hb1 := hb1.up hXw15
  have ho2 := ho2.up hXw15
  have ho3 := ho3.up hXw15
  have ho4 := ho4.up hXw15
  have hb5 := hb5.up hXw15
  have ho6 := ho6.up hXw15
  have ho7 := ho7.up hXw15
  have ho8 := ho8.up hXw15
  refine WL.pure rfl rfl rfl (PV.not rfl) ?_
  refine WL.nilS ?_
  refine CW.cond rfl (fun hc6 => ?_) (fun hc6 => ?_)
  · skip
    try simp only [decide_eq_true_eq, decide_eq_false_iff_not, Bool.not_eq_true', Bool.not_eq_false', Bool.not_eq_eq_eq_not, Bool.not_true, Bool.not_false, Int.not_lt, Int.not_le, Classical.not_not, beq_iff_eq, beq_eq_false_iff_ne] at hc6
    refine CW.seq ?_
    refine CW.reg ?_
    refine WL.pure rfl rfl rfl (PV.assign rfl) ?_
    refine WL.nilS ?_
    refine CW.ret ?_
    refine RQ.then ?_
    refine RQ.r1 rfl ?_
    refine ⟨?_, hB⟩
    first | rfl | (exfalso; revert hc6; simp; done) | (exfalso; revert hc6; simp; omega) | (exfalso; omega) | first | rfl | exact bT (by omega) | exact bF (by omega) | exact bD (by omega) | exact iE (by omega) | (simp_all; done) | (simp_all; omega) | (simp_all; intros; omega)
  try simp only [decide_eq_true_eq, decide_eq_false_iff_not, Bool.not_eq_true', Bool.not_eq_false', Bool.not_eq_eq_eq_not, Bool.not_true, Bool.not_false, Int.not_lt, Int.not_le, Classical.not_not, beq_iff_eq, beq_eq_false_iff_ne] at hc6
  refine CW.skipS ?_
  refine CW.seq ?_
  refine CW.reg ?_
  refine WL.pure rfl rfl rfl (PV.assign rfl) ?_
  refine WL.nilS ?_
  refine CW.ret ?_
  refine RQ.r1 rfl ?_
  refine ⟨?_, hB⟩
  first | rfl | (exfalso; revert hc6; simp; done) | (exfalso; revert hc6; simp; omega) | (exfalso; omega) | first | rfl | exact bT (by omega) | exact bF (by omega) | exact bD (by omega) | exact iE (by omega) | (simp_all; done) | (simp_all; omega) | (simp_all; intros; omega)

end Go.Proofs.Ytfnmkcncofjjkaa
