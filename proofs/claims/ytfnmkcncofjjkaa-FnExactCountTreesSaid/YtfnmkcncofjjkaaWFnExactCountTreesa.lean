/- Walks of the functions that the law FnExactCountTrees reaches: each says what its function computes. No condition. -/
import Derived.Test.YtfnmkcncofjjkaaProg
import Derived.Test.YtfnmkcncofjjkaaLibM
import Derived.Test.YtfnmkcncofjjkaaPlA
import Derived.Test.YtfnmkcncofjjkaaLibN
import Derived.Test.YtfnmkcncofjjkaaPlG
import Derived.Test.YtfnmkcncofjjkaaPlX
import Derived.Test.YtfnmkcncofjjkaaLibR
import Derived.Test.YtfnmkcncofjjkaaPlD
import Derived.Test.YtfnmkcncofjjkaaPlB
import Derived.Test.YtfnmkcncofjjkaaPlH
namespace Go.Proofs.Ytfnmkcncofjjkaa.T
open Go Go.WX Go.Proofs

theorem sl49 : slOf Try.prog 49 = some (147, 4, 32) := by kernel_rfl
theorem fl51_2 : flOf Try.prog 51 2 = some (2, 49, 1) := by kernel_rfl
theorem na49 : naOf Try.prog 49 = true := by kernel_rfl
theorem cf81 : cfOf Try.prog 81 = true := by kernel_rfl
theorem zv100 : zvOf Try.prog 100 = some (.agg #[.int .i64 0, .int .i64 0, .int .i64 0, .int .i64 0]) := by kernel_rfl
theorem fl147_0 : flOf Try.prog 147 0 = some (0, 2, 1) := by kernel_rfl
theorem na2 : naOf Try.prog 2 = true := by kernel_rfl
theorem fl100_0 : flOf Try.prog 100 0 = some (0, 2, 1) := by kernel_rfl
theorem sz2 : szOf Try.prog 2 = some 1 := by kernel_rfl
theorem fl147_1 : flOf Try.prog 147 1 = some (1, 2, 1) := by kernel_rfl
theorem fl100_1 : flOf Try.prog 100 1 = some (1, 2, 1) := by kernel_rfl
theorem fl147_2 : flOf Try.prog 147 2 = some (2, 2, 1) := by kernel_rfl
theorem fl100_2 : flOf Try.prog 100 2 = some (2, 2, 1) := by kernel_rfl
theorem fl147_3 : flOf Try.prog 147 3 = some (3, 2, 1) := by kernel_rfl
theorem fl100_3 : flOf Try.prog 100 3 = some (3, 2, 1) := by kernel_rfl
theorem ag100 : agOf Try.prog 100 = some 4 := by kernel_rfl
theorem sz100 : szOf Try.prog 100 = some 4 := by kernel_rfl
theorem sl54 : slOf Try.prog 54 = some (100, 4, 32) := by kernel_rfl
theorem ag147 : agOf Try.prog 147 = some 4 := by kernel_rfl
theorem cf113 : cfOf Try.prog 113 = true := by kernel_rfl
theorem zv56 : zvOf Try.prog 56 = some (.agg #[.int .i64 0, .int .i64 0, .slice none 0 0]) := by kernel_rfl
theorem fl51_0 : flOf Try.prog 51 0 = some (0, 2, 1) := by kernel_rfl
theorem fl56_0 : flOf Try.prog 56 0 = some (0, 2, 1) := by kernel_rfl
theorem fl51_1 : flOf Try.prog 51 1 = some (1, 2, 1) := by kernel_rfl
theorem fl56_1 : flOf Try.prog 56 1 = some (1, 2, 1) := by kernel_rfl
theorem cf83 : cfOf Try.prog 83 = true := by kernel_rfl
theorem fl56_2 : flOf Try.prog 56 2 = some (2, 54, 1) := by kernel_rfl
theorem sz54 : szOf Try.prog 54 = some 1 := by kernel_rfl
theorem ag56 : agOf Try.prog 56 = some 3 := by kernel_rfl
theorem sz56 : szOf Try.prog 56 = some 3 := by kernel_rfl
theorem sl22 : slOf Try.prog 22 = some (2, 1, 8) := by kernel_rfl
theorem zv2 : zvOf Try.prog 2 = some (.int .i64 0) := by kernel_rfl
theorem cf72 : cfOf Try.prog 72 = true := by kernel_rfl
theorem na54 : naOf Try.prog 54 = true := by kernel_rfl
theorem mixed : Try.prog.follows .mixedOrders = true := by kernel_rfl
theorem cf88 : cfOf Try.prog 88 = true := by kernel_rfl
theorem cf112 : cfOf Try.prog 112 = true := by kernel_rfl
theorem cf82 : cfOf Try.prog 82 = true := by kernel_rfl
theorem cf73 : cfOf Try.prog 73 = true := by kernel_rfl
theorem cf105 : cfOf Try.prog 105 = true := by kernel_rfl
theorem cf91 : cfOf Try.prog 91 = true := by kernel_rfl
theorem cf114 : cfOf Try.prog 114 = true := by kernel_rfl
theorem na102 : naOf Try.prog 102 = true := by kernel_rfl
theorem ar106 : arOf Try.prog 106 = some (12, 104, 104) := by kernel_rfl
theorem ar104 : arOf Try.prog 104 = some (13, 103, 8) := by kernel_rfl
theorem ar103 : arOf Try.prog 103 = some (8, 2, 1) := by kernel_rfl
theorem na4 : naOf Try.prog 4 = true := by kernel_rfl
theorem sz4 : szOf Try.prog 4 = some 1 := by kernel_rfl
theorem na22 : naOf Try.prog 22 = true := by kernel_rfl
theorem cf86 : cfOf Try.prog 86 = true := by kernel_rfl
theorem cf84 : cfOf Try.prog 84 = true := by kernel_rfl
theorem az106 : azOf Try.prog 106 = some (List.replicate 1248 (VI 0)) := by kernel_rfl
theorem zv102 : zvOf Try.prog 102 = some (.pointer none) := by kernel_rfl
theorem sz102 : szOf Try.prog 102 = some 1 := by kernel_rfl
theorem zv4 : zvOf Try.prog 4 = some (.bool false) := by kernel_rfl
theorem cf85 : cfOf Try.prog 85 = true := by kernel_rfl
theorem cf115 : cfOf Try.prog 115 = true := by kernel_rfl
theorem cf87 : cfOf Try.prog 87 = true := by kernel_rfl
theorem ag51 : agOf Try.prog 51 = some 3 := by kernel_rfl
theorem cf38 : cfOf Try.prog 38 = true := by kernel_rfl
theorem cf40 : cfOf Try.prog 40 = true := by kernel_rfl
theorem cf16 : cfOf Try.prog 16 = true := by kernel_rfl
theorem cf39 : cfOf Try.prog 39 = true := by kernel_rfl
theorem cf41 : cfOf Try.prog 41 = true := by kernel_rfl
theorem bl4 : blOf Try.prog 4 = true := by kernel_rfl
theorem cf42 : cfOf Try.prog 42 = true := by kernel_rfl
theorem cf18 : cfOf Try.prog 18 = true := by kernel_rfl

end Go.Proofs.Ytfnmkcncofjjkaa.T
namespace Go.Proofs.Ytfnmkcncofjjkaa
open Go Go.WX Go.Proofs
set_option linter.unusedSimpArgs false
set_option linter.unusedVariables false

theorem c_laws_szRuleS {w : World} {va : Value} {xs : List R4} {left : Int} (ha : Rd ER w va xs) (hlf : left ≤ 1048576 ∧ -1 ≤ left) : Calls Try.prog 81 #[va, .int .i64 left] w (Ret1 (RQt (.int .i64 (max (-1) (left - xs.length))) w)) := by
  have hB : Ext w w := Ext.refl w
  have hla := ha.leI
  refine callsOf (vs := [_, _]) Try.func81 rfl Try.ntmps81 rfl rfl ?_
  refine CW.seq ?_
  refine CW.reg ?_
  refine WL.pure rfl rfl rfl (PV.assign rfl) ?_
  refine WL.nilS ?_
  refine CW.seq ?_
  refine CW.reg ?_
  refine WL.pure rfl rfl rfl (PV.move rfl) ?_
  refine WL.pure rfl rfl rfl (PV.move rfl) ?_
  refine WL.pure rfl rfl rfl ((by first | exact PV.len rfl (by assumption) T.sl49 | exact PV.lenOs rfl (by assumption) T.sl49 | exact PV.len rfl (NL.rd (by assumption)) T.sl49)) ?_
  refine WL.pure rfl rfl rfl (PV.sub rfl rfl (by constructor <;> omega)) ?_
  refine WL.pure rfl rfl rfl (PV.assign rfl) ?_
  refine WL.nilS ?_
  refine CW.seq ?_
  refine CW.seq ?_
  refine CW.reg ?_
  refine WL.pure rfl rfl rfl (PV.move rfl) ?_
  refine WL.pure rfl rfl rfl (PV.lss rfl rfl) ?_
  refine WL.nilS ?_
  refine CW.cond rfl (fun hc1 => ?_) (fun hc1 => ?_)
  · skip
    try simp only [decide_eq_true_eq, decide_eq_false_iff_not, Bool.not_eq_true', Bool.not_eq_false', Bool.not_eq_eq_eq_not, Bool.not_true, Bool.not_false, Int.not_lt, Int.not_le, Classical.not_not, beq_iff_eq, beq_eq_false_iff_ne] at hc1
    refine CW.seq ?_
    refine CW.reg ?_
    refine WL.pure rfl rfl rfl (PV.assign rfl) ?_
    refine WL.nilS ?_
    refine CW.ret ?_
    refine RQ.then ?_
    refine RQ.r1 rfl ?_
    refine ⟨?_, hB⟩
    exact iE (by omega)
  try simp only [decide_eq_true_eq, decide_eq_false_iff_not, Bool.not_eq_true', Bool.not_eq_false', Bool.not_eq_eq_eq_not, Bool.not_true, Bool.not_false, Int.not_lt, Int.not_le, Classical.not_not, beq_iff_eq, beq_eq_false_iff_ne] at hc1
  refine CW.skipS ?_
  refine CW.seq ?_
  refine CW.reg ?_
  refine WL.pure rfl rfl rfl (PV.move rfl) ?_
  refine WL.pure rfl rfl rfl (PV.assign rfl) ?_
  refine WL.nilS ?_
  refine CW.ret ?_
  refine RQ.r1 rfl ?_
  refine ⟨?_, hB⟩
  exact iE (by omega)
theorem c_laws_szGrammar {w : World} {a0 : Int} {a1 : Int} {va2 : Value} {xa2 : List R4} {left : Int} (ha2 : Rd ER w va2 xa2) (hlf : left ≤ 1048576 ∧ -1 ≤ left) : Calls Try.prog 38 #[.agg #[.int .i64 a0, .int .i64 a1, va2], .int .i64 left] w (Ret1 (RQt (.int .i64 (max (-1) (left - (xa2.length)))) w)) := by
  have hB : Ext w w := Ext.refl w
  have hla2 := ha2.leI
  refine callsOf (vs := [_, _]) Try.func38 rfl Try.ntmps38 rfl rfl ?_
  refine CW.seq ?_
  refine CW.reg ?_
  refine WL.op rfl (OpK.box rfl rfl (by first | exact Rd.cells1 (by assumption) | exact Osl.cells1 (by assumption) | exact Osn.cells1 (by assumption) | exact Rd.cells1 (NL.rd (by assumption)) | rfl) (fun b1 w1 hXw1 hb1 hge1 => ?_))
  have hl1 := Lo.new hB hge1
  have hB := hB.trans hXw1
  refine WL.pure rfl rfl rfl (PV.assign rfl) ?_
  refine WL.nilS ?_
  refine CW.seq ?_
  refine CW.reg ?_
  refine WL.pure rfl rfl rfl ((by first | exact PV.fieldAddr T.fl51_2 rfl (by first | assumption | exact Bx.cells (by assumption)) | exact PV.fieldAddrP T.fl51_2 rfl rfl)) ?_
  refine WL.pure rfl rfl rfl ((by first | exact PV.load0 T.na49 rfl (by first | exact Cells.up (by assumption) hB | exact Bx.cells (by assumption) | assumption) (Ext.refl _) rfl | exact PV.load1 T.na49 rfl (by first | exact Cells.up (by assumption) hB | exact Bx.cells (by assumption) | assumption) (Ext.refl _) rfl)) ?_
  refine WL.pure rfl rfl rfl (PV.move rfl) ?_
  refine WL.op rfl (OpK.callR rfl T.cf81 rfl (c_laws_szRuleS (by first | assumption | exact Rd.up (by assumption) hB | exact Osl.rd (by assumption) | exact Osn.rdR (by assumption) | exact NL.rd (by assumption)) (by first | assumption | omega | (simp only [marks_len, marksB_len, marksR_len]; omega))) (fun w2 hXw2 => ?_))
  have hB := hB.trans hXw2
  have hb1 := hb1.up hXw2
  refine WL.pure rfl rfl rfl (PV.assign rfl) ?_
  refine WL.nilS ?_
  refine CW.seq ?_
  refine CW.seq ?_
  refine CW.reg ?_
  refine WL.pure rfl rfl rfl (PV.move rfl) ?_
  refine WL.pure rfl rfl rfl (PV.lss rfl rfl) ?_
  refine WL.nilS ?_
  refine CW.cond rfl (fun hc1 => ?_) (fun hc1 => ?_)
  · skip
    try simp only [decide_eq_true_eq, decide_eq_false_iff_not, Bool.not_eq_true', Bool.not_eq_false', Bool.not_eq_eq_eq_not, Bool.not_true, Bool.not_false, Int.not_lt, Int.not_le, Classical.not_not, beq_iff_eq, beq_eq_false_iff_ne] at hc1
    refine CW.seq ?_
    refine CW.reg ?_
    refine WL.pure rfl rfl rfl (PV.assign rfl) ?_
    refine WL.nilS ?_
    refine CW.ret ?_
    refine RQ.then ?_
    refine RQ.r1 rfl ?_
    refine ⟨?_, hB⟩
    exact iE (by omega)
  try simp only [decide_eq_true_eq, decide_eq_false_iff_not, Bool.not_eq_true', Bool.not_eq_false', Bool.not_eq_eq_eq_not, Bool.not_true, Bool.not_false, Int.not_lt, Int.not_le, Classical.not_not, beq_iff_eq, beq_eq_false_iff_ne] at hc1
  refine CW.skipS ?_
  refine CW.seq ?_
  refine CW.reg ?_
  refine WL.pure rfl rfl rfl (PV.move rfl) ?_
  refine WL.pure rfl rfl rfl (PV.assign rfl) ?_
  refine WL.nilS ?_
  refine CW.ret ?_
  refine RQ.r1 rfl ?_
  refine ⟨?_, hB⟩
  exact iE (by omega)
theorem c_laws_toRule {w : World} {a0 a1 a2 a3 : Int} : Calls Try.prog 113 #[.agg #[.int .i64 a0, .int .i64 a1, .int .i64 a2, .int .i64 a3]] w (Ret1 (RQt (.agg #[.int .i64 a0, .int .i64 a1, .int .i64 a2, .int .i64 a3]) w)) := by
  have hB : Ext w w := Ext.refl w
  refine callsOf (vs := [_]) Try.func113 rfl Try.ntmps113 rfl rfl ?_
  refine CW.seq ?_
  refine CW.reg ?_
  refine WL.op rfl (OpK.box rfl rfl (by first | exact Rd.cells1 (by assumption) | exact Osl.cells1 (by assumption) | exact Osn.cells1 (by assumption) | exact Rd.cells1 (NL.rd (by assumption)) | rfl) (fun b1 w1 hXw1 hb1 hge1 => ?_))
  have hl1 := Lo.new hB hge1
  have hB := hB.trans hXw1
  refine WL.op rfl (OpK.alloc rfl T.zv100 rfl (fun b2 w2 hXw2 hb2 hge2 => ?_))
  have hl2 := Lo.new hB hge2
  have hd1_2 := Dj.new hb1.ltO hge2
  have hB := hB.trans hXw2
  have hb1 := hb1.up hXw2
  refine WL.nilS ?_
  refine CW.seq ?_
  refine CW.reg ?_
  refine WL.op rfl (OpK.alloc rfl T.zv100 rfl (fun b3 w3 hXw3 hb3 hge3 => ?_))
  have hl3 := Lo.new hB hge3
  have hd1_3 := Dj.new hb1.ltO hge3
  have hd2_3 := Dj.new hb2.ltO hge3
  have hB := hB.trans hXw3
  have hb1 := hb1.up hXw3
  have hb2 := hb2.up hXw3
  refine WL.nilS ?_
  refine CW.seq ?_
  refine CW.reg ?_
  refine WL.pure rfl rfl rfl ((by first | exact PV.fieldAddr T.fl147_0 rfl (by first | assumption | exact Bx.cells (by assumption)) | exact PV.fieldAddrP T.fl147_0 rfl rfl)) ?_
  refine WL.pure rfl rfl rfl ((by first | exact PV.load0 T.na2 rfl (by first | exact Cells.up (by assumption) hB | exact Bx.cells (by assumption) | assumption) (Ext.refl _) rfl | exact PV.load1 T.na2 rfl (by first | exact Cells.up (by assumption) hB | exact Bx.cells (by assumption) | assumption) (Ext.refl _) rfl)) ?_
  refine WL.pure rfl rfl rfl ((by first | exact PV.fieldAddr T.fl100_0 rfl (by first | assumption | exact Bx.cells (by assumption)) | exact PV.fieldAddrP T.fl100_0 rfl rfl)) ?_
  first
    | refine WL.op rfl (OpK.storeB T.sz2 rfl rfl (by first | rfl | exact Osl.oneCell (by assumption) | exact Osn.oneCell (by assumption) | exact Rd.oneCell (by assumption) | exact Rd.oneCell (NL.rd (by assumption)) | assumption) hb3 rfl (fun w4 hXw4 hb3 => ?_))
    | refine WL.op rfl (OpK.storeB0 T.sz2 rfl rfl (by first | rfl | exact Osl.oneCell (by assumption) | exact Osn.oneCell (by assumption) | exact Rd.oneCell (by assumption) | exact Rd.oneCell (NL.rd (by assumption)) | assumption) hb3 (fun w4 hXw4 hb3 => ?_))
  have hB := hB.updL hXw4 hl3
  have hb1 := hb1.updD hXw4 hd1_3
  have hb2 := hb2.updD hXw4 hd2_3
  refine WL.nilS ?_
  refine CW.seq ?_
  refine CW.reg ?_
  refine WL.pure rfl rfl rfl ((by first | exact PV.fieldAddr T.fl147_1 rfl (by first | assumption | exact Bx.cells (by assumption)) | exact PV.fieldAddrP T.fl147_1 rfl rfl)) ?_
  refine WL.pure rfl rfl rfl ((by first | exact PV.load0 T.na2 rfl (by first | exact Cells.up (by assumption) hB | exact Bx.cells (by assumption) | assumption) (Ext.refl _) rfl | exact PV.load1 T.na2 rfl (by first | exact Cells.up (by assumption) hB | exact Bx.cells (by assumption) | assumption) (Ext.refl _) rfl)) ?_
  refine WL.pure rfl rfl rfl ((by first | exact PV.fieldAddr T.fl100_1 rfl (by first | assumption | exact Bx.cells (by assumption)) | exact PV.fieldAddrP T.fl100_1 rfl rfl)) ?_
  first
    | refine WL.op rfl (OpK.storeB T.sz2 rfl rfl (by first | rfl | exact Osl.oneCell (by assumption) | exact Osn.oneCell (by assumption) | exact Rd.oneCell (by assumption) | exact Rd.oneCell (NL.rd (by assumption)) | assumption) hb3 rfl (fun w5 hXw5 hb3 => ?_))
    | refine WL.op rfl (OpK.storeB0 T.sz2 rfl rfl (by first | rfl | exact Osl.oneCell (by assumption) | exact Osn.oneCell (by assumption) | exact Rd.oneCell (by assumption) | exact Rd.oneCell (NL.rd (by assumption)) | assumption) hb3 (fun w5 hXw5 hb3 => ?_))
  have hB := hB.updL hXw5 hl3
  have hb1 := hb1.updD hXw5 hd1_3
  have hb2 := hb2.updD hXw5 hd2_3
  refine WL.nilS ?_
  refine CW.seq ?_
  refine CW.reg ?_
  refine WL.pure rfl rfl rfl ((by first | exact PV.fieldAddr T.fl147_2 rfl (by first | assumption | exact Bx.cells (by assumption)) | exact PV.fieldAddrP T.fl147_2 rfl rfl)) ?_
  refine WL.pure rfl rfl rfl ((by first | exact PV.load0 T.na2 rfl (by first | exact Cells.up (by assumption) hB | exact Bx.cells (by assumption) | assumption) (Ext.refl _) rfl | exact PV.load1 T.na2 rfl (by first | exact Cells.up (by assumption) hB | exact Bx.cells (by assumption) | assumption) (Ext.refl _) rfl)) ?_
  refine WL.pure rfl rfl rfl ((by first | exact PV.fieldAddr T.fl100_2 rfl (by first | assumption | exact Bx.cells (by assumption)) | exact PV.fieldAddrP T.fl100_2 rfl rfl)) ?_
  first
    | refine WL.op rfl (OpK.storeB T.sz2 rfl rfl (by first | rfl | exact Osl.oneCell (by assumption) | exact Osn.oneCell (by assumption) | exact Rd.oneCell (by assumption) | exact Rd.oneCell (NL.rd (by assumption)) | assumption) hb3 rfl (fun w6 hXw6 hb3 => ?_))
    | refine WL.op rfl (OpK.storeB0 T.sz2 rfl rfl (by first | rfl | exact Osl.oneCell (by assumption) | exact Osn.oneCell (by assumption) | exact Rd.oneCell (by assumption) | exact Rd.oneCell (NL.rd (by assumption)) | assumption) hb3 (fun w6 hXw6 hb3 => ?_))
  have hB := hB.updL hXw6 hl3
  have hb1 := hb1.updD hXw6 hd1_3
  have hb2 := hb2.updD hXw6 hd2_3
  refine WL.nilS ?_
  refine CW.seq ?_
  refine CW.reg ?_
  refine WL.pure rfl rfl rfl ((by first | exact PV.fieldAddr T.fl147_3 rfl (by first | assumption | exact Bx.cells (by assumption)) | exact PV.fieldAddrP T.fl147_3 rfl rfl)) ?_
  refine WL.pure rfl rfl rfl ((by first | exact PV.load0 T.na2 rfl (by first | exact Cells.up (by assumption) hB | exact Bx.cells (by assumption) | assumption) (Ext.refl _) rfl | exact PV.load1 T.na2 rfl (by first | exact Cells.up (by assumption) hB | exact Bx.cells (by assumption) | assumption) (Ext.refl _) rfl)) ?_
  refine WL.pure rfl rfl rfl ((by first | exact PV.fieldAddr T.fl100_3 rfl (by first | assumption | exact Bx.cells (by assumption)) | exact PV.fieldAddrP T.fl100_3 rfl rfl)) ?_
  first
    | refine WL.op rfl (OpK.storeB T.sz2 rfl rfl (by first | rfl | exact Osl.oneCell (by assumption) | exact Osn.oneCell (by assumption) | exact Rd.oneCell (by assumption) | exact Rd.oneCell (NL.rd (by assumption)) | assumption) hb3 rfl (fun w7 hXw7 hb3 => ?_))
    | refine WL.op rfl (OpK.storeB0 T.sz2 rfl rfl (by first | rfl | exact Osl.oneCell (by assumption) | exact Osn.oneCell (by assumption) | exact Rd.oneCell (by assumption) | exact Rd.oneCell (NL.rd (by assumption)) | assumption) hb3 (fun w7 hXw7 hb3 => ?_))
  have hB := hB.updL hXw7 hl3
  have hb1 := hb1.updD hXw7 hd1_3
  have hb2 := hb2.updD hXw7 hd2_3
  refine WL.nilS ?_
  refine CW.seq ?_
  refine CW.reg ?_
  refine WL.pure rfl rfl rfl ((by first | exact PV.loadA T.ag100 rfl (by first | exact Cells.up (by assumption) hB | exact Bx.cells (by assumption) | assumption) (Ext.refl _) rfl | exact PV.loadP (ds := [_, _, _, _]) T.ag100 rfl (by first | exact Cells.up (by assumption) hB | exact Bx.cells (by assumption) | assumption) (Ext.refl _) rfl rfl)) ?_
  refine WL.op rfl (OpK.storeA T.sz100 rfl rfl rfl rfl (by simp [Value.oneCell'] <;> first | done | (repeat' apply And.intro) <;> first | rfl | exact Osl.oneCell (by assumption) | exact Osn.oneCell (by assumption) | exact Rd.oneCell (by assumption) | exact Rd.oneCell (NL.rd (by assumption)) | assumption) hb2 (fun w8 hXw8 hb2 => ?_))
  have hB := hB.updL hXw8 hl2
  have hb1 := hb1.updD hXw8 hd1_2
  have hb3 := hb3.updD hXw8 (Dj.symm hd2_3)
  refine WL.nilS ?_
  refine CW.ret ?_
  refine RQ.rc0 T.ag100 rfl (by first | exact Cells.up (by assumption) hB | exact Bx.cells (by assumption) | assumption) rfl ?_
  refine ⟨?_, hB⟩
  rfl
theorem c_laws_toRuleS {w : World} {va : Value} {xs : List R4} (ha : Rd ER w va xs) (hN : xs.length ≤ 1048576) : Calls Try.prog 83 #[va] w (Ret1 (fun v w' => Ext w w' ∧ ∃ v1 og_v1, v = v1 ∧ Osn 4 gR w' og_v1 v1 (xs) ∧ Lo w og_v1)) := by
  have hB : Ext w w := Ext.refl w
  have hla := ha.leI
  refine callsOf (vs := [_]) Try.func83 rfl Try.ntmps83 rfl rfl ?_
  refine CW.seq ?_
  refine CW.reg ?_
  refine WL.pure rfl rfl rfl (PV.assign rfl) ?_
  refine WL.nilS ?_
  refine CW.seq ?_
  refine CW.reg ?_
  refine WL.pure rfl rfl rfl (PV.move rfl) ?_
  refine WL.pure rfl rfl rfl ((by first | exact PV.len rfl (by assumption) T.sl49 | exact PV.lenOs rfl (by assumption) T.sl49 | exact PV.len rfl (NL.rd (by assumption)) T.sl49)) ?_
  refine WL.op rfl (OpK.makeN gR ((0, 0, 0, 0)) gR_ok rfl T.sl54 T.zv100 rfl rfl rfl (by constructor <;> omega) (fun v1 g1 w1 hXw1 ho1 hge1 => ?_))
  have hl1 := Lo.new hB hge1
  have hB := hB.trans hXw1
  refine WL.pure rfl rfl rfl (PV.assign rfl) ?_
  refine WL.nilS ?_
  refine CW.seq ?_
  refine CW.seq ?_
  refine CW.reg ?_
  refine WL.pure rfl rfl rfl (PV.assign rfl) ?_
  refine WL.nilS ?_
  refine CW.block ?_
  have hlt1 := ho1.ltO
  refine CW.loop (σk := [(0, _), (3, _)]) (fun ρ wz m => ∃ (k : Nat), ρ = [(4, .int .i64 (k : Nat))] ∧ m = xs.length - k ∧ UpdL [(some g1)] w1 wz ∧ Osn 4 gR wz (some g1) v1 (xs.take k ++ List.replicate (xs.length - k) ((0, 0, 0, 0) : R4)) ∧ (k ≤ xs.length)) (ρ₀ := [(4, _)]) (m₀ := _) ⟨rfl, rfl, rfl, trivial⟩ ⟨0, rfl, rfl, (UpdL.refl _ _), osnE ho1 (by first | rfl | (simp_all; done) | (simp_all; omega)), (by first | omega | rfl | (simp; done) | assumption | (simp_all; done))⟩ ?_
  rintro _ wl1 _ ⟨k, rfl, rfl, hU0, ho1, hk⟩
  have hk0_1 : OkB [(some g1)] w1 (some g1) := OkB.mem (by simp)
  have hB := hB.loop hU0 ⟨hl1, trivial⟩
  have hll : (xs.take k ++ List.replicate (xs.length - k) ((0, 0, 0, 0) : R4)).length = xs.length := (by simp; omega)
  refine CW.seq ?_
  refine CW.seq ?_
  refine CW.reg ?_
  refine WL.pure rfl rfl rfl (PV.move rfl) ?_
  refine WL.pure rfl rfl rfl (PV.move rfl) ?_
  refine WL.pure rfl rfl rfl ((by first | exact PV.len rfl (by assumption) T.sl49 | exact PV.lenOs rfl (by assumption) T.sl49 | exact PV.len rfl (NL.rd (by assumption)) T.sl49)) ?_
  refine WL.pure rfl rfl rfl (PV.lss rfl rfl) ?_
  refine WL.nilS ?_
  refine CW.cond rfl (fun hc1 => ?_) (fun hc1 => ?_)
  · skip
    try simp only [decide_eq_true_eq, decide_eq_false_iff_not, Bool.not_eq_true', Bool.not_eq_false', Bool.not_eq_eq_eq_not, Bool.not_true, Bool.not_false, Int.not_lt, Int.not_le, Classical.not_not, beq_iff_eq, beq_eq_false_iff_ne] at hc1
    refine CW.skipS ?_
    refine CW.seq ?_
    refine CW.block ?_
    refine CW.reg ?_
    refine WL.pure rfl rfl rfl (PV.move rfl) ?_
    refine WL.pure rfl rfl rfl (PV.move rfl) ?_
    refine WL.pure rfl rfl rfl (PV.move rfl) ?_
    refine WL.pure rfl rfl rfl (PV.move rfl) ?_
    first
      | refine WL.at (x := .tmp 16) (y := .tmp 17) (E := ER) ((0, 0, 0, 0)) rfl rfl (by assumption) (by first | omega | (simp; omega) | (simp_all; omega)) (fun p1 csp1 hpp1 hcp1 hq => ?_)
      | refine WL.atZ (x := .tmp 16) (y := .tmp 17) (E := ER) ((0, 0, 0, 0)) rfl rfl (by assumption) (by first | omega | (simp; omega) | (simp_all; omega)) (fun p1 csp1 hpp1 hzp1 hcp1 hq => ?_)
    cases hq
    refine WL.pure rfl rfl rfl ((by first | exact PV.indexAddr hpp1 rfl rfl T.sl49 | exact PV.indexAddr hpp1 rfl (by rw [← hzp1]; rfl) T.sl49)) ?_
    refine WL.pure rfl rfl rfl ((by first | exact PV.loadA T.ag147 rfl (by first | exact Cells.up (by assumption) hB | exact Bx.cells (by assumption) | assumption) (Ext.refl _) rfl | exact PV.loadP (ds := [_, _, _, _]) T.ag147 rfl (by first | exact Cells.up (by assumption) hB | exact Bx.cells (by assumption) | assumption) (Ext.refl _) rfl rfl)) ?_
    refine WL.op rfl (OpK.callR rfl T.cf113 rfl (c_laws_toRule) (fun w2 hXw2 => ?_))
    have hB := hB.trans hXw2
    have ho1 := ho1.up hXw2
    have hU0 := hU0.ext hXw2
    have hrdp2 := ho1.rdR
    first
      | refine WL.at (x := .tmp 14) (y := .tmp 15) (E := ER) ((0, 0, 0, 0)) rfl rfl hrdp2 (by first | omega | (simp; omega) | (simp_all; omega)) (fun p2 csp2 hpp2 hcp2 hq => ?_)
      | refine WL.atZ (x := .tmp 14) (y := .tmp 15) (E := ER) ((0, 0, 0, 0)) rfl rfl hrdp2 (by first | omega | (simp; omega) | (simp_all; omega)) (fun p2 csp2 hpp2 hzp2 hcp2 hq => ?_)
    cases hq
    refine WL.pure rfl rfl rfl ((by first | exact PV.indexAddr hpp2 rfl rfl T.sl54 | exact PV.indexAddr hpp2 rfl (by rw [← hzp2]; rfl) T.sl54)) ?_
    refine WL.op rfl (OpK.storeN (g := gR) _ T.sz100 rfl rfl hpp2 ho1 (fun w3 hXw3 ho1 => ?_))
    have hB := hB.updL hXw3 hl1
    have hU0 := hU0.step hXw3 hk0_1
    refine WL.nil ?_
    refine NQ.block ?_
    refine NQ.then ?_
    refine CW.reg ?_
    refine WL.pure rfl rfl rfl (PV.move rfl) ?_
    refine WL.pure rfl rfl rfl (PV.add rfl rfl (by constructor <;> omega)) ?_
    refine WL.pure rfl rfl rfl (PV.assign rfl) ?_
    refine WL.nil ?_
    refine NQ.next (ρ := [(4, _)]) ⟨rfl, rfl, rfl, trivial⟩ ?_
    exact ⟨_, ⟨k + 1, rfl, rfl, hU0, osnE ho1 (by exact set_fill (by omega) _ _), (by first | omega | assumption | (simp_all; done) | (simp_all; omega))⟩, by omega⟩
  try simp only [decide_eq_true_eq, decide_eq_false_iff_not, Bool.not_eq_true', Bool.not_eq_false', Bool.not_eq_eq_eq_not, Bool.not_true, Bool.not_false, Int.not_lt, Int.not_le, Classical.not_not, beq_iff_eq, beq_eq_false_iff_ne] at hc1
  refine CW.exit ?_
  refine XQ.then ?_
  refine XQ.then ?_
  refine XQ.here ?_
  refine NQ.then ?_
  refine CW.seq ?_
  refine CW.reg ?_
  refine WL.pure rfl rfl rfl (PV.move rfl) ?_
  refine WL.pure rfl rfl rfl (PV.assign rfl) ?_
  refine WL.nilS ?_
  refine CW.ret ?_
  refine RQ.r1 rfl ?_
  refine ⟨hB, v1, (some g1), ?_, osnE ho1 ?_, hl1⟩
  · skip
    rfl
  · skip
    exact fill_done (by omega) _
theorem c_laws_toGrammar {w : World} {a0 : Int} {a1 : Int} {va2 : Value} {xa2 : List R4}  (ha2 : Rd ER w va2 xa2) (hNa2 : xa2.length ≤ 1048576) : Calls Try.prog 40 #[.agg #[.int .i64 a0, .int .i64 a1, va2]] w (Ret1 (fun v w' => Ext w w' ∧ ∃ u2 og_u2, v = .agg #[.int .i64 a0, .int .i64 a1, u2] ∧ Osn 4 gR w' og_u2 u2 (xa2) ∧ Lo w og_u2)) := by
  have hB : Ext w w := Ext.refl w
  have hla2 := ha2.leI
  refine callsOf (vs := [_]) Try.func40 rfl Try.ntmps40 rfl rfl ?_
  refine CW.seq ?_
  refine CW.reg ?_
  refine WL.op rfl (OpK.box rfl rfl (by first | exact Rd.cells1 (by assumption) | exact Osl.cells1 (by assumption) | exact Osn.cells1 (by assumption) | exact Rd.cells1 (NL.rd (by assumption)) | rfl) (fun b1 w1 hXw1 hb1 hge1 => ?_))
  have hl1 := Lo.new hB hge1
  have hB := hB.trans hXw1
  refine WL.op rfl (OpK.alloc rfl T.zv56 rfl (fun b2 w2 hXw2 hb2 hge2 => ?_))
  have hl2 := Lo.new hB hge2
  have hd1_2 := Dj.new hb1.ltO hge2
  have hB := hB.trans hXw2
  have hb1 := hb1.up hXw2
  refine WL.nilS ?_
  refine CW.seq ?_
  refine CW.reg ?_
  refine WL.op rfl (OpK.alloc rfl T.zv56 rfl (fun b3 w3 hXw3 hb3 hge3 => ?_))
  have hl3 := Lo.new hB hge3
  have hd1_3 := Dj.new hb1.ltO hge3
  have hd2_3 := Dj.new hb2.ltO hge3
  have hB := hB.trans hXw3
  have hb1 := hb1.up hXw3
  have hb2 := hb2.up hXw3
  refine WL.nilS ?_
  refine CW.seq ?_
  refine CW.reg ?_
  refine WL.pure rfl rfl rfl ((by first | exact PV.fieldAddr T.fl51_0 rfl (by first | assumption | exact Bx.cells (by assumption)) | exact PV.fieldAddrP T.fl51_0 rfl rfl)) ?_
  refine WL.pure rfl rfl rfl ((by first | exact PV.load0 T.na2 rfl (by first | exact Cells.up (by assumption) hB | exact Bx.cells (by assumption) | assumption) (Ext.refl _) rfl | exact PV.load1 T.na2 rfl (by first | exact Cells.up (by assumption) hB | exact Bx.cells (by assumption) | assumption) (Ext.refl _) rfl)) ?_
  refine WL.pure rfl rfl rfl ((by first | exact PV.fieldAddr T.fl56_0 rfl (by first | assumption | exact Bx.cells (by assumption)) | exact PV.fieldAddrP T.fl56_0 rfl rfl)) ?_
  first
    | refine WL.op rfl (OpK.storeB T.sz2 rfl rfl (by first | rfl | exact Osl.oneCell (by assumption) | exact Osn.oneCell (by assumption) | exact Rd.oneCell (by assumption) | exact Rd.oneCell (NL.rd (by assumption)) | assumption) hb3 rfl (fun w4 hXw4 hb3 => ?_))
    | refine WL.op rfl (OpK.storeB0 T.sz2 rfl rfl (by first | rfl | exact Osl.oneCell (by assumption) | exact Osn.oneCell (by assumption) | exact Rd.oneCell (by assumption) | exact Rd.oneCell (NL.rd (by assumption)) | assumption) hb3 (fun w4 hXw4 hb3 => ?_))
  have hB := hB.updL hXw4 hl3
  have hb1 := hb1.updD hXw4 hd1_3
  have hb2 := hb2.updD hXw4 hd2_3
  refine WL.nilS ?_
  refine CW.seq ?_
  refine CW.reg ?_
  refine WL.pure rfl rfl rfl ((by first | exact PV.fieldAddr T.fl51_1 rfl (by first | assumption | exact Bx.cells (by assumption)) | exact PV.fieldAddrP T.fl51_1 rfl rfl)) ?_
  refine WL.pure rfl rfl rfl ((by first | exact PV.load0 T.na2 rfl (by first | exact Cells.up (by assumption) hB | exact Bx.cells (by assumption) | assumption) (Ext.refl _) rfl | exact PV.load1 T.na2 rfl (by first | exact Cells.up (by assumption) hB | exact Bx.cells (by assumption) | assumption) (Ext.refl _) rfl)) ?_
  refine WL.pure rfl rfl rfl ((by first | exact PV.fieldAddr T.fl56_1 rfl (by first | assumption | exact Bx.cells (by assumption)) | exact PV.fieldAddrP T.fl56_1 rfl rfl)) ?_
  first
    | refine WL.op rfl (OpK.storeB T.sz2 rfl rfl (by first | rfl | exact Osl.oneCell (by assumption) | exact Osn.oneCell (by assumption) | exact Rd.oneCell (by assumption) | exact Rd.oneCell (NL.rd (by assumption)) | assumption) hb3 rfl (fun w5 hXw5 hb3 => ?_))
    | refine WL.op rfl (OpK.storeB0 T.sz2 rfl rfl (by first | rfl | exact Osl.oneCell (by assumption) | exact Osn.oneCell (by assumption) | exact Rd.oneCell (by assumption) | exact Rd.oneCell (NL.rd (by assumption)) | assumption) hb3 (fun w5 hXw5 hb3 => ?_))
  have hB := hB.updL hXw5 hl3
  have hb1 := hb1.updD hXw5 hd1_3
  have hb2 := hb2.updD hXw5 hd2_3
  refine WL.nilS ?_
  refine CW.seq ?_
  refine CW.reg ?_
  refine WL.pure rfl rfl rfl ((by first | exact PV.fieldAddr T.fl51_2 rfl (by first | assumption | exact Bx.cells (by assumption)) | exact PV.fieldAddrP T.fl51_2 rfl rfl)) ?_
  refine WL.pure rfl rfl rfl ((by first | exact PV.load0 T.na49 rfl (by first | exact Cells.up (by assumption) hB | exact Bx.cells (by assumption) | assumption) (Ext.refl _) rfl | exact PV.load1 T.na49 rfl (by first | exact Cells.up (by assumption) hB | exact Bx.cells (by assumption) | assumption) (Ext.refl _) rfl)) ?_
  refine WL.op rfl (OpK.call rfl T.cf83 rfl (c_laws_toRuleS (by first | assumption | exact Rd.up (by assumption) hB | exact Osl.rd (by assumption) | exact Osn.rdR (by assumption) | exact NL.rd (by assumption)) (by first | assumption | omega | (simp only [marks_len, marksB_len, marksR_len]; omega))) (fun rv1 w6 hR => ?_))
  obtain ⟨hXw6, v4, og4, rfl, ho4, hq4⟩ := hR
  have hl4 := Lo.up hq4 hB
  have hd1_4 := Dj.lo hb1.ltO hq4
  have hd2_4 := Dj.lo hb2.ltO hq4
  have hd3_4 := Dj.lo hb3.ltO hq4
  have hB := hB.trans hXw6
  have hb1 := hb1.up hXw6
  have hb2 := hb2.up hXw6
  have hb3 := hb3.up hXw6
  refine WL.pure rfl rfl rfl ((by first | exact PV.fieldAddr T.fl56_2 rfl (by first | assumption | exact Bx.cells (by assumption)) | exact PV.fieldAddrP T.fl56_2 rfl rfl)) ?_
  first
    | refine WL.op rfl (OpK.storeB T.sz54 rfl rfl (by first | rfl | exact Osl.oneCell (by assumption) | exact Osn.oneCell (by assumption) | exact Rd.oneCell (by assumption) | exact Rd.oneCell (NL.rd (by assumption)) | assumption) hb3 rfl (fun w7 hXw7 hb3 => ?_))
    | refine WL.op rfl (OpK.storeB0 T.sz54 rfl rfl (by first | rfl | exact Osl.oneCell (by assumption) | exact Osn.oneCell (by assumption) | exact Rd.oneCell (by assumption) | exact Rd.oneCell (NL.rd (by assumption)) | assumption) hb3 (fun w7 hXw7 hb3 => ?_))
  have hB := hB.updL hXw7 hl3
  have hb1 := hb1.updD hXw7 hd1_3
  have hb2 := hb2.updD hXw7 hd2_3
  have ho4 := ho4.updD hXw7 (Dj.symm hd3_4)
  refine WL.nilS ?_
  refine CW.seq ?_
  refine CW.reg ?_
  refine WL.pure rfl rfl rfl ((by first | exact PV.loadA T.ag56 rfl (by first | exact Cells.up (by assumption) hB | exact Bx.cells (by assumption) | assumption) (Ext.refl _) rfl | exact PV.loadP (ds := [_, _, _]) T.ag56 rfl (by first | exact Cells.up (by assumption) hB | exact Bx.cells (by assumption) | assumption) (Ext.refl _) rfl rfl)) ?_
  refine WL.op rfl (OpK.storeA T.sz56 rfl rfl rfl rfl (by simp [Value.oneCell'] <;> first | done | (repeat' apply And.intro) <;> first | rfl | exact Osl.oneCell (by assumption) | exact Osn.oneCell (by assumption) | exact Rd.oneCell (by assumption) | exact Rd.oneCell (NL.rd (by assumption)) | assumption) hb2 (fun w8 hXw8 hb2 => ?_))
  have hB := hB.updL hXw8 hl2
  have hb1 := hb1.updD hXw8 hd1_2
  have hb3 := hb3.updD hXw8 (Dj.symm hd2_3)
  have ho4 := ho4.updD hXw8 (Dj.symm hd2_4)
  refine WL.nilS ?_
  refine CW.ret ?_
  refine RQ.rc0 T.ag56 rfl (by first | exact Cells.up (by assumption) hB | exact Bx.cells (by assumption) | assumption) rfl ?_
  refine ⟨hB, rv1, og4, ?_, osnE ho4 ?_, hl4⟩
  · skip
    rfl
  · skip
    rfl
theorem c_laws_toInt64S {w : World} {va : Value} {xs : List Int} (ha : Rd EI w va xs) (hN : xs.length ≤ 1048576) : Calls Try.prog 16 #[va] w (Ret1 (fun v w' => Ext w w' ∧ ∃ v1 og_v1, v = v1 ∧ Osl VI w' og_v1 v1 (xs) ∧ Lo w og_v1)) := by
  have hB : Ext w w := Ext.refl w
  have hla := ha.leI
  refine callsOf (vs := [_]) Try.func16 rfl Try.ntmps16 rfl rfl ?_
  refine CW.seq ?_
  refine CW.reg ?_
  refine WL.pure rfl rfl rfl (PV.assign rfl) ?_
  refine WL.nilS ?_
  refine CW.seq ?_
  refine CW.reg ?_
  refine WL.pure rfl rfl rfl (PV.move rfl) ?_
  refine WL.pure rfl rfl rfl ((by first | exact PV.len rfl (by assumption) T.sl22 | exact PV.lenOs rfl (by assumption) T.sl22 | exact PV.len rfl (NL.rd (by assumption)) T.sl22)) ?_
  first
    | refine WL.op rfl (OpK.makeS VI (0) rfl T.sl22 T.zv2 rfl rfl rfl (by constructor <;> omega) (fun v1 g1 w1 hXw1 ho1 hge1 => ?_))
    | refine WL.op rfl (OpK.makeSZ VI (0) rfl T.sl22 T.zv2 rfl rfl rfl (by omega) (by constructor <;> omega) (fun v1 g1 w1 hXw1 ho1 hge1 => ?_))
  have hl1 := Lo.new hB hge1
  have hB := hB.trans hXw1
  refine WL.pure rfl rfl rfl (PV.assign rfl) ?_
  refine WL.nilS ?_
  refine CW.seq ?_
  refine CW.seq ?_
  refine CW.reg ?_
  refine WL.pure rfl rfl rfl (PV.assign rfl) ?_
  refine WL.nilS ?_
  refine CW.block ?_
  have hlt1 := ho1.ltO
  refine CW.loop (σk := [(0, _), (3, _)]) (fun ρ wz m => ∃ (k : Nat), ρ = [(4, .int .i64 (k : Nat))] ∧ m = xs.length - k ∧ UpdL [(some g1)] w1 wz ∧ Osl VI wz (some g1) v1 (xs.take k ++ List.replicate (xs.length - k) (0 : Int)) ∧ (k ≤ xs.length)) (ρ₀ := [(4, _)]) (m₀ := _) ⟨rfl, rfl, rfl, trivial⟩ ⟨0, rfl, rfl, (UpdL.refl _ _), osE ho1 (by first | rfl | (simp_all; done) | (simp_all; omega)), (by first | omega | rfl | (simp; done) | assumption | (simp_all; done))⟩ ?_
  rintro _ wl1 _ ⟨k, rfl, rfl, hU0, ho1, hk⟩
  have hk0_1 : OkB [(some g1)] w1 (some g1) := OkB.mem (by simp)
  have hB := hB.loop hU0 ⟨hl1, trivial⟩
  refine CW.seq ?_
  refine CW.seq ?_
  refine CW.reg ?_
  refine WL.pure rfl rfl rfl (PV.move rfl) ?_
  refine WL.pure rfl rfl rfl (PV.move rfl) ?_
  refine WL.pure rfl rfl rfl ((by first | exact PV.len rfl (by assumption) T.sl22 | exact PV.lenOs rfl (by assumption) T.sl22 | exact PV.len rfl (NL.rd (by assumption)) T.sl22)) ?_
  refine WL.pure rfl rfl rfl (PV.lss rfl rfl) ?_
  refine WL.nilS ?_
  refine CW.cond rfl (fun hc1 => ?_) (fun hc1 => ?_)
  · skip
    try simp only [decide_eq_true_eq, decide_eq_false_iff_not, Bool.not_eq_true', Bool.not_eq_false', Bool.not_eq_eq_eq_not, Bool.not_true, Bool.not_false, Int.not_lt, Int.not_le, Classical.not_not, beq_iff_eq, beq_eq_false_iff_ne] at hc1
    refine CW.skipS ?_
    refine CW.seq ?_
    refine CW.block ?_
    refine CW.reg ?_
    refine WL.pure rfl rfl rfl (PV.move rfl) ?_
    refine WL.pure rfl rfl rfl (PV.move rfl) ?_
    refine WL.pure rfl rfl rfl (PV.move rfl) ?_
    refine WL.pure rfl rfl rfl (PV.move rfl) ?_
    first
      | refine WL.at (x := .tmp 16) (y := .tmp 17) (E := EI) (0) rfl rfl (by assumption) (by first | omega | (simp; omega) | (simp_all; omega)) (fun p1 csp1 hpp1 hcp1 hq => ?_)
      | refine WL.atZ (x := .tmp 16) (y := .tmp 17) (E := EI) (0) rfl rfl (by assumption) (by first | omega | (simp; omega) | (simp_all; omega)) (fun p1 csp1 hpp1 hzp1 hcp1 hq => ?_)
    cases hq
    refine WL.pure rfl rfl rfl ((by first | exact PV.indexAddr hpp1 rfl rfl T.sl22 | exact PV.indexAddr hpp1 rfl (by rw [← hzp1]; rfl) T.sl22)) ?_
    refine WL.pure rfl rfl rfl ((by first | exact PV.load0 T.na2 rfl (by first | exact Cells.up (by assumption) hB | exact Bx.cells (by assumption) | assumption) (Ext.refl _) rfl | exact PV.load1 T.na2 rfl (by first | exact Cells.up (by assumption) hB | exact Bx.cells (by assumption) | assumption) (Ext.refl _) rfl)) ?_
    first
      | refine WL.atO (x := .tmp 14) (y := .tmp 15) (f := VI) (0) rfl rfl ho1 (by first | omega | (simp; omega) | (simp_all; omega)) (fun p2 hpp2 hcp2 => ?_)
      | refine WL.atOZ (x := .tmp 14) (y := .tmp 15) (f := VI) (0) rfl rfl ho1 (by first | omega | (simp; omega) | (simp_all; omega)) (fun p2 hpp2 hzp2 hcp2 => ?_)
    refine WL.pure rfl rfl rfl ((by first | exact PV.indexAddr hpp2 rfl rfl T.sl22 | exact PV.indexAddr hpp2 rfl (by rw [← hzp2]; rfl) T.sl22)) ?_
    refine WL.op rfl (OpK.storeS VI T.sz2 rfl rfl rfl hpp2 ho1 (fun w2 hXw2 ho1 => ?_))
    have hB := hB.updL hXw2 hl1
    have hU0 := hU0.step hXw2 hk0_1
    refine WL.nil ?_
    refine NQ.block ?_
    refine NQ.then ?_
    refine CW.reg ?_
    refine WL.pure rfl rfl rfl (PV.move rfl) ?_
    refine WL.pure rfl rfl rfl (PV.add rfl rfl (by constructor <;> omega)) ?_
    refine WL.pure rfl rfl rfl (PV.assign rfl) ?_
    refine WL.nil ?_
    refine NQ.next (ρ := [(4, _)]) ⟨rfl, rfl, rfl, trivial⟩ ?_
    exact ⟨_, ⟨k + 1, rfl, rfl, hU0, osE ho1 (by exact set_fill (by omega) _ _), (by first | omega | assumption | (simp_all; done) | (simp_all; omega))⟩, by omega⟩
  try simp only [decide_eq_true_eq, decide_eq_false_iff_not, Bool.not_eq_true', Bool.not_eq_false', Bool.not_eq_eq_eq_not, Bool.not_true, Bool.not_false, Int.not_lt, Int.not_le, Classical.not_not, beq_iff_eq, beq_eq_false_iff_ne] at hc1
  refine CW.exit ?_
  refine XQ.then ?_
  refine XQ.then ?_
  refine XQ.here ?_
  refine NQ.then ?_
  refine CW.seq ?_
  refine CW.reg ?_
  refine WL.pure rfl rfl rfl (PV.move rfl) ?_
  refine WL.pure rfl rfl rfl (PV.assign rfl) ?_
  refine WL.nilS ?_
  refine CW.ret ?_
  refine RQ.r1 rfl ?_
  refine ⟨hB, v1, (some g1), ?_, osE ho1 ?_, hl1⟩
  · skip
    rfl
  · skip
    exact fill_done (by omega) _
theorem c_spec_l00In {w : World} {n lo hi : Int} : Calls Try.prog 72 #[.int .i64 n, .int .i64 lo, .int .i64 hi] w (Ret1 (RQt (.bool (decide (lo ≤ n ∧ n ≤ hi))) w)) := by
  have hB : Ext w w := Ext.refl w
  refine callsOf (vs := [_, _, _]) Try.func72 rfl Try.ntmps72 rfl rfl ?_
  refine CW.seq ?_
  refine CW.reg ?_
  refine WL.pure rfl rfl rfl (PV.assign rfl) ?_
  refine WL.nilS ?_
  refine CW.seq ?_
  refine CW.reg ?_
  refine WL.pure rfl rfl rfl (PV.move rfl) ?_
  refine WL.pure rfl rfl rfl (PV.move rfl) ?_
  refine WL.pure rfl rfl rfl (PV.geq rfl rfl) ?_
  refine WL.pure rfl rfl rfl (PV.move rfl) ?_
  refine WL.split (t := 10) rfl (fun hc1 => ?_) (fun hc1 => ?_)
  rotate_left
  · skip
    try simp only [decide_eq_true_eq, decide_eq_false_iff_not, Bool.not_eq_true', Bool.not_eq_false', Bool.not_eq_eq_eq_not, Bool.not_true, Bool.not_false, Int.not_lt, Int.not_le, Classical.not_not, beq_iff_eq, beq_eq_false_iff_ne] at hc1
    refine WL.skip rfl rfl rfl rfl rfl ?_
    refine WL.skip rfl rfl rfl rfl rfl ?_
    refine WL.skip rfl rfl rfl rfl rfl ?_
    refine WL.pure rfl rfl rfl (PV.pickF rfl rfl) ?_
    refine WL.pure rfl rfl rfl (PV.assign rfl) ?_
    refine WL.nilS ?_
    refine CW.ret ?_
    refine RQ.r1 rfl ?_
    refine ⟨?_, hB⟩
    first | rfl | exact bT (by omega) | exact bF (by omega) | exact bD (by omega) | exact iE (by omega) | (simp_all; done) | (simp_all; omega) | (simp_all; intros; omega)
  try simp only [decide_eq_true_eq, decide_eq_false_iff_not, Bool.not_eq_true', Bool.not_eq_false', Bool.not_eq_eq_eq_not, Bool.not_true, Bool.not_false, Int.not_lt, Int.not_le, Classical.not_not, beq_iff_eq, beq_eq_false_iff_ne] at hc1
  refine WL.pureG rfl rfl rfl rfl rfl (PV.move rfl) ?_
  refine WL.pureG rfl rfl rfl rfl rfl (PV.move rfl) ?_
  refine WL.pureG rfl rfl rfl rfl rfl (PV.leq rfl rfl) ?_
  refine WL.pure rfl rfl rfl (PV.pickT rfl rfl) ?_
  refine WL.pure rfl rfl rfl (PV.assign rfl) ?_
  refine WL.nilS ?_
  refine CW.ret ?_
  refine RQ.r1 rfl ?_
  refine ⟨?_, hB⟩
  first | rfl | exact bT (by omega) | exact bF (by omega) | exact bD (by omega) | exact iE (by omega) | (simp_all; done) | (simp_all; omega) | (simp_all; intros; omega)
theorem c_spec_l06Is {w : World} {pa : Addr} {a0 : Int} {a1 : Int} {va2 : Value} {xa2 : List R4}  (hba : Cells w pa [.int .i64 a0, .int .i64 a1, va2]) (ha2 : Rd ER w va2 xa2) : Calls Try.prog 88 #[.pointer (some pa)] w (Ret1 (RQt (.bool (decide (gramV a0 a1 xa2))) w)) := by
  have hB : Ext w w := Ext.refl w
  have hla2 := ha2.leI
  refine callsOf (vs := [_]) Try.func88 rfl Try.ntmps88 rfl rfl ?_
  refine CW.seq ?_
  refine CW.reg ?_
  refine WL.pure rfl rfl rfl (PV.assign rfl) ?_
  refine WL.nilS ?_
  refine CW.seq ?_
  refine CW.seq ?_
  refine CW.reg ?_
  refine WL.pure rfl rfl rfl (PV.move rfl) ?_
  refine WL.pure rfl rfl rfl (PV.nilCheck rfl) ?_
  refine WL.pure rfl rfl rfl ((by first | exact PV.fieldAddr T.fl56_0 rfl (by first | assumption | exact Bx.cells (by assumption)) | exact PV.fieldAddrP T.fl56_0 rfl rfl)) ?_
  refine WL.pure rfl rfl rfl ((by first | exact PV.load0 T.na2 rfl (by first | exact Cells.up (by assumption) hB | exact Bx.cells (by assumption) | assumption) (Ext.refl _) rfl | exact PV.load1 T.na2 rfl (by first | exact Cells.up (by assumption) hB | exact Bx.cells (by assumption) | assumption) (Ext.refl _) rfl)) ?_
  refine WL.op rfl (OpK.callR rfl T.cf72 rfl (c_spec_l00In) (fun w1 hXw1 => ?_))
  have hB := hB.trans hXw1
  refine WL.pure rfl rfl rfl (PV.not rfl) ?_
  refine WL.pure rfl rfl rfl (PV.move rfl) ?_
  refine WL.split (t := 11) rfl (fun hc1 => ?_) (fun hc1 => ?_)
  · skip
    try simp only [decide_eq_true_eq, decide_eq_false_iff_not, Bool.not_eq_true', Bool.not_eq_false', Bool.not_eq_eq_eq_not, Bool.not_true, Bool.not_false, Int.not_lt, Int.not_le, Classical.not_not, beq_iff_eq, beq_eq_false_iff_ne] at hc1
    refine WL.skip rfl rfl rfl rfl rfl ?_
    refine WL.skip rfl rfl rfl rfl rfl ?_
    refine WL.skip rfl rfl rfl rfl rfl ?_
    refine WL.skip rfl rfl rfl rfl rfl ?_
    refine WL.skip rfl rfl rfl rfl rfl ?_
    refine WL.skip rfl rfl rfl rfl rfl ?_
    refine WL.pure rfl rfl rfl (PV.pickT rfl rfl) ?_
    refine WL.pure rfl rfl rfl (PV.move rfl) ?_
    refine WL.skip rfl rfl rfl rfl rfl ?_
    refine WL.skip rfl rfl rfl rfl rfl ?_
    refine WL.skip rfl rfl rfl rfl rfl ?_
    refine WL.skip rfl rfl rfl rfl rfl ?_
    refine WL.skip rfl rfl rfl rfl rfl ?_
    refine WL.skip rfl rfl rfl rfl rfl ?_
    refine WL.pure rfl rfl rfl (PV.pickT rfl rfl) ?_
    refine WL.nilS ?_
    refine CW.condT rfl ?_
    refine CW.seq ?_
    refine CW.reg ?_
    refine WL.pure rfl rfl rfl (PV.assign rfl) ?_
    refine WL.nilS ?_
    refine CW.ret ?_
    refine RQ.then ?_
    refine RQ.r1 rfl ?_
    refine ⟨?_, hB⟩
    exact bF (by rintro ⟨h1, h2, h3, h4⟩; first | omega | (have h5 := h4 k (by omega); simp only [okR] at h5; omega))
  try simp only [decide_eq_true_eq, decide_eq_false_iff_not, Bool.not_eq_true', Bool.not_eq_false', Bool.not_eq_eq_eq_not, Bool.not_true, Bool.not_false, Int.not_lt, Int.not_le, Classical.not_not, beq_iff_eq, beq_eq_false_iff_ne] at hc1
  refine WL.pureG rfl rfl rfl rfl rfl (PV.move rfl) ?_
  refine WL.pureG rfl rfl rfl rfl rfl (PV.nilCheck rfl) ?_
  refine WL.pureG rfl rfl rfl rfl rfl ((by first | exact PV.fieldAddr T.fl56_1 rfl (by first | assumption | exact Bx.cells (by assumption)) | exact PV.fieldAddrP T.fl56_1 rfl rfl)) ?_
  refine WL.pureG rfl rfl rfl rfl rfl ((by first | exact PV.load0 T.na2 rfl (by first | exact Cells.up (by assumption) hB | exact Bx.cells (by assumption) | assumption) (Ext.refl _) rfl | exact PV.load1 T.na2 rfl (by first | exact Cells.up (by assumption) hB | exact Bx.cells (by assumption) | assumption) (Ext.refl _) rfl)) ?_
  refine WL.opG rfl rfl rfl (OpK.callR rfl T.cf72 rfl (c_spec_l00In) (fun w2 hXw2 => ?_))
  have hB := hB.trans hXw2
  refine WL.pureG rfl rfl rfl rfl rfl (PV.not rfl) ?_
  refine WL.pure rfl rfl rfl (PV.pickF rfl rfl) ?_
  refine WL.pure rfl rfl rfl (PV.move rfl) ?_
  refine WL.split (t := 19) rfl (fun hc2 => ?_) (fun hc2 => ?_)
  · skip
    try simp only [decide_eq_true_eq, decide_eq_false_iff_not, Bool.not_eq_true', Bool.not_eq_false', Bool.not_eq_eq_eq_not, Bool.not_true, Bool.not_false, Int.not_lt, Int.not_le, Classical.not_not, beq_iff_eq, beq_eq_false_iff_ne] at hc2
    refine WL.skip rfl rfl rfl rfl rfl ?_
    refine WL.skip rfl rfl rfl rfl rfl ?_
    refine WL.skip rfl rfl rfl rfl rfl ?_
    refine WL.skip rfl rfl rfl rfl rfl ?_
    refine WL.skip rfl rfl rfl rfl rfl ?_
    refine WL.skip rfl rfl rfl rfl rfl ?_
    refine WL.pure rfl rfl rfl (PV.pickT rfl rfl) ?_
    refine WL.nilS ?_
    refine CW.condT rfl ?_
    refine CW.seq ?_
    refine CW.reg ?_
    refine WL.pure rfl rfl rfl (PV.assign rfl) ?_
    refine WL.nilS ?_
    refine CW.ret ?_
    refine RQ.then ?_
    refine RQ.r1 rfl ?_
    refine ⟨?_, hB⟩
    exact bF (by rintro ⟨h1, h2, h3, h4⟩; first | omega | (have h5 := h4 k (by omega); simp only [okR] at h5; omega))
  try simp only [decide_eq_true_eq, decide_eq_false_iff_not, Bool.not_eq_true', Bool.not_eq_false', Bool.not_eq_eq_eq_not, Bool.not_true, Bool.not_false, Int.not_lt, Int.not_le, Classical.not_not, beq_iff_eq, beq_eq_false_iff_ne] at hc2
  refine WL.pureG rfl rfl rfl rfl rfl (PV.move rfl) ?_
  refine WL.pureG rfl rfl rfl rfl rfl (PV.nilCheck rfl) ?_
  refine WL.pureG rfl rfl rfl rfl rfl ((by first | exact PV.fieldAddr T.fl56_2 rfl (by first | assumption | exact Bx.cells (by assumption)) | exact PV.fieldAddrP T.fl56_2 rfl rfl)) ?_
  refine WL.pureG rfl rfl rfl rfl rfl ((by first | exact PV.load0 T.na54 rfl (by first | exact Cells.up (by assumption) hB | exact Bx.cells (by assumption) | assumption) (Ext.refl _) rfl | exact PV.load1 T.na54 rfl (by first | exact Cells.up (by assumption) hB | exact Bx.cells (by assumption) | assumption) (Ext.refl _) rfl)) ?_
  refine WL.pureG rfl rfl rfl rfl rfl ((by first | exact PV.len rfl (by assumption) T.sl54 | exact PV.lenOs rfl (by assumption) T.sl54 | exact PV.len rfl (NL.rd (by assumption)) T.sl54)) ?_
  refine WL.pureG rfl rfl rfl rfl rfl (PV.gtr rfl rfl) ?_
  refine WL.pure rfl rfl rfl (PV.pickF rfl rfl) ?_
  refine WL.nilS ?_
  refine CW.cond rfl (fun hc3 => ?_) (fun hc3 => ?_)
  · skip
    try simp only [decide_eq_true_eq, decide_eq_false_iff_not, Bool.not_eq_true', Bool.not_eq_false', Bool.not_eq_eq_eq_not, Bool.not_true, Bool.not_false, Int.not_lt, Int.not_le, Classical.not_not, beq_iff_eq, beq_eq_false_iff_ne] at hc3
    refine CW.seq ?_
    refine CW.reg ?_
    refine WL.pure rfl rfl rfl (PV.assign rfl) ?_
    refine WL.nilS ?_
    refine CW.ret ?_
    refine RQ.then ?_
    refine RQ.r1 rfl ?_
    refine ⟨?_, hB⟩
    exact bF (by rintro ⟨h1, h2, h3, h4⟩; first | omega | (have h5 := h4 k (by omega); simp only [okR] at h5; omega))
  try simp only [decide_eq_true_eq, decide_eq_false_iff_not, Bool.not_eq_true', Bool.not_eq_false', Bool.not_eq_eq_eq_not, Bool.not_true, Bool.not_false, Int.not_lt, Int.not_le, Classical.not_not, beq_iff_eq, beq_eq_false_iff_ne] at hc3
  refine CW.skipS ?_
  refine CW.seq ?_
  refine CW.seq ?_
  refine CW.reg ?_
  refine WL.pure rfl rfl rfl (PV.assign rfl) ?_
  refine WL.nilS ?_
  refine CW.block ?_
  refine CW.loop (σk := [(0, _)]) (fun ρ wz m => ∃ (k : Nat), ρ = [(3, .int .i64 (k : Nat))] ∧ m = xa2.length - k ∧ UpdL [] w2 wz ∧ (k ≤ xa2.length) ∧ (∀ q : Nat, q < k → okR a0 a1 (xa2.getD q (0, 0, 0, 0)))) (ρ₀ := [(3, _)]) (m₀ := _) ⟨rfl, rfl, trivial⟩ ⟨0, rfl, rfl, (UpdL.refl _ _), (by first | omega | rfl | (simp; done) | assumption | (simp_all; done)), (by intro q h1; exact absurd h1 (by omega))⟩ ?_
  rintro _ wl1 _ ⟨k, rfl, rfl, hU0, hk, hq⟩
  have hB := hB.loop hU0 trivial
  refine CW.seq ?_
  refine CW.seq ?_
  refine CW.reg ?_
  refine WL.pure rfl rfl rfl (PV.move rfl) ?_
  refine WL.pure rfl rfl rfl (PV.move rfl) ?_
  refine WL.pure rfl rfl rfl (PV.nilCheck rfl) ?_
  refine WL.pure rfl rfl rfl ((by first | exact PV.fieldAddr T.fl56_2 rfl (by first | assumption | exact Bx.cells (by assumption)) | exact PV.fieldAddrP T.fl56_2 rfl rfl)) ?_
  refine WL.pure rfl rfl rfl ((by first | exact PV.load0 T.na54 rfl (by first | exact Cells.up (by assumption) hB | exact Bx.cells (by assumption) | assumption) (Ext.refl _) rfl | exact PV.load1 T.na54 rfl (by first | exact Cells.up (by assumption) hB | exact Bx.cells (by assumption) | assumption) (Ext.refl _) rfl)) ?_
  refine WL.pure rfl rfl rfl ((by first | exact PV.len rfl (by assumption) T.sl54 | exact PV.lenOs rfl (by assumption) T.sl54 | exact PV.len rfl (NL.rd (by assumption)) T.sl54)) ?_
  refine WL.pure rfl rfl rfl (PV.lss rfl rfl) ?_
  refine WL.nilS ?_
  refine CW.cond rfl (fun hc4 => ?_) (fun hc4 => ?_)
  · skip
    try simp only [decide_eq_true_eq, decide_eq_false_iff_not, Bool.not_eq_true', Bool.not_eq_false', Bool.not_eq_eq_eq_not, Bool.not_true, Bool.not_false, Int.not_lt, Int.not_le, Classical.not_not, beq_iff_eq, beq_eq_false_iff_ne] at hc4
    refine CW.skipS ?_
    refine CW.seq ?_
    refine CW.block ?_
    refine CW.seq ?_
    refine CW.reg ?_
    refine WL.pure rfl rfl rfl (PV.move rfl) ?_
    refine WL.pure rfl rfl rfl (PV.nilCheck rfl) ?_
    refine WL.pure rfl rfl rfl ((by first | exact PV.fieldAddr T.fl56_2 rfl (by first | assumption | exact Bx.cells (by assumption)) | exact PV.fieldAddrP T.fl56_2 rfl rfl)) ?_
    refine WL.pure rfl rfl rfl ((by first | exact PV.load0 T.na54 rfl (by first | exact Cells.up (by assumption) hB | exact Bx.cells (by assumption) | assumption) (Ext.refl _) rfl | exact PV.load1 T.na54 rfl (by first | exact Cells.up (by assumption) hB | exact Bx.cells (by assumption) | assumption) (Ext.refl _) rfl)) ?_
    refine WL.pure rfl rfl rfl (PV.move rfl) ?_
    first
      | refine WL.at (x := .tmp 39) (y := .tmp 40) (E := ER) ((0, 0, 0, 0)) rfl rfl (by assumption) (by first | omega | (simp; omega) | (simp_all; omega)) (fun p1 csp1 hpp1 hcp1 hq => ?_)
      | refine WL.atZ (x := .tmp 39) (y := .tmp 40) (E := ER) ((0, 0, 0, 0)) rfl rfl (by assumption) (by first | omega | (simp; omega) | (simp_all; omega)) (fun p1 csp1 hpp1 hzp1 hcp1 hq => ?_)
    cases hq
    refine WL.pure rfl rfl rfl ((by first | exact PV.indexAddr hpp1 rfl rfl T.sl54 | exact PV.indexAddr hpp1 rfl (by rw [← hzp1]; rfl) T.sl54)) ?_
    refine WL.pure rfl rfl rfl ((by first | exact PV.loadA T.ag100 rfl (by first | exact Cells.up (by assumption) hB | exact Bx.cells (by assumption) | assumption) (Ext.refl _) rfl | exact PV.loadP (ds := [_, _, _, _]) T.ag100 rfl (by first | exact Cells.up (by assumption) hB | exact Bx.cells (by assumption) | assumption) (Ext.refl _) rfl rfl)) ?_
    refine WL.op rfl (OpK.alloc rfl T.zv100 rfl (fun b1 w3 hXw3 hb1 hge1 => ?_))
    have hl1 := Lo.new hB hge1
    have hk0_1 := OkN.new hU0 hge1
    have hg0_1 := OgR.new hU0.size hge1
    have hB := hB.trans hXw3
    have hU0 := hU0.ext hXw3
    refine WL.op rfl (OpK.storeA T.sz100 rfl rfl rfl rfl (by simp [Value.oneCell'] <;> first | done | (repeat' apply And.intro) <;> first | rfl | exact Osl.oneCell (by assumption) | exact Osn.oneCell (by assumption) | exact Rd.oneCell (by assumption) | exact Rd.oneCell (NL.rd (by assumption)) | assumption) hb1 (fun w4 hXw4 hb1 => ?_))
    have hB := hB.updL hXw4 hl1
    have hU0 := hU0.step hXw4 hk0_1
    refine WL.nilS ?_
    refine CW.seq ?_
    refine CW.seq ?_
    refine CW.draw T.mixed (by kernel_rfl) (fun _ _ _ _ _ h => h) (fun w8 w9 => Upd none w8 w9) 26 (.take 0 (.take 1 (.take 2 (.take 3 (.take 4 (.take 5 (.take 6 (.must 7 (.take 8 (.take 9 (.split (.take 10 (.take 11 (.take 12 (.take 13 (.take 14 (.take 15 (.take 16 (.take 17 (.take 18 (.take 19 (.take 20 (.take 21 (.take 22 (.take 23 (.take 24 (.take 25 .done)))))))))))))))) (.take 10 (.take 11 (.take 12 (.take 13 (.take 14 (.take 15 (.take 16 (.must 17 (.take 18 (.take 19 (.take 20 (.split (.take 21 (.take 22 (.take 23 (.take 24 (.take 25 .done))))) (.take 21 (.take 22 (.must 23 (.take 24 (.take 25 .done)))))))))))))))))))))))))))) (by kernel_rfl) (fun w5 hXd => ?_)
    have hB := hB.trans hXd
    have hb1 := hb1.up hXd
    have hU0 := hU0.ext hXd
    have hBr := hB
    have hS : Upd none w5 w5 := Ext.toUpd (Ext.refl _)
    refine HP.take rfl rfl rfl rfl hS (fun wS hS1 => (by first | exact PV.fieldAddr T.fl100_0 rfl (by first | assumption | exact Bx.cells (by assumption)) | exact PV.fieldAddrP T.fl100_0 rfl rfl)) ?_
    refine HP.take rfl rfl rfl rfl hS (fun wS hS1 => (by first | exact PV.load0 T.na2 rfl (by first | exact Cells.up (by assumption) (hBr.trans hS1) | exact Bx.cells (Bx.updD (by assumption) hS1 (Dj.nlR _)) | exact Cells.upd (by assumption) hS1 (by simp)) (Ext.refl _) rfl | exact PV.load1 T.na2 rfl (by first | exact Cells.up (by assumption) (hBr.trans hS1) | exact Bx.cells (Bx.updD (by assumption) hS1 (Dj.nlR _)) | exact Cells.upd (by assumption) hS1 (by simp)) (Ext.refl _) rfl)) ?_
    refine HP.take rfl rfl rfl rfl hS (fun wS hS1 => PV.move rfl) ?_
    refine HP.take rfl rfl rfl rfl hS (fun wS hS1 => PV.nilCheck rfl) ?_
    refine HP.take rfl rfl rfl rfl hS (fun wS hS1 => (by first | exact PV.fieldAddr T.fl56_0 rfl (by first | assumption | exact Bx.cells (by assumption)) | exact PV.fieldAddrP T.fl56_0 rfl rfl)) ?_
    refine HP.take rfl rfl rfl rfl hS (fun wS hS1 => (by first | exact PV.load0 T.na2 rfl (by first | exact Cells.up (by assumption) (hBr.trans hS1) | exact Bx.cells (Bx.updD (by assumption) hS1 (Dj.nlR _)) | exact Cells.upd (by assumption) hS1 (by simp)) (Ext.refl _) rfl | exact PV.load1 T.na2 rfl (by first | exact Cells.up (by assumption) (hBr.trans hS1) | exact Bx.cells (Bx.updD (by assumption) hS1 (Dj.nlR _)) | exact Cells.upd (by assumption) hS1 (by simp)) (Ext.refl _) rfl)) ?_
    refine HP.take rfl rfl rfl rfl hS (fun wS hS1 => PV.sub rfl rfl (by constructor <;> omega)) ?_
    refine HP.must rfl rfl (OpK.callR rfl T.cf72 rfl (c_spec_l00In) (fun w6 hXw6 => ?_))
    refine ⟨Upd.trans hS hXw6, ?_⟩
    have hS := Upd.trans hS hXw6
    have hB := hB.trans hXw6
    have hb1 := hb1.up hXw6
    have hU0 := hU0.ext hXw6
    refine HP.take rfl rfl rfl rfl hS (fun wS hS1 => PV.not rfl) ?_
    refine HP.take rfl rfl rfl rfl hS (fun wS hS1 => PV.move rfl) ?_
    refine HP.split (t := 52) rfl (fun hc5 => ?_) (fun hc5 => ?_)
    · skip
      try simp only [decide_eq_true_eq, decide_eq_false_iff_not, Bool.not_eq_true', Bool.not_eq_false', Bool.not_eq_eq_eq_not, Bool.not_true, Bool.not_false, Int.not_lt, Int.not_le, Classical.not_not, beq_iff_eq, beq_eq_false_iff_ne] at hc5
      refine HP.skip rfl rfl rfl rfl rfl rfl hS ?_
      refine HP.skip rfl rfl rfl rfl rfl rfl hS ?_
      refine HP.skip rfl rfl rfl rfl rfl rfl hS ?_
      refine HP.skip rfl rfl rfl rfl rfl rfl hS ?_
      refine HP.skip rfl rfl rfl rfl rfl rfl hS ?_
      refine HP.skip rfl rfl rfl rfl rfl rfl hS ?_
      refine HP.skip rfl rfl rfl rfl rfl rfl hS ?_
      refine HP.skip rfl rfl rfl rfl rfl rfl hS ?_
      refine HP.skip rfl rfl rfl rfl rfl rfl hS ?_
      refine HP.take rfl rfl rfl rfl hS (fun wS hS1 => PV.pickT rfl rfl) ?_
      refine HP.take rfl rfl rfl rfl hS (fun wS hS1 => PV.move rfl) ?_
      refine HP.skip rfl rfl rfl rfl rfl rfl hS ?_
      refine HP.skip rfl rfl rfl rfl rfl rfl hS ?_
      refine HP.skip rfl rfl rfl rfl rfl rfl hS ?_
      refine HP.skip rfl rfl rfl rfl rfl rfl hS ?_
      refine HP.take rfl rfl rfl rfl hS (fun wS hS1 => PV.pickT rfl rfl) ?_
      refine HP.doneS ?_
      refine CW.condT rfl ?_
      refine CW.seq ?_
      refine CW.reg ?_
      refine WL.pure rfl rfl rfl (PV.assign rfl) ?_
      refine WL.nilS ?_
      refine CW.ret ?_
      refine RQ.then ?_
      refine RQ.block ?_
      refine RQ.then ?_
      refine RQ.then ?_
      refine RQ.block ?_
      refine RQ.then ?_
      refine RQ.r1 rfl ?_
      refine ⟨?_, hB⟩
      exact bF (by rintro ⟨h1, h2, h3, h4⟩; first | omega | (have h5 := h4 k (by omega); simp only [okR] at h5; omega))
    try simp only [decide_eq_true_eq, decide_eq_false_iff_not, Bool.not_eq_true', Bool.not_eq_false', Bool.not_eq_eq_eq_not, Bool.not_true, Bool.not_false, Int.not_lt, Int.not_le, Classical.not_not, beq_iff_eq, beq_eq_false_iff_ne] at hc5
    refine HP.takeG rfl rfl rfl rfl rfl rfl hS (fun wS hS1 => (by first | exact PV.fieldAddr T.fl100_2 rfl (by first | assumption | exact Bx.cells (by assumption)) | exact PV.fieldAddrP T.fl100_2 rfl rfl)) ?_
    refine HP.takeG rfl rfl rfl rfl rfl rfl hS (fun wS hS1 => (by first | exact PV.load0 T.na2 rfl (by first | exact Cells.up (by assumption) (hBr.trans hS1) | exact Bx.cells (Bx.updD (by assumption) hS1 (Dj.nlR _)) | exact Cells.upd (by assumption) hS1 (by simp)) (Ext.refl _) rfl | exact PV.load1 T.na2 rfl (by first | exact Cells.up (by assumption) (hBr.trans hS1) | exact Bx.cells (Bx.updD (by assumption) hS1 (Dj.nlR _)) | exact Cells.upd (by assumption) hS1 (by simp)) (Ext.refl _) rfl)) ?_
    refine HP.takeG rfl rfl rfl rfl rfl rfl hS (fun wS hS1 => PV.move rfl) ?_
    refine HP.takeG rfl rfl rfl rfl rfl rfl hS (fun wS hS1 => PV.nilCheck rfl) ?_
    refine HP.takeG rfl rfl rfl rfl rfl rfl hS (fun wS hS1 => (by first | exact PV.fieldAddr T.fl56_0 rfl (by first | assumption | exact Bx.cells (by assumption)) | exact PV.fieldAddrP T.fl56_0 rfl rfl)) ?_
    refine HP.takeG rfl rfl rfl rfl rfl rfl hS (fun wS hS1 => (by first | exact PV.load0 T.na2 rfl (by first | exact Cells.up (by assumption) (hBr.trans hS1) | exact Bx.cells (Bx.updD (by assumption) hS1 (Dj.nlR _)) | exact Cells.upd (by assumption) hS1 (by simp)) (Ext.refl _) rfl | exact PV.load1 T.na2 rfl (by first | exact Cells.up (by assumption) (hBr.trans hS1) | exact Bx.cells (Bx.updD (by assumption) hS1 (Dj.nlR _)) | exact Cells.upd (by assumption) hS1 (by simp)) (Ext.refl _) rfl)) ?_
    refine HP.takeG rfl rfl rfl rfl rfl rfl hS (fun wS hS1 => PV.sub rfl rfl (by constructor <;> omega)) ?_
    refine HP.mustG rfl rfl rfl rfl (OpK.callR rfl T.cf72 rfl (c_spec_l00In) (fun w7 hXw7 => ?_))
    refine ⟨Upd.trans hS hXw7, ?_⟩
    have hS := Upd.trans hS hXw7
    have hB := hB.trans hXw7
    have hb1 := hb1.up hXw7
    have hU0 := hU0.ext hXw7
    refine HP.takeG rfl rfl rfl rfl rfl rfl hS (fun wS hS1 => PV.not rfl) ?_
    refine HP.take rfl rfl rfl rfl hS (fun wS hS1 => PV.pickF rfl rfl) ?_
    refine HP.take rfl rfl rfl rfl hS (fun wS hS1 => PV.move rfl) ?_
    refine HP.split (t := 63) rfl (fun hc6 => ?_) (fun hc6 => ?_)
    · skip
      try simp only [decide_eq_true_eq, decide_eq_false_iff_not, Bool.not_eq_true', Bool.not_eq_false', Bool.not_eq_eq_eq_not, Bool.not_true, Bool.not_false, Int.not_lt, Int.not_le, Classical.not_not, beq_iff_eq, beq_eq_false_iff_ne] at hc6
      refine HP.skip rfl rfl rfl rfl rfl rfl hS ?_
      refine HP.skip rfl rfl rfl rfl rfl rfl hS ?_
      refine HP.skip rfl rfl rfl rfl rfl rfl hS ?_
      refine HP.skip rfl rfl rfl rfl rfl rfl hS ?_
      refine HP.take rfl rfl rfl rfl hS (fun wS hS1 => PV.pickT rfl rfl) ?_
      refine HP.doneS ?_
      refine CW.condT rfl ?_
      refine CW.seq ?_
      refine CW.reg ?_
      refine WL.pure rfl rfl rfl (PV.assign rfl) ?_
      refine WL.nilS ?_
      refine CW.ret ?_
      refine RQ.then ?_
      refine RQ.block ?_
      refine RQ.then ?_
      refine RQ.then ?_
      refine RQ.block ?_
      refine RQ.then ?_
      refine RQ.r1 rfl ?_
      refine ⟨?_, hB⟩
      exact bF (by rintro ⟨h1, h2, h3, h4⟩; first | omega | (have h5 := h4 k (by omega); simp only [okR] at h5; omega))
    try simp only [decide_eq_true_eq, decide_eq_false_iff_not, Bool.not_eq_true', Bool.not_eq_false', Bool.not_eq_eq_eq_not, Bool.not_true, Bool.not_false, Int.not_lt, Int.not_le, Classical.not_not, beq_iff_eq, beq_eq_false_iff_ne] at hc6
    refine HP.takeG rfl rfl rfl rfl rfl rfl hS (fun wS hS1 => (by first | exact PV.fieldAddr T.fl100_3 rfl (by first | assumption | exact Bx.cells (by assumption)) | exact PV.fieldAddrP T.fl100_3 rfl rfl)) ?_
    refine HP.takeG rfl rfl rfl rfl rfl rfl hS (fun wS hS1 => (by first | exact PV.load0 T.na2 rfl (by first | exact Cells.up (by assumption) (hBr.trans hS1) | exact Bx.cells (Bx.updD (by assumption) hS1 (Dj.nlR _)) | exact Cells.upd (by assumption) hS1 (by simp)) (Ext.refl _) rfl | exact PV.load1 T.na2 rfl (by first | exact Cells.up (by assumption) (hBr.trans hS1) | exact Bx.cells (Bx.updD (by assumption) hS1 (Dj.nlR _)) | exact Cells.upd (by assumption) hS1 (by simp)) (Ext.refl _) rfl)) ?_
    refine HP.mustG rfl rfl rfl rfl (OpK.callR rfl T.cf72 rfl (c_spec_l00In) (fun w8 hXw8 => ?_))
    refine ⟨Upd.trans hS hXw8, ?_⟩
    have hS := Upd.trans hS hXw8
    have hB := hB.trans hXw8
    have hb1 := hb1.up hXw8
    have hU0 := hU0.ext hXw8
    refine HP.takeG rfl rfl rfl rfl rfl rfl hS (fun wS hS1 => PV.not rfl) ?_
    refine HP.take rfl rfl rfl rfl hS (fun wS hS1 => PV.pickF rfl rfl) ?_
    refine HP.doneS ?_
    refine CW.cond rfl (fun hc7 => ?_) (fun hc7 => ?_)
    · skip
      try simp only [decide_eq_true_eq, decide_eq_false_iff_not, Bool.not_eq_true', Bool.not_eq_false', Bool.not_eq_eq_eq_not, Bool.not_true, Bool.not_false, Int.not_lt, Int.not_le, Classical.not_not, beq_iff_eq, beq_eq_false_iff_ne] at hc7
      refine CW.seq ?_
      refine CW.reg ?_
      refine WL.pure rfl rfl rfl (PV.assign rfl) ?_
      refine WL.nilS ?_
      refine CW.ret ?_
      refine RQ.then ?_
      refine RQ.block ?_
      refine RQ.then ?_
      refine RQ.then ?_
      refine RQ.block ?_
      refine RQ.then ?_
      refine RQ.r1 rfl ?_
      refine ⟨?_, hB⟩
      exact bF (by rintro ⟨h1, h2, h3, h4⟩; first | omega | (have h5 := h4 k (by omega); simp only [okR] at h5; omega))
    try simp only [decide_eq_true_eq, decide_eq_false_iff_not, Bool.not_eq_true', Bool.not_eq_false', Bool.not_eq_eq_eq_not, Bool.not_true, Bool.not_false, Int.not_lt, Int.not_le, Classical.not_not, beq_iff_eq, beq_eq_false_iff_ne] at hc7
    refine CW.skipS ?_
    refine CW.seq ?_
    refine CW.draw T.mixed (by kernel_rfl) (fun _ _ _ _ _ h => h) (fun w8 w9 => Upd none w8 w9) 30 (.take 0 (.take 1 (.take 2 (.take 3 (.split (.take 4 (.take 5 (.take 6 (.take 7 (.take 8 (.take 9 (.take 10 (.must 11 (.take 12 (.take 13 (.take 14 (.split (.take 15 (.take 16 (.take 17 (.take 18 (.take 19 (.take 20 (.take 21 (.take 22 (.take 23 (.take 24 (.take 25 (.take 26 (.take 27 (.take 28 (.take 29 .done))))))))))))))) (.take 15 (.take 16 (.take 17 (.take 18 (.split (.take 19 (.take 20 (.take 21 (.take 22 (.take 23 (.take 24 (.take 25 (.must 26 (.take 27 (.take 28 (.take 29 .done))))))))))) (.take 19 (.take 20 (.take 21 (.take 22 (.take 23 (.take 24 (.take 25 (.take 26 (.take 27 (.take 28 (.take 29 .done)))))))))))))))))))))))))))) (.take 4 (.take 5 (.take 6 (.take 7 (.take 8 (.take 9 (.take 10 (.take 11 (.take 12 (.take 13 (.take 14 (.take 15 (.take 16 (.take 17 (.take 18 (.split (.take 19 (.take 20 (.take 21 (.take 22 (.take 23 (.take 24 (.take 25 (.must 26 (.take 27 (.take 28 (.take 29 .done))))))))))) (.take 19 (.take 20 (.take 21 (.take 22 (.take 23 (.take 24 (.take 25 (.take 26 (.take 27 (.take 28 (.take 29 .done)))))))))))))))))))))))))))))))) (by kernel_rfl) (fun w9 hXd => ?_)
    have hB := hB.trans hXd
    have hb1 := hb1.up hXd
    have hU0 := hU0.ext hXd
    have hBr := hB
    have hS : Upd none w9 w9 := Ext.toUpd (Ext.refl _)
    refine HP.take rfl rfl rfl rfl hS (fun wS hS1 => (by first | exact PV.fieldAddr T.fl100_2 rfl (by first | assumption | exact Bx.cells (by assumption)) | exact PV.fieldAddrP T.fl100_2 rfl rfl)) ?_
    refine HP.take rfl rfl rfl rfl hS (fun wS hS1 => (by first | exact PV.load0 T.na2 rfl (by first | exact Cells.up (by assumption) (hBr.trans hS1) | exact Bx.cells (Bx.updD (by assumption) hS1 (Dj.nlR _)) | exact Cells.upd (by assumption) hS1 (by simp)) (Ext.refl _) rfl | exact PV.load1 T.na2 rfl (by first | exact Cells.up (by assumption) (hBr.trans hS1) | exact Bx.cells (Bx.updD (by assumption) hS1 (Dj.nlR _)) | exact Cells.upd (by assumption) hS1 (by simp)) (Ext.refl _) rfl)) ?_
    refine HP.take rfl rfl rfl rfl hS (fun wS hS1 => PV.lss rfl rfl) ?_
    refine HP.take rfl rfl rfl rfl hS (fun wS hS1 => PV.move rfl) ?_
    refine HP.split (t := 72) rfl (fun hc8 => ?_) (fun hc8 => ?_)
    rotate_left
    · skip
      try simp only [decide_eq_true_eq, decide_eq_false_iff_not, Bool.not_eq_true', Bool.not_eq_false', Bool.not_eq_eq_eq_not, Bool.not_true, Bool.not_false, Int.not_lt, Int.not_le, Classical.not_not, beq_iff_eq, beq_eq_false_iff_ne] at hc8
      refine HP.skip rfl rfl rfl rfl rfl rfl hS ?_
      refine HP.skip rfl rfl rfl rfl rfl rfl hS ?_
      refine HP.skip rfl rfl rfl rfl rfl rfl hS ?_
      refine HP.skip rfl rfl rfl rfl rfl rfl hS ?_
      refine HP.skip rfl rfl rfl rfl rfl rfl hS ?_
      refine HP.skip rfl rfl rfl rfl rfl rfl hS ?_
      refine HP.skip rfl rfl rfl rfl rfl rfl hS ?_
      refine HP.skip rfl rfl rfl rfl rfl rfl hS ?_
      refine HP.skip rfl rfl rfl rfl rfl rfl hS ?_
      refine HP.take rfl rfl rfl rfl hS (fun wS hS1 => PV.pickF rfl rfl) ?_
      refine HP.take rfl rfl rfl rfl hS (fun wS hS1 => PV.move rfl) ?_
      refine HP.takeG rfl rfl rfl rfl rfl rfl hS (fun wS hS1 => (by first | exact PV.fieldAddr T.fl100_2 rfl (by first | assumption | exact Bx.cells (by assumption)) | exact PV.fieldAddrP T.fl100_2 rfl rfl)) ?_
      refine HP.takeG rfl rfl rfl rfl rfl rfl hS (fun wS hS1 => (by first | exact PV.load0 T.na2 rfl (by first | exact Cells.up (by assumption) (hBr.trans hS1) | exact Bx.cells (Bx.updD (by assumption) hS1 (Dj.nlR _)) | exact Cells.upd (by assumption) hS1 (by simp)) (Ext.refl _) rfl | exact PV.load1 T.na2 rfl (by first | exact Cells.up (by assumption) (hBr.trans hS1) | exact Bx.cells (Bx.updD (by assumption) hS1 (Dj.nlR _)) | exact Cells.upd (by assumption) hS1 (by simp)) (Ext.refl _) rfl)) ?_
      refine HP.takeG rfl rfl rfl rfl rfl rfl hS (fun wS hS1 => PV.geq rfl rfl) ?_
      refine HP.takeG rfl rfl rfl rfl rfl rfl hS (fun wS hS1 => PV.move rfl) ?_
      refine HP.split (t := 87) rfl (fun hc9 => ?_) (fun hc9 => ?_)
      rotate_left
      · skip
        try simp only [decide_eq_true_eq, decide_eq_false_iff_not, Bool.not_eq_true', Bool.not_eq_false', Bool.not_eq_eq_eq_not, Bool.not_true, Bool.not_false, Int.not_lt, Int.not_le, Classical.not_not, beq_iff_eq, beq_eq_false_iff_ne] at hc9
        refine HP.skip rfl rfl rfl rfl rfl rfl hS ?_
        refine HP.skip rfl rfl rfl rfl rfl rfl hS ?_
        refine HP.skip rfl rfl rfl rfl rfl rfl hS ?_
        refine HP.skip rfl rfl rfl rfl rfl rfl hS ?_
        refine HP.skip rfl rfl rfl rfl rfl rfl hS ?_
        refine HP.skip rfl rfl rfl rfl rfl rfl hS ?_
        refine HP.skip rfl rfl rfl rfl rfl rfl hS ?_
        refine HP.skip rfl rfl rfl rfl rfl rfl hS ?_
        refine HP.skip rfl rfl rfl rfl rfl rfl hS ?_
        refine HP.takeG rfl rfl rfl rfl rfl rfl hS (fun wS hS1 => PV.pickF rfl rfl) ?_
        refine HP.take rfl rfl rfl rfl hS (fun wS hS1 => PV.pickF rfl rfl) ?_
        refine HP.doneS ?_
        refine CW.condF rfl ?_
        refine CW.skip ?_
        refine NQ.block ?_
        refine NQ.then ?_
        refine CW.reg ?_
        refine WL.pure rfl rfl rfl (PV.move rfl) ?_
        refine WL.pure rfl rfl rfl (PV.add rfl rfl (by constructor <;> omega)) ?_
        refine WL.pure rfl rfl rfl (PV.assign rfl) ?_
        refine WL.nil ?_
        refine NQ.next (ρ := [(3, _)]) ⟨rfl, rfl, trivial⟩ ?_
        exact ⟨_, ⟨k + 1, rfl, rfl, hU0, (by first | omega | assumption | (simp_all; done) | (simp_all; omega)), (by intro q h1; by_cases h : q < k; exact hq q h; obtain rfl : q = k := (by omega); simp only [okR]; omega)⟩, by omega⟩
      try simp only [decide_eq_true_eq, decide_eq_false_iff_not, Bool.not_eq_true', Bool.not_eq_false', Bool.not_eq_eq_eq_not, Bool.not_true, Bool.not_false, Int.not_lt, Int.not_le, Classical.not_not, beq_iff_eq, beq_eq_false_iff_ne] at hc9
      refine HP.takeG rfl rfl rfl rfl rfl rfl hS (fun wS hS1 => (by first | exact PV.fieldAddr T.fl100_1 rfl (by first | assumption | exact Bx.cells (by assumption)) | exact PV.fieldAddrP T.fl100_1 rfl rfl)) ?_
      refine HP.takeG rfl rfl rfl rfl rfl rfl hS (fun wS hS1 => (by first | exact PV.load0 T.na2 rfl (by first | exact Cells.up (by assumption) (hBr.trans hS1) | exact Bx.cells (Bx.updD (by assumption) hS1 (Dj.nlR _)) | exact Cells.upd (by assumption) hS1 (by simp)) (Ext.refl _) rfl | exact PV.load1 T.na2 rfl (by first | exact Cells.up (by assumption) (hBr.trans hS1) | exact Bx.cells (Bx.updD (by assumption) hS1 (Dj.nlR _)) | exact Cells.upd (by assumption) hS1 (by simp)) (Ext.refl _) rfl)) ?_
      refine HP.takeG rfl rfl rfl rfl rfl rfl hS (fun wS hS1 => PV.move rfl) ?_
      refine HP.takeG rfl rfl rfl rfl rfl rfl hS (fun wS hS1 => PV.nilCheck rfl) ?_
      refine HP.takeG rfl rfl rfl rfl rfl rfl hS (fun wS hS1 => (by first | exact PV.fieldAddr T.fl56_0 rfl (by first | assumption | exact Bx.cells (by assumption)) | exact PV.fieldAddrP T.fl56_0 rfl rfl)) ?_
      refine HP.takeG rfl rfl rfl rfl rfl rfl hS (fun wS hS1 => (by first | exact PV.load0 T.na2 rfl (by first | exact Cells.up (by assumption) (hBr.trans hS1) | exact Bx.cells (Bx.updD (by assumption) hS1 (Dj.nlR _)) | exact Cells.upd (by assumption) hS1 (by simp)) (Ext.refl _) rfl | exact PV.load1 T.na2 rfl (by first | exact Cells.up (by assumption) (hBr.trans hS1) | exact Bx.cells (Bx.updD (by assumption) hS1 (Dj.nlR _)) | exact Cells.upd (by assumption) hS1 (by simp)) (Ext.refl _) rfl)) ?_
      refine HP.takeG rfl rfl rfl rfl rfl rfl hS (fun wS hS1 => PV.sub rfl rfl (by constructor <;> omega)) ?_
      refine HP.mustG rfl rfl rfl rfl (OpK.callR rfl T.cf72 rfl (c_spec_l00In) (fun w10 hXw10 => ?_))
      refine ⟨Upd.trans hS hXw10, ?_⟩
      have hS := Upd.trans hS hXw10
      have hB := hB.trans hXw10
      have hb1 := hb1.up hXw10
      have hU0 := hU0.ext hXw10
      refine HP.takeG rfl rfl rfl rfl rfl rfl hS (fun wS hS1 => PV.not rfl) ?_
      refine HP.takeG rfl rfl rfl rfl rfl rfl hS (fun wS hS1 => PV.pickT rfl rfl) ?_
      refine HP.take rfl rfl rfl rfl hS (fun wS hS1 => PV.pickF rfl rfl) ?_
      refine HP.doneS ?_
      refine CW.cond rfl (fun hc10 => ?_) (fun hc10 => ?_)
      · skip
        try simp only [decide_eq_true_eq, decide_eq_false_iff_not, Bool.not_eq_true', Bool.not_eq_false', Bool.not_eq_eq_eq_not, Bool.not_true, Bool.not_false, Int.not_lt, Int.not_le, Classical.not_not, beq_iff_eq, beq_eq_false_iff_ne] at hc10
        refine CW.seq ?_
        refine CW.reg ?_
        refine WL.pure rfl rfl rfl (PV.assign rfl) ?_
        refine WL.nilS ?_
        refine CW.ret ?_
        refine RQ.block ?_
        refine RQ.then ?_
        refine RQ.then ?_
        refine RQ.block ?_
        refine RQ.then ?_
        refine RQ.r1 rfl ?_
        refine ⟨?_, hB⟩
        exact bF (by rintro ⟨h1, h2, h3, h4⟩; first | omega | (have h5 := h4 k (by omega); simp only [okR] at h5; omega))
      try simp only [decide_eq_true_eq, decide_eq_false_iff_not, Bool.not_eq_true', Bool.not_eq_false', Bool.not_eq_eq_eq_not, Bool.not_true, Bool.not_false, Int.not_lt, Int.not_le, Classical.not_not, beq_iff_eq, beq_eq_false_iff_ne] at hc10
      refine CW.skip ?_
      refine NQ.block ?_
      refine NQ.then ?_
      refine CW.reg ?_
      refine WL.pure rfl rfl rfl (PV.move rfl) ?_
      refine WL.pure rfl rfl rfl (PV.add rfl rfl (by constructor <;> omega)) ?_
      refine WL.pure rfl rfl rfl (PV.assign rfl) ?_
      refine WL.nil ?_
      refine NQ.next (ρ := [(3, _)]) ⟨rfl, rfl, trivial⟩ ?_
      exact ⟨_, ⟨k + 1, rfl, rfl, hU0, (by first | omega | assumption | (simp_all; done) | (simp_all; omega)), (by intro q h1; by_cases h : q < k; exact hq q h; obtain rfl : q = k := (by omega); simp only [okR]; omega)⟩, by omega⟩
    try simp only [decide_eq_true_eq, decide_eq_false_iff_not, Bool.not_eq_true', Bool.not_eq_false', Bool.not_eq_eq_eq_not, Bool.not_true, Bool.not_false, Int.not_lt, Int.not_le, Classical.not_not, beq_iff_eq, beq_eq_false_iff_ne] at hc8
    refine HP.takeG rfl rfl rfl rfl rfl rfl hS (fun wS hS1 => (by first | exact PV.fieldAddr T.fl100_1 rfl (by first | assumption | exact Bx.cells (by assumption)) | exact PV.fieldAddrP T.fl100_1 rfl rfl)) ?_
    refine HP.takeG rfl rfl rfl rfl rfl rfl hS (fun wS hS1 => (by first | exact PV.load0 T.na2 rfl (by first | exact Cells.up (by assumption) (hBr.trans hS1) | exact Bx.cells (Bx.updD (by assumption) hS1 (Dj.nlR _)) | exact Cells.upd (by assumption) hS1 (by simp)) (Ext.refl _) rfl | exact PV.load1 T.na2 rfl (by first | exact Cells.up (by assumption) (hBr.trans hS1) | exact Bx.cells (Bx.updD (by assumption) hS1 (Dj.nlR _)) | exact Cells.upd (by assumption) hS1 (by simp)) (Ext.refl _) rfl)) ?_
    refine HP.takeG rfl rfl rfl rfl rfl rfl hS (fun wS hS1 => PV.move rfl) ?_
    refine HP.takeG rfl rfl rfl rfl rfl rfl hS (fun wS hS1 => PV.nilCheck rfl) ?_
    refine HP.takeG rfl rfl rfl rfl rfl rfl hS (fun wS hS1 => (by first | exact PV.fieldAddr T.fl56_1 rfl (by first | assumption | exact Bx.cells (by assumption)) | exact PV.fieldAddrP T.fl56_1 rfl rfl)) ?_
    refine HP.takeG rfl rfl rfl rfl rfl rfl hS (fun wS hS1 => (by first | exact PV.load0 T.na2 rfl (by first | exact Cells.up (by assumption) (hBr.trans hS1) | exact Bx.cells (Bx.updD (by assumption) hS1 (Dj.nlR _)) | exact Cells.upd (by assumption) hS1 (by simp)) (Ext.refl _) rfl | exact PV.load1 T.na2 rfl (by first | exact Cells.up (by assumption) (hBr.trans hS1) | exact Bx.cells (Bx.updD (by assumption) hS1 (Dj.nlR _)) | exact Cells.upd (by assumption) hS1 (by simp)) (Ext.refl _) rfl)) ?_
    refine HP.takeG rfl rfl rfl rfl rfl rfl hS (fun wS hS1 => PV.sub rfl rfl (by constructor <;> omega)) ?_
    refine HP.mustG rfl rfl rfl rfl (OpK.callR rfl T.cf72 rfl (c_spec_l00In) (fun w11 hXw11 => ?_))
    refine ⟨Upd.trans hS hXw11, ?_⟩
    have hS := Upd.trans hS hXw11
    have hB := hB.trans hXw11
    have hb1 := hb1.up hXw11
    have hU0 := hU0.ext hXw11
    refine HP.takeG rfl rfl rfl rfl rfl rfl hS (fun wS hS1 => PV.not rfl) ?_
    refine HP.take rfl rfl rfl rfl hS (fun wS hS1 => PV.pickT rfl rfl) ?_
    refine HP.take rfl rfl rfl rfl hS (fun wS hS1 => PV.move rfl) ?_
    refine HP.split (t := 83) rfl (fun hc11 => ?_) (fun hc11 => ?_)
    · skip
      try simp only [decide_eq_true_eq, decide_eq_false_iff_not, Bool.not_eq_true', Bool.not_eq_false', Bool.not_eq_eq_eq_not, Bool.not_true, Bool.not_false, Int.not_lt, Int.not_le, Classical.not_not, beq_iff_eq, beq_eq_false_iff_ne] at hc11
      refine HP.skip rfl rfl rfl rfl rfl rfl hS ?_
      refine HP.skip rfl rfl rfl rfl rfl rfl hS ?_
      refine HP.skip rfl rfl rfl rfl rfl rfl hS ?_
      refine HP.skip rfl rfl rfl rfl rfl rfl hS ?_
      refine HP.skipU rfl rfl rfl rfl rfl rfl hS ?_
      refine HP.skipU rfl rfl rfl rfl rfl rfl hS ?_
      refine HP.skipU rfl rfl rfl rfl rfl rfl hS ?_
      refine HP.skipU rfl rfl rfl rfl rfl rfl hS ?_
      refine HP.skipU rfl rfl rfl rfl rfl rfl hS ?_
      refine HP.skipU rfl rfl rfl rfl rfl rfl hS ?_
      refine HP.skipU rfl rfl rfl rfl rfl rfl hS ?_
      refine HP.skipU rfl rfl rfl rfl rfl rfl hS ?_
      refine HP.skipU rfl rfl rfl rfl rfl rfl hS ?_
      refine HP.skip rfl rfl rfl rfl rfl rfl hS ?_
      refine HP.take rfl rfl rfl rfl hS (fun wS hS1 => PV.pickT rfl rfl) ?_
      refine HP.doneS ?_
      refine CW.condT rfl ?_
      refine CW.seq ?_
      refine CW.reg ?_
      refine WL.pure rfl rfl rfl (PV.assign rfl) ?_
      refine WL.nilS ?_
      refine CW.ret ?_
      refine RQ.block ?_
      refine RQ.then ?_
      refine RQ.then ?_
      refine RQ.block ?_
      refine RQ.then ?_
      refine RQ.r1 rfl ?_
      refine ⟨?_, hB⟩
      exact bF (by rintro ⟨h1, h2, h3, h4⟩; first | omega | (have h5 := h4 k (by omega); simp only [okR] at h5; omega))
    try simp only [decide_eq_true_eq, decide_eq_false_iff_not, Bool.not_eq_true', Bool.not_eq_false', Bool.not_eq_eq_eq_not, Bool.not_true, Bool.not_false, Int.not_lt, Int.not_le, Classical.not_not, beq_iff_eq, beq_eq_false_iff_ne] at hc11
    refine HP.takeG rfl rfl rfl rfl rfl rfl hS (fun wS hS1 => (by first | exact PV.fieldAddr T.fl100_2 rfl (by first | assumption | exact Bx.cells (by assumption)) | exact PV.fieldAddrP T.fl100_2 rfl rfl)) ?_
    refine HP.takeG rfl rfl rfl rfl rfl rfl hS (fun wS hS1 => (by first | exact PV.load0 T.na2 rfl (by first | exact Cells.up (by assumption) (hBr.trans hS1) | exact Bx.cells (Bx.updD (by assumption) hS1 (Dj.nlR _)) | exact Cells.upd (by assumption) hS1 (by simp)) (Ext.refl _) rfl | exact PV.load1 T.na2 rfl (by first | exact Cells.up (by assumption) (hBr.trans hS1) | exact Bx.cells (Bx.updD (by assumption) hS1 (Dj.nlR _)) | exact Cells.upd (by assumption) hS1 (by simp)) (Ext.refl _) rfl)) ?_
    refine HP.takeG rfl rfl rfl rfl rfl rfl hS (fun wS hS1 => PV.geq rfl rfl) ?_
    refine HP.takeG rfl rfl rfl rfl rfl rfl hS (fun wS hS1 => PV.move rfl) ?_
    refine HP.split (t := 87) rfl (fun hc12 => ?_) (fun hc12 => ?_)
    rotate_left
    · skip
      try simp only [decide_eq_true_eq, decide_eq_false_iff_not, Bool.not_eq_true', Bool.not_eq_false', Bool.not_eq_eq_eq_not, Bool.not_true, Bool.not_false, Int.not_lt, Int.not_le, Classical.not_not, beq_iff_eq, beq_eq_false_iff_ne] at hc12
      refine HP.skip rfl rfl rfl rfl rfl rfl hS ?_
      refine HP.skip rfl rfl rfl rfl rfl rfl hS ?_
      refine HP.skip rfl rfl rfl rfl rfl rfl hS ?_
      refine HP.skip rfl rfl rfl rfl rfl rfl hS ?_
      refine HP.skip rfl rfl rfl rfl rfl rfl hS ?_
      refine HP.skip rfl rfl rfl rfl rfl rfl hS ?_
      refine HP.skip rfl rfl rfl rfl rfl rfl hS ?_
      refine HP.skip rfl rfl rfl rfl rfl rfl hS ?_
      refine HP.skip rfl rfl rfl rfl rfl rfl hS ?_
      refine HP.takeG rfl rfl rfl rfl rfl rfl hS (fun wS hS1 => PV.pickF rfl rfl) ?_
      refine HP.take rfl rfl rfl rfl hS (fun wS hS1 => PV.pickF rfl rfl) ?_
      refine HP.doneS ?_
      refine CW.condF rfl ?_
      refine CW.skip ?_
      refine NQ.block ?_
      refine NQ.then ?_
      refine CW.reg ?_
      refine WL.pure rfl rfl rfl (PV.move rfl) ?_
      refine WL.pure rfl rfl rfl (PV.add rfl rfl (by constructor <;> omega)) ?_
      refine WL.pure rfl rfl rfl (PV.assign rfl) ?_
      refine WL.nil ?_
      refine NQ.next (ρ := [(3, _)]) ⟨rfl, rfl, trivial⟩ ?_
      exact ⟨_, ⟨k + 1, rfl, rfl, hU0, (by first | omega | assumption | (simp_all; done) | (simp_all; omega)), (by intro q h1; by_cases h : q < k; exact hq q h; obtain rfl : q = k := (by omega); simp only [okR]; omega)⟩, by omega⟩
    try simp only [decide_eq_true_eq, decide_eq_false_iff_not, Bool.not_eq_true', Bool.not_eq_false', Bool.not_eq_eq_eq_not, Bool.not_true, Bool.not_false, Int.not_lt, Int.not_le, Classical.not_not, beq_iff_eq, beq_eq_false_iff_ne] at hc12
    refine HP.takeG rfl rfl rfl rfl rfl rfl hS (fun wS hS1 => (by first | exact PV.fieldAddr T.fl100_1 rfl (by first | assumption | exact Bx.cells (by assumption)) | exact PV.fieldAddrP T.fl100_1 rfl rfl)) ?_
    refine HP.takeG rfl rfl rfl rfl rfl rfl hS (fun wS hS1 => (by first | exact PV.load0 T.na2 rfl (by first | exact Cells.up (by assumption) (hBr.trans hS1) | exact Bx.cells (Bx.updD (by assumption) hS1 (Dj.nlR _)) | exact Cells.upd (by assumption) hS1 (by simp)) (Ext.refl _) rfl | exact PV.load1 T.na2 rfl (by first | exact Cells.up (by assumption) (hBr.trans hS1) | exact Bx.cells (Bx.updD (by assumption) hS1 (Dj.nlR _)) | exact Cells.upd (by assumption) hS1 (by simp)) (Ext.refl _) rfl)) ?_
    refine HP.takeG rfl rfl rfl rfl rfl rfl hS (fun wS hS1 => PV.move rfl) ?_
    refine HP.takeG rfl rfl rfl rfl rfl rfl hS (fun wS hS1 => PV.nilCheck rfl) ?_
    refine HP.takeG rfl rfl rfl rfl rfl rfl hS (fun wS hS1 => (by first | exact PV.fieldAddr T.fl56_0 rfl (by first | assumption | exact Bx.cells (by assumption)) | exact PV.fieldAddrP T.fl56_0 rfl rfl)) ?_
    refine HP.takeG rfl rfl rfl rfl rfl rfl hS (fun wS hS1 => (by first | exact PV.load0 T.na2 rfl (by first | exact Cells.up (by assumption) (hBr.trans hS1) | exact Bx.cells (Bx.updD (by assumption) hS1 (Dj.nlR _)) | exact Cells.upd (by assumption) hS1 (by simp)) (Ext.refl _) rfl | exact PV.load1 T.na2 rfl (by first | exact Cells.up (by assumption) (hBr.trans hS1) | exact Bx.cells (Bx.updD (by assumption) hS1 (Dj.nlR _)) | exact Cells.upd (by assumption) hS1 (by simp)) (Ext.refl _) rfl)) ?_
    refine HP.takeG rfl rfl rfl rfl rfl rfl hS (fun wS hS1 => PV.sub rfl rfl (by constructor <;> omega)) ?_
    refine HP.mustG rfl rfl rfl rfl (OpK.callR rfl T.cf72 rfl (c_spec_l00In) (fun w12 hXw12 => ?_))
    refine ⟨Upd.trans hS hXw12, ?_⟩
    have hS := Upd.trans hS hXw12
    have hB := hB.trans hXw12
    have hb1 := hb1.up hXw12
    have hU0 := hU0.ext hXw12
    refine HP.takeG rfl rfl rfl rfl rfl rfl hS (fun wS hS1 => PV.not rfl) ?_
    refine HP.takeG rfl rfl rfl rfl rfl rfl hS (fun wS hS1 => PV.pickT rfl rfl) ?_
    refine HP.take rfl rfl rfl rfl hS (fun wS hS1 => PV.pickF rfl rfl) ?_
    refine HP.doneS ?_
    refine CW.cond rfl (fun hc13 => ?_) (fun hc13 => ?_)
    · skip
      try simp only [decide_eq_true_eq, decide_eq_false_iff_not, Bool.not_eq_true', Bool.not_eq_false', Bool.not_eq_eq_eq_not, Bool.not_true, Bool.not_false, Int.not_lt, Int.not_le, Classical.not_not, beq_iff_eq, beq_eq_false_iff_ne] at hc13
      refine CW.seq ?_
      refine CW.reg ?_
      refine WL.pure rfl rfl rfl (PV.assign rfl) ?_
      refine WL.nilS ?_
      refine CW.ret ?_
      refine RQ.block ?_
      refine RQ.then ?_
      refine RQ.then ?_
      refine RQ.block ?_
      refine RQ.then ?_
      refine RQ.r1 rfl ?_
      refine ⟨?_, hB⟩
      exact bF (by rintro ⟨h1, h2, h3, h4⟩; first | omega | (have h5 := h4 k (by omega); simp only [okR] at h5; omega))
    try simp only [decide_eq_true_eq, decide_eq_false_iff_not, Bool.not_eq_true', Bool.not_eq_false', Bool.not_eq_eq_eq_not, Bool.not_true, Bool.not_false, Int.not_lt, Int.not_le, Classical.not_not, beq_iff_eq, beq_eq_false_iff_ne] at hc13
    refine CW.skip ?_
    refine NQ.block ?_
    refine NQ.then ?_
    refine CW.reg ?_
    refine WL.pure rfl rfl rfl (PV.move rfl) ?_
    refine WL.pure rfl rfl rfl (PV.add rfl rfl (by constructor <;> omega)) ?_
    refine WL.pure rfl rfl rfl (PV.assign rfl) ?_
    refine WL.nil ?_
    refine NQ.next (ρ := [(3, _)]) ⟨rfl, rfl, trivial⟩ ?_
    exact ⟨_, ⟨k + 1, rfl, rfl, hU0, (by first | omega | assumption | (simp_all; done) | (simp_all; omega)), (by intro q h1; by_cases h : q < k; exact hq q h; obtain rfl : q = k := (by omega); simp only [okR]; omega)⟩, by omega⟩
  try simp only [decide_eq_true_eq, decide_eq_false_iff_not, Bool.not_eq_true', Bool.not_eq_false', Bool.not_eq_eq_eq_not, Bool.not_true, Bool.not_false, Int.not_lt, Int.not_le, Classical.not_not, beq_iff_eq, beq_eq_false_iff_ne] at hc4
  refine CW.exit ?_
  refine XQ.then ?_
  refine XQ.then ?_
  refine XQ.here ?_
  refine NQ.then ?_
  refine CW.seq ?_
  refine CW.reg ?_
  refine WL.pure rfl rfl rfl (PV.assign rfl) ?_
  refine WL.nilS ?_
  refine CW.ret ?_
  refine RQ.r1 rfl ?_
  refine ⟨?_, hB⟩
  exact bT ⟨by omega, by omega, by omega, fun q h => hq q (by omega)⟩
theorem c_spec_l02Word {w : World} {va : Value} {xs : List Int} {L : Int} (ha : Rd EI w va xs) (hL : 1 ≤ L ∧ L ≤ 4) : Calls Try.prog 112 #[va, .int .i64 L] w (Ret1 (RQt (.bool (wordB xs L)) w)) := by
  have hB : Ext w w := Ext.refl w
  have hla := ha.leI
  refine callsOf (vs := [_, _]) Try.func112 rfl Try.ntmps112 rfl rfl ?_
  refine CW.seq ?_
  refine CW.reg ?_
  refine WL.pure rfl rfl rfl (PV.assign rfl) ?_
  refine WL.nilS ?_
  refine CW.seq ?_
  refine CW.seq ?_
  refine CW.reg ?_
  refine WL.pure rfl rfl rfl (PV.assign rfl) ?_
  refine WL.nilS ?_
  refine CW.block ?_
  refine CW.loop (σk := [(0, _), (1, _)]) (fun ρ wz m => ∃ (k : Nat), ρ = [(5, .int .i64 (k : Nat))] ∧ m = xs.length - k ∧ UpdL [] w wz ∧ (k ≤ xs.length) ∧ (allIn (xs.take k) 0 (L - 1) = true)) (ρ₀ := [(5, _)]) (m₀ := _) ⟨rfl, rfl, rfl, trivial⟩ ⟨0, rfl, rfl, (UpdL.refl _ _), (by first | omega | rfl | (simp; done) | assumption | (simp_all; done)), (by exact allIn_zero _ _ _)⟩ ?_
  rintro _ wl1 _ ⟨k, rfl, rfl, hU0, hk, he⟩
  have hB := hB.loop hU0 trivial
  refine CW.seq ?_
  refine CW.seq ?_
  refine CW.reg ?_
  refine WL.pure rfl rfl rfl (PV.move rfl) ?_
  refine WL.pure rfl rfl rfl (PV.move rfl) ?_
  refine WL.pure rfl rfl rfl ((by first | exact PV.len rfl (by assumption) T.sl22 | exact PV.lenOs rfl (by assumption) T.sl22 | exact PV.len rfl (NL.rd (by assumption)) T.sl22)) ?_
  refine WL.pure rfl rfl rfl (PV.lss rfl rfl) ?_
  refine WL.nilS ?_
  refine CW.cond rfl (fun hc1 => ?_) (fun hc1 => ?_)
  · skip
    try simp only [decide_eq_true_eq, decide_eq_false_iff_not, Bool.not_eq_true', Bool.not_eq_false', Bool.not_eq_eq_eq_not, Bool.not_true, Bool.not_false, Int.not_lt, Int.not_le, Classical.not_not, beq_iff_eq, beq_eq_false_iff_ne] at hc1
    refine CW.skipS ?_
    refine CW.seq ?_
    refine CW.block ?_
    refine CW.seq ?_
    refine CW.reg ?_
    refine WL.pure rfl rfl rfl (PV.move rfl) ?_
    refine WL.pure rfl rfl rfl (PV.move rfl) ?_
    first
      | refine WL.at (x := .tmp 12) (y := .tmp 13) (E := EI) (0) rfl rfl (by assumption) (by first | omega | (simp; omega) | (simp_all; omega)) (fun p1 csp1 hpp1 hcp1 hq => ?_)
      | refine WL.atZ (x := .tmp 12) (y := .tmp 13) (E := EI) (0) rfl rfl (by assumption) (by first | omega | (simp; omega) | (simp_all; omega)) (fun p1 csp1 hpp1 hzp1 hcp1 hq => ?_)
    cases hq
    refine WL.pure rfl rfl rfl ((by first | exact PV.indexAddr hpp1 rfl rfl T.sl22 | exact PV.indexAddr hpp1 rfl (by rw [← hzp1]; rfl) T.sl22)) ?_
    refine WL.pure rfl rfl rfl ((by first | exact PV.load0 T.na2 rfl (by first | exact Cells.up (by assumption) hB | exact Bx.cells (by assumption) | assumption) (Ext.refl _) rfl | exact PV.load1 T.na2 rfl (by first | exact Cells.up (by assumption) hB | exact Bx.cells (by assumption) | assumption) (Ext.refl _) rfl)) ?_
    refine WL.pure rfl rfl rfl (PV.move rfl) ?_
    refine WL.pure rfl rfl rfl (PV.sub rfl rfl (by constructor <;> omega)) ?_
    refine WL.op rfl (OpK.callR rfl T.cf72 rfl (c_spec_l00In) (fun w1 hXw1 => ?_))
    have hB := hB.trans hXw1
    have hU0 := hU0.ext hXw1
    refine WL.pure rfl rfl rfl (PV.not rfl) ?_
    refine WL.nilS ?_
    refine CW.cond rfl (fun hc2 => ?_) (fun hc2 => ?_)
    · skip
      try simp only [decide_eq_true_eq, decide_eq_false_iff_not, Bool.not_eq_true', Bool.not_eq_false', Bool.not_eq_eq_eq_not, Bool.not_true, Bool.not_false, Int.not_lt, Int.not_le, Classical.not_not, beq_iff_eq, beq_eq_false_iff_ne] at hc2
      refine CW.seq ?_
      refine CW.reg ?_
      refine WL.pure rfl rfl rfl (PV.assign rfl) ?_
      refine WL.nilS ?_
      refine CW.ret ?_
      refine RQ.block ?_
      refine RQ.then ?_
      refine RQ.then ?_
      refine RQ.block ?_
      refine RQ.then ?_
      refine RQ.r1 rfl ?_
      refine ⟨?_, hB⟩
      exact bE (by simp only [wordB]; rw [allIn_bad (k := k) (by omega) (by assumption)]; simp)
    try simp only [decide_eq_true_eq, decide_eq_false_iff_not, Bool.not_eq_true', Bool.not_eq_false', Bool.not_eq_eq_eq_not, Bool.not_true, Bool.not_false, Int.not_lt, Int.not_le, Classical.not_not, beq_iff_eq, beq_eq_false_iff_ne] at hc2
    refine CW.skip ?_
    refine NQ.block ?_
    refine NQ.then ?_
    refine CW.reg ?_
    refine WL.pure rfl rfl rfl (PV.move rfl) ?_
    refine WL.pure rfl rfl rfl (PV.add rfl rfl (by constructor <;> omega)) ?_
    refine WL.pure rfl rfl rfl (PV.assign rfl) ?_
    refine WL.nil ?_
    refine NQ.next (ρ := [(5, _)]) ⟨rfl, rfl, rfl, trivial⟩ ?_
    exact ⟨_, ⟨k + 1, rfl, rfl, hU0, (by first | omega | assumption | (simp_all; done) | (simp_all; omega)), (by exact allIn_step (by omega) he (by assumption))⟩, by omega⟩
  try simp only [decide_eq_true_eq, decide_eq_false_iff_not, Bool.not_eq_true', Bool.not_eq_false', Bool.not_eq_eq_eq_not, Bool.not_true, Bool.not_false, Int.not_lt, Int.not_le, Classical.not_not, beq_iff_eq, beq_eq_false_iff_ne] at hc1
  refine CW.exit ?_
  refine XQ.then ?_
  refine XQ.then ?_
  refine XQ.here ?_
  refine NQ.then ?_
  refine CW.seq ?_
  refine CW.reg ?_
  refine WL.pure rfl rfl rfl (PV.move rfl) ?_
  refine WL.pure rfl rfl rfl ((by first | exact PV.len rfl (by assumption) T.sl22 | exact PV.lenOs rfl (by assumption) T.sl22 | exact PV.len rfl (NL.rd (by assumption)) T.sl22)) ?_
  refine WL.pure rfl rfl rfl (PV.leq rfl rfl) ?_
  refine WL.pure rfl rfl rfl (PV.assign rfl) ?_
  refine WL.nilS ?_
  refine CW.ret ?_
  refine RQ.r1 rfl ?_
  refine ⟨?_, hB⟩
  exact bE (by simp only [wordB]; rw [allIn_all (k := k) (by omega) he]; simp)
theorem c_spec_l06Can {w : World} {pa : Addr} {a0 : Int} {a1 : Int} {va2 : Value} {xa2 : List R4} {vw : Value} {xs : List Int} (hba : Cells w pa [.int .i64 a0, .int .i64 a1, va2]) (ha2 : Rd ER w va2 xa2) (hw : Rd EI w vw xs) : Calls Try.prog 82 #[.pointer (some pa), vw] w (Ret1 (RQt (.bool (canB a0 a1 xa2 xs)) w)) := by
  have hB : Ext w w := Ext.refl w
  have hla2 := ha2.leI; have hlw := hw.leI
  refine callsOf (vs := [_, _]) Try.func82 rfl Try.ntmps82 rfl rfl ?_
  refine CW.seq ?_
  refine CW.reg ?_
  refine WL.pure rfl rfl rfl (PV.assign rfl) ?_
  refine WL.nilS ?_
  refine CW.seq ?_
  refine CW.reg ?_
  refine WL.pure rfl rfl rfl (PV.move rfl) ?_
  refine WL.op rfl (OpK.callR rfl T.cf88 rfl (c_spec_l06Is (by first | exact Bx.cells (by assumption) | exact Cells.up (by assumption) hB | assumption | exact Cells.add (Bx.cells (by assumption)) _ | exact Cells.add (Cells.up (by assumption) hB) _) (by first | assumption | exact Rd.up (by assumption) hB | exact Osl.rd (by assumption) | exact Osn.rdR (by assumption) | exact NL.rd (by assumption))) (fun w1 hXw1 => ?_))
  have hB := hB.trans hXw1
  refine WL.pure rfl rfl rfl (PV.move rfl) ?_
  refine WL.split (t := 7) rfl (fun hc1 => ?_) (fun hc1 => ?_)
  rotate_left
  · skip
    try simp only [decide_eq_true_eq, decide_eq_false_iff_not, Bool.not_eq_true', Bool.not_eq_false', Bool.not_eq_eq_eq_not, Bool.not_true, Bool.not_false, Int.not_lt, Int.not_le, Classical.not_not, beq_iff_eq, beq_eq_false_iff_ne] at hc1
    refine WL.skip rfl rfl rfl rfl rfl ?_
    refine WL.skip rfl rfl rfl rfl rfl ?_
    refine WL.skip rfl rfl rfl rfl rfl ?_
    refine WL.pure rfl rfl rfl (PV.pickF rfl rfl) ?_
    refine WL.pure rfl rfl rfl (PV.move rfl) ?_
    refine WL.skip rfl rfl rfl rfl rfl ?_
    refine WL.skip rfl rfl rfl rfl rfl ?_
    refine WL.skip rfl rfl rfl rfl rfl ?_
    refine WL.skip rfl rfl rfl rfl rfl ?_
    refine WL.skip rfl rfl rfl rfl rfl ?_
    refine WL.skip rfl rfl rfl rfl rfl ?_
    refine WL.pure rfl rfl rfl (PV.pickF rfl rfl) ?_
    refine WL.pure rfl rfl rfl (PV.assign rfl) ?_
    refine WL.nilS ?_
    refine CW.ret ?_
    refine RQ.r1 rfl ?_
    refine ⟨?_, hB⟩
    first | exact bE (canB_n1 (by assumption)) | exact bE (canB_n2 (by assumption)) | exact bE (canB_n3 (by omega)) | exact bE (by rw [canB_e1 (by assumption) (by assumption)]; exact decide_eq_decide.2 (by omega)) | exact bE (canB_e2 (by assumption) (by omega))
  try simp only [decide_eq_true_eq, decide_eq_false_iff_not, Bool.not_eq_true', Bool.not_eq_false', Bool.not_eq_eq_eq_not, Bool.not_true, Bool.not_false, Int.not_lt, Int.not_le, Classical.not_not, beq_iff_eq, beq_eq_false_iff_ne] at hc1
  refine WL.pureG rfl rfl rfl rfl rfl (PV.move rfl) ?_
  refine WL.pureG rfl rfl rfl rfl rfl ((by first | exact PV.len rfl (by assumption) T.sl22 | exact PV.lenOs rfl (by assumption) T.sl22 | exact PV.len rfl (NL.rd (by assumption)) T.sl22)) ?_
  refine WL.pureG rfl rfl rfl rfl rfl (PV.geq rfl rfl) ?_
  refine WL.pure rfl rfl rfl (PV.pickT rfl rfl) ?_
  refine WL.pure rfl rfl rfl (PV.move rfl) ?_
  refine WL.split (t := 12) rfl (fun hc2 => ?_) (fun hc2 => ?_)
  rotate_left
  · skip
    try simp only [decide_eq_true_eq, decide_eq_false_iff_not, Bool.not_eq_true', Bool.not_eq_false', Bool.not_eq_eq_eq_not, Bool.not_true, Bool.not_false, Int.not_lt, Int.not_le, Classical.not_not, beq_iff_eq, beq_eq_false_iff_ne] at hc2
    refine WL.skip rfl rfl rfl rfl rfl ?_
    refine WL.skip rfl rfl rfl rfl rfl ?_
    refine WL.skip rfl rfl rfl rfl rfl ?_
    refine WL.skip rfl rfl rfl rfl rfl ?_
    refine WL.skip rfl rfl rfl rfl rfl ?_
    refine WL.skip rfl rfl rfl rfl rfl ?_
    refine WL.pure rfl rfl rfl (PV.pickF rfl rfl) ?_
    refine WL.pure rfl rfl rfl (PV.assign rfl) ?_
    refine WL.nilS ?_
    refine CW.ret ?_
    refine RQ.r1 rfl ?_
    refine ⟨?_, hB⟩
    first | exact bE (canB_n1 (by assumption)) | exact bE (canB_n2 (by assumption)) | exact bE (canB_n3 (by omega)) | exact bE (by rw [canB_e1 (by assumption) (by assumption)]; exact decide_eq_decide.2 (by omega)) | exact bE (canB_e2 (by assumption) (by omega))
  try simp only [decide_eq_true_eq, decide_eq_false_iff_not, Bool.not_eq_true', Bool.not_eq_false', Bool.not_eq_eq_eq_not, Bool.not_true, Bool.not_false, Int.not_lt, Int.not_le, Classical.not_not, beq_iff_eq, beq_eq_false_iff_ne] at hc2
  have hg12 := (by assumption : gramV a0 a1 xa2).2.1
  refine WL.pureG rfl rfl rfl rfl rfl (PV.move rfl) ?_
  refine WL.pureG rfl rfl rfl rfl rfl (PV.move rfl) ?_
  refine WL.pureG rfl rfl rfl rfl rfl (PV.nilCheck rfl) ?_
  refine WL.pureG rfl rfl rfl rfl rfl ((by first | exact PV.fieldAddr T.fl56_1 rfl (by first | assumption | exact Bx.cells (by assumption)) | exact PV.fieldAddrP T.fl56_1 rfl rfl)) ?_
  refine WL.pureG rfl rfl rfl rfl rfl ((by first | exact PV.load0 T.na2 rfl (by first | exact Cells.up (by assumption) hB | exact Bx.cells (by assumption) | assumption) (Ext.refl _) rfl | exact PV.load1 T.na2 rfl (by first | exact Cells.up (by assumption) hB | exact Bx.cells (by assumption) | assumption) (Ext.refl _) rfl)) ?_
  refine WL.opG rfl rfl rfl (OpK.callR rfl T.cf112 rfl (c_spec_l02Word (by first | assumption | exact Rd.up (by assumption) hB | exact Osl.rd (by assumption) | exact Osn.rdR (by assumption) | exact NL.rd (by assumption)) (by first | assumption | omega | (simp only [marks_len, marksB_len, marksR_len]; omega))) (fun w2 hXw2 => ?_))
  have hB := hB.trans hXw2
  refine WL.pure rfl rfl rfl (PV.pickT rfl rfl) ?_
  refine WL.pure rfl rfl rfl (PV.assign rfl) ?_
  refine WL.nilS ?_
  refine CW.ret ?_
  refine RQ.r1 rfl ?_
  refine ⟨?_, hB⟩
  first | exact bE (canB_n1 (by assumption)) | exact bE (canB_n2 (by assumption)) | exact bE (canB_n3 (by omega)) | exact bE (by rw [canB_e1 (by assumption) (by assumption)]; exact decide_eq_decide.2 (by omega)) | exact bE (canB_e2 (by assumption) (by omega))
set_option maxHeartbeats 8000000 in
theorem c_spec_CountTrees {w : World} {a0 : Int} {a1 : Int} {va2 : Value} {xa2 : List R4} {vw : Value} {xs : List Int} (ha2 : Rd ER w va2 xa2) (hw : Rd EI w vw xs) : Calls Try.prog 39 #[.agg #[.int .i64 a0, .int .i64 a1, va2], vw] w (Ret1 (RQt (.tuple #[.int .i64 (onI (canT a0 a1 xa2 xs) (cnt xa2 xs 0 xs.length 0)), .bool (canT a0 a1 xa2 xs)]) w)) := by
  have hB : Ext w w := Ext.refl w
  have hla2 := ha2.leI; have hlw := hw.leI
  refine callsOf (vs := [_, _]) Try.func39 rfl Try.ntmps39 rfl rfl ?_
  refine CW.seq ?_
  refine CW.reg ?_
  refine WL.op rfl (OpK.box rfl rfl (by first | exact Rd.cells1 (by assumption) | exact Osl.cells1 (by assumption) | exact Osn.cells1 (by assumption) | exact Rd.cells1 (NL.rd (by assumption)) | rfl) (fun b1 w1 hXw1 hb1 hge1 => ?_))
  have hl1 := Lo.new hB hge1
  have hB := hB.trans hXw1
  refine WL.pure rfl rfl rfl (PV.assign rfl) ?_
  refine WL.pure rfl rfl rfl (PV.assign rfl) ?_
  refine WL.nilS ?_
  refine CW.seq ?_
  refine CW.seq ?_
  refine CW.reg ?_
  refine WL.pure rfl rfl rfl (PV.move rfl) ?_
  refine WL.op rfl (OpK.callR rfl T.cf82 rfl (c_spec_l06Can (by first | exact Bx.cells (by assumption) | exact Cells.up (by assumption) hB | assumption | exact Cells.add (Bx.cells (by assumption)) _ | exact Cells.add (Cells.up (by assumption) hB) _) (by first | assumption | exact Rd.up (by assumption) hB | exact Osl.rd (by assumption) | exact Osn.rdR (by assumption) | exact NL.rd (by assumption)) (by first | assumption | exact Rd.up (by assumption) hB | exact Osl.rd (by assumption) | exact Osn.rdR (by assumption) | exact NL.rd (by assumption))) (fun w2 hXw2 => ?_))
  have hB := hB.trans hXw2
  have hb1 := hb1.up hXw2
  refine WL.pure rfl rfl rfl (PV.not rfl) ?_
  refine WL.nilS ?_
  refine CW.cond rfl (fun hc1 => ?_) (fun hc1 => ?_)
  · skip
    try simp only [decide_eq_true_eq, decide_eq_false_iff_not, Bool.not_eq_true', Bool.not_eq_false', Bool.not_eq_eq_eq_not, Bool.not_true, Bool.not_false, Int.not_lt, Int.not_le, Classical.not_not, beq_iff_eq, beq_eq_false_iff_ne] at hc1
    refine CW.seq ?_
    refine CW.reg ?_
    refine WL.pure rfl rfl rfl (PV.assign rfl) ?_
    refine WL.pure rfl rfl rfl (PV.assign rfl) ?_
    refine WL.nilS ?_
    refine CW.ret ?_
    refine RQ.then ?_
    refine RQ.r2 rfl rfl ?_
    refine ⟨?_, hB⟩
    first | exact tE2 (iE (by rw [onI_no (by rw [← canT_n1 (by assumption)]; decide)])) (bE (canT_n1 (by assumption))) | exact tE2 (iE (by rw [onI_no (by rw [← canT_n2 hno]; decide)])) (bE (canT_n2 hno)) | (obtain rfl : L = xs.length + 1 := (by omega); have hyo := TDC.okT ht trivial; exact tE2 (iE (by rw [onI_yes (canT_y (by assumption) hyo).symm]; exact ht.topF trivial (by omega) (by omega))) (bE (canT_y (by assumption) hyo)))
  try simp only [decide_eq_true_eq, decide_eq_false_iff_not, Bool.not_eq_true', Bool.not_eq_false', Bool.not_eq_eq_eq_not, Bool.not_true, Bool.not_false, Int.not_lt, Int.not_le, Classical.not_not, beq_iff_eq, beq_eq_false_iff_ne] at hc1
  refine CW.skipS ?_
  refine CW.seq ?_
  refine CW.reg ?_
  have hcan := canB_y (by assumption : canB a0 a1 xa2 xs = true); have hg := hcan.1; have h12 := hcan.2.1; have hg1 := hg.1; have hz := szC (n := xs.length) (s := a0) (by omega) (by omega); have hz1 := hz.1; have hz2 := hz.2.1; have hz3 := hz.2.2
  refine WL.pure rfl rfl rfl (PV.move rfl) ?_
  refine WL.pure rfl rfl rfl ((by first | exact PV.len rfl (by assumption) T.sl22 | exact PV.lenOs rfl (by assumption) T.sl22 | exact PV.len rfl (NL.rd (by assumption)) T.sl22)) ?_
  refine WL.pure rfl rfl rfl (PV.assign rfl) ?_
  refine WL.nilS ?_
  refine CW.seq ?_
  refine CW.reg ?_
  refine WL.pure rfl rfl rfl (PV.move rfl) ?_
  refine WL.pure rfl rfl rfl (PV.add rfl rfl (by constructor <;> omega)) ?_
  refine WL.pure rfl rfl rfl (PV.move rfl) ?_
  refine WL.pure rfl rfl rfl (PV.add rfl rfl (by constructor <;> omega)) ?_
  refine WL.pure rfl rfl rfl (PV.mul rfl rfl (by constructor <;> omega)) ?_
  refine WL.pure rfl rfl rfl ((by first | exact PV.fieldAddr T.fl56_0 rfl (by first | assumption | exact Bx.cells (by assumption)) | exact PV.fieldAddrP T.fl56_0 rfl rfl)) ?_
  refine WL.pure rfl rfl rfl ((by first | exact PV.load0 T.na2 rfl (by first | exact Cells.up (by assumption) hB | exact Bx.cells (by assumption) | assumption) (Ext.refl _) rfl | exact PV.load1 T.na2 rfl (by first | exact Cells.up (by assumption) hB | exact Bx.cells (by assumption) | assumption) (Ext.refl _) rfl)) ?_
  refine WL.pure rfl rfl rfl (PV.mul rfl rfl (by constructor <;> omega)) ?_
  first
    | refine WL.op rfl (OpK.makeS VI (0) rfl T.sl22 T.zv2 rfl rfl rfl (by constructor <;> omega) (fun v2 g2 w3 hXw3 ho2 hge2 => ?_))
    | refine WL.op rfl (OpK.makeSZ VI (0) rfl T.sl22 T.zv2 rfl rfl rfl (by omega) (by constructor <;> omega) (fun v2 g2 w3 hXw3 ho2 hge2 => ?_))
  have hl2 := Lo.new hB hge2
  have hd1_2 := Dj.new hb1.ltO hge2
  have hB := hB.trans hXw3
  have hb1 := hb1.up hXw3
  refine WL.pure rfl rfl rfl (PV.assign rfl) ?_
  refine WL.nilS ?_
  refine CW.seq ?_
  refine CW.seq ?_
  refine CW.reg ?_
  refine WL.pure rfl rfl rfl (PV.assign rfl) ?_
  refine WL.nilS ?_
  refine CW.block ?_
  have hlt1 := hb1.ltO
  have hlt2 := ho2.ltO
  refine CW.loop (σk := [(1, _), (2, _), (6, _), (7, _)]) (fun ρ wz m => ∃ (L : Nat) (ys : List Int), ρ = [(8, .int .i64 (L : Nat))] ∧ m = xs.length + 1 - L ∧ UpdL [(some g2)] w3 wz ∧ Osl VI wz (some g2) v2 (ys) ∧ (1 ≤ L ∧ L ≤ xs.length + 1) ∧ (TDC True xa2 xs a0 (xs.length + 1) a0.toNat (((xs.length : Int) + 1) * ((xs.length : Int) + 1) * a0).toNat ys L 0)) (ρ₀ := [(8, _)]) (m₀ := _) ⟨rfl, rfl, rfl, rfl, rfl, trivial⟩ ⟨1, _, rfl, rfl, (UpdL.refl _ _), osE ho2 (by rfl), (by first | omega | rfl | (simp; done) | assumption | (simp_all; done)), (by exact TDC.zeroF (by omega) (by omega))⟩ ?_
  rintro _ wl1 _ ⟨L, ys, rfl, rfl, hU0, ho2, hL, ht⟩
  have hb1 := hb1.loop hU0 ⟨hd1_2, trivial⟩
  have hk0_2 : OkB [(some g2)] w3 (some g2) := OkB.mem (by simp)
  have hB := hB.loop hU0 ⟨hl2, trivial⟩
  refine CW.seq ?_
  refine CW.seq ?_
  refine CW.reg ?_
  refine WL.pure rfl rfl rfl (PV.move rfl) ?_
  refine WL.pure rfl rfl rfl (PV.move rfl) ?_
  refine WL.pure rfl rfl rfl (PV.leq rfl rfl) ?_
  refine WL.nilS ?_
  refine CW.cond rfl (fun hc2 => ?_) (fun hc2 => ?_)
  · skip
    try simp only [decide_eq_true_eq, decide_eq_false_iff_not, Bool.not_eq_true', Bool.not_eq_false', Bool.not_eq_eq_eq_not, Bool.not_true, Bool.not_false, Int.not_lt, Int.not_le, Classical.not_not, beq_iff_eq, beq_eq_false_iff_ne] at hc2
    refine CW.skipS ?_
    refine CW.seq ?_
    refine CW.block ?_
    refine CW.seq ?_
    refine CW.reg ?_
    refine WL.pure rfl rfl rfl (PV.assign rfl) ?_
    refine WL.nilS ?_
    refine CW.block ?_
    have hlt1 := hb1.ltO
    have hlt2 := ho2.ltO
    refine CW.loop (σk := [(1, _), (2, _), (6, _), (7, _), (8, _)]) (fun ρ wz m => ∃ (f : Nat) (ys : List Int), ρ = [(9, .int .i64 (f : Nat))] ∧ m = xs.length + 1 - f ∧ UpdL [(some g2)] wl1 wz ∧ Osl VI wz (some g2) v2 (ys) ∧ (f + L ≤ xs.length + 1) ∧ (TDC True xa2 xs a0 (xs.length + 1) a0.toNat (((xs.length : Int) + 1) * ((xs.length : Int) + 1) * a0).toNat ys L f)) (ρ₀ := [(9, _)]) (m₀ := _) ⟨rfl, rfl, rfl, rfl, rfl, rfl, trivial⟩ ⟨0, _, rfl, rfl, (UpdL.refl _ _), osE ho2 (by rfl), (by first | omega | rfl | (simp; done) | assumption | (simp_all; done)), (by first | omega | rfl | (simp; done) | assumption | (simp_all; done))⟩ ?_
    rintro _ wl2 _ ⟨f, ys, rfl, rfl, hU1, ho2, hf, ht2⟩
    have hU0 := hU0.trans hU1 ⟨hk0_2, trivial⟩
    have hb1 := hb1.loop hU1 ⟨hd1_2, trivial⟩
    have hk1_2 : OkB [(some g2)] wl1 (some g2) := OkB.mem (by simp)
    have hB := hB.loop hU1 ⟨hl2, trivial⟩
    have hyl := ht2.n
    refine CW.seq ?_
    refine CW.seq ?_
    refine CW.reg ?_
    refine WL.pure rfl rfl rfl (PV.move rfl) ?_
    refine WL.pure rfl rfl rfl (PV.move rfl) ?_
    refine WL.pure rfl rfl rfl (PV.add rfl rfl (by constructor <;> omega)) ?_
    refine WL.pure rfl rfl rfl (PV.move rfl) ?_
    refine WL.pure rfl rfl rfl (PV.leq rfl rfl) ?_
    refine WL.nilS ?_
    refine CW.cond rfl (fun hc3 => ?_) (fun hc3 => ?_)
    · skip
      try simp only [decide_eq_true_eq, decide_eq_false_iff_not, Bool.not_eq_true', Bool.not_eq_false', Bool.not_eq_eq_eq_not, Bool.not_true, Bool.not_false, Int.not_lt, Int.not_le, Classical.not_not, beq_iff_eq, beq_eq_false_iff_ne] at hc3
      refine CW.skipS ?_
      refine CW.seq ?_
      refine CW.block ?_
      refine CW.seq ?_
      refine CW.reg ?_
      have zq := ixC3 (x := f) (y := f) (y2 := L) (n := xs.length) (s := a0) (r := 0) (by omega) (by omega) (by omega) (by omega) (by omega); have zq0 := zq.1; have zq1 := zq.2.1
      refine WL.pure rfl rfl rfl (PV.move rfl) ?_
      refine WL.pure rfl rfl rfl (PV.move rfl) ?_
      refine WL.pure rfl rfl rfl (PV.add rfl rfl (by constructor <;> omega)) ?_
      refine WL.pure rfl rfl rfl (PV.mul rfl rfl (by constructor <;> omega)) ?_
      refine WL.pure rfl rfl rfl (PV.move rfl) ?_
      refine WL.pure rfl rfl rfl (PV.add rfl rfl (by constructor <;> omega)) ?_
      refine WL.pure rfl rfl rfl (PV.move rfl) ?_
      refine WL.pure rfl rfl rfl (PV.add rfl rfl (by constructor <;> omega)) ?_
      refine WL.pure rfl rfl rfl ((by first | exact PV.fieldAddr T.fl56_0 rfl (by first | assumption | exact Bx.cells (by assumption)) | exact PV.fieldAddrP T.fl56_0 rfl rfl)) ?_
      refine WL.pure rfl rfl rfl ((by first | exact PV.load0 T.na2 rfl (by first | exact Cells.up (by assumption) hB | exact Bx.cells (by assumption) | assumption) (Ext.refl _) rfl | exact PV.load1 T.na2 rfl (by first | exact Cells.up (by assumption) hB | exact Bx.cells (by assumption) | assumption) (Ext.refl _) rfl)) ?_
      refine WL.pure rfl rfl rfl (PV.mul rfl rfl (by constructor <;> omega)) ?_
      refine WL.pure rfl rfl rfl (PV.assign rfl) ?_
      refine WL.nilS ?_
      refine CW.seq ?_
      refine CW.reg ?_
      refine WL.pure rfl rfl rfl (PV.assign rfl) ?_
      refine WL.nilS ?_
      refine CW.block ?_
      have hlt1 := hb1.ltO
      have hlt2 := ho2.ltO
      refine CW.loop (σk := [(1, _), (2, _), (6, _), (7, _), (8, _), (9, _), (10, _)]) (fun ρ wz m => ∃ (K : Nat) (ys : List Int), ρ = [(11, .int .i64 (K : Nat))] ∧ m = xa2.length - K ∧ UpdL [(some g2)] wl2 wz ∧ Osl VI wz (some g2) v2 (ys) ∧ (K ≤ xa2.length) ∧ (TQK True xa2 xs a0 (xs.length + 1) a0.toNat (((xs.length : Int) + 1) * ((xs.length : Int) + 1) * a0).toNat ys L f K)) (ρ₀ := [(11, _)]) (m₀ := _) ⟨rfl, rfl, rfl, rfl, rfl, rfl, rfl, rfl, trivial⟩ ⟨0, _, rfl, rfl, (UpdL.refl _ _), osE ho2 (by rfl), (by first | omega | rfl | (simp; done) | assumption | (simp_all; done)), (by exact ht2.start (by omega) (by omega) (fun a => cuK_zero _ _ _ _ _ _))⟩ ?_
      rintro _ wl3 _ ⟨K, ys, rfl, rfl, hU2, ho2, hK, hp0⟩
      have hU0 := hU0.trans hU2 ⟨hk0_2, trivial⟩
      have hU1 := hU1.trans hU2 ⟨hk1_2, trivial⟩
      have hb1 := hb1.loop hU2 ⟨hd1_2, trivial⟩
      have hk2_2 : OkB [(some g2)] wl2 (some g2) := OkB.mem (by simp)
      have hB := hB.loop hU2 ⟨hl2, trivial⟩
      have hp := hp0; have hr32 := hg.2.2.1
      refine CW.seq ?_
      refine CW.seq ?_
      refine CW.reg ?_
      refine WL.pure rfl rfl rfl (PV.move rfl) ?_
      refine WL.pure rfl rfl rfl ((by first | exact PV.fieldAddr T.fl56_2 rfl (by first | assumption | exact Bx.cells (by assumption)) | exact PV.fieldAddrP T.fl56_2 rfl rfl)) ?_
      refine WL.pure rfl rfl rfl ((by first | exact PV.load0 T.na54 rfl (by first | exact Cells.up (by assumption) hB | exact Bx.cells (by assumption) | assumption) (Ext.refl _) rfl | exact PV.load1 T.na54 rfl (by first | exact Cells.up (by assumption) hB | exact Bx.cells (by assumption) | assumption) (Ext.refl _) rfl)) ?_
      refine WL.pure rfl rfl rfl ((by first | exact PV.len rfl (by assumption) T.sl54 | exact PV.lenOs rfl (by assumption) T.sl54 | exact PV.len rfl (NL.rd (by assumption)) T.sl54)) ?_
      refine WL.pure rfl rfl rfl (PV.lss rfl rfl) ?_
      refine WL.nilS ?_
      refine CW.cond rfl (fun hc4 => ?_) (fun hc4 => ?_)
      · skip
        try simp only [decide_eq_true_eq, decide_eq_false_iff_not, Bool.not_eq_true', Bool.not_eq_false', Bool.not_eq_eq_eq_not, Bool.not_true, Bool.not_false, Int.not_lt, Int.not_le, Classical.not_not, beq_iff_eq, beq_eq_false_iff_ne] at hc4
        refine CW.skipS ?_
        refine CW.seq ?_
        refine CW.block ?_
        refine CW.seq ?_
        refine CW.reg ?_
        refine WL.pure rfl rfl rfl ((by first | exact PV.fieldAddr T.fl56_2 rfl (by first | assumption | exact Bx.cells (by assumption)) | exact PV.fieldAddrP T.fl56_2 rfl rfl)) ?_
        refine WL.pure rfl rfl rfl ((by first | exact PV.load0 T.na54 rfl (by first | exact Cells.up (by assumption) hB | exact Bx.cells (by assumption) | assumption) (Ext.refl _) rfl | exact PV.load1 T.na54 rfl (by first | exact Cells.up (by assumption) hB | exact Bx.cells (by assumption) | assumption) (Ext.refl _) rfl)) ?_
        refine WL.pure rfl rfl rfl (PV.move rfl) ?_
        first
          | refine WL.at (x := .tmp 59) (y := .tmp 60) (E := ER) ((0, 0, 0, 0)) rfl rfl (by assumption) (by first | omega | (simp; omega) | (simp_all; omega)) (fun p1 csp1 hpp1 hcp1 hq => ?_)
          | refine WL.atZ (x := .tmp 59) (y := .tmp 60) (E := ER) ((0, 0, 0, 0)) rfl rfl (by assumption) (by first | omega | (simp; omega) | (simp_all; omega)) (fun p1 csp1 hpp1 hzp1 hcp1 hq => ?_)
        cases hq
        refine WL.pure rfl rfl rfl ((by first | exact PV.indexAddr hpp1 rfl rfl T.sl54 | exact PV.indexAddr hpp1 rfl (by rw [← hzp1]; rfl) T.sl54)) ?_
        refine WL.pure rfl rfl rfl ((by first | exact PV.loadA T.ag100 rfl (by first | exact Cells.up (by assumption) hB | exact Bx.cells (by assumption) | assumption) (Ext.refl _) rfl | exact PV.loadP (ds := [_, _, _, _]) T.ag100 rfl (by first | exact Cells.up (by assumption) hB | exact Bx.cells (by assumption) | assumption) (Ext.refl _) rfl rfl)) ?_
        refine WL.op rfl (OpK.alloc rfl T.zv100 rfl (fun b6 w4 hXw4 hb6 hge6 => ?_))
        have hl6 := Lo.new hB hge6
        have hd1_6 := Dj.new hb1.ltO hge6
        have hd2_6 := Dj.new ho2.ltO hge6
        have hk0_6 := OkN.new hU0 hge6
        have hg0_6 := OgR.new hU0.size hge6
        have hk1_6 := OkN.new hU1 hge6
        have hg1_6 := OgR.new hU1.size hge6
        have hk2_6 := OkN.new hU2 hge6
        have hg2_6 := OgR.new hU2.size hge6
        have hB := hB.trans hXw4
        have hb1 := hb1.up hXw4
        have ho2 := ho2.up hXw4
        have hU0 := hU0.ext hXw4
        have hU1 := hU1.ext hXw4
        have hU2 := hU2.ext hXw4
        refine WL.op rfl (OpK.storeA T.sz100 rfl rfl rfl rfl (by simp [Value.oneCell'] <;> first | done | (repeat' apply And.intro) <;> first | rfl | exact Osl.oneCell (by assumption) | exact Osn.oneCell (by assumption) | exact Rd.oneCell (by assumption) | exact Rd.oneCell (NL.rd (by assumption)) | assumption) hb6 (fun w5 hXw5 hb6 => ?_))
        have hB := hB.updL hXw5 hl6
        have hb1 := hb1.updD hXw5 hd1_6
        have ho2 := ho2.updD hXw5 hd2_6
        have hU0 := hU0.step hXw5 hk0_6
        have hU1 := hU1.step hXw5 hk1_6
        have hU2 := hU2.step hXw5 hk2_6
        refine WL.nilS ?_
        refine CW.seq ?_
        refine CW.seq ?_
        refine CW.draw T.mixed (by kernel_rfl) (fun _ _ _ _ _ h => h) (fun w8 w9 => Upd none w8 w9) 16 (.take 0 (.take 1 (.take 2 (.take 3 (.split (.take 4 (.take 5 (.take 6 (.take 7 (.split (.take 8 (.take 9 (.take 10 (.take 11 (.take 12 (.take 13 (.take 14 (.take 15 .done)))))))) (.take 8 (.take 9 (.take 10 (.take 11 (.take 12 (.take 13 (.take 14 (.take 15 .done))))))))))))) (.take 4 (.take 5 (.take 6 (.take 7 (.take 8 (.take 9 (.take 10 (.take 11 (.take 12 (.take 13 (.take 14 (.take 15 .done))))))))))))))))) (by kernel_rfl) (fun w6 hXd => ?_)
        have hB := hB.trans hXd
        have hb1 := hb1.up hXd
        have ho2 := ho2.up hXd
        have hb6 := hb6.up hXd
        have hU0 := hU0.ext hXd
        have hU1 := hU1.ext hXd
        have hU2 := hU2.ext hXd
        have hBr := hB
        have hS : Upd none w6 w6 := Ext.toUpd (Ext.refl _)
        have hgl := gram_left hg K (by omega); have hgl1 : 0 ≤ (xa2.getD K (0, 0, 0, 0)).1 := hgl.1; have hgl2 : (xa2.getD K (0, 0, 0, 0)).1 < a0 := hgl.2; have zp := ixC3 (x := f) (y := f) (y2 := L) (n := xs.length) (s := a0) (r := (xa2.getD K (0, 0, 0, 0)).1) (by omega) (by omega) (by omega) (by omega) ⟨hgl1, hgl2⟩; have hyn := hp.n; have zp0 := zp.1; have zp0b := zp.2.1; have zp1 := zp.2.2.1; have zp2 := zp.2.2.2.1; have zp3 := zp.2.2.2.2; have ec : cl 0 (xs.length + 1) a0.toNat ys f (f + L) (rl xa2 K).1 = ys.getD (((f : Int) * (xs.length + 1) + f + L) * a0 + (xa2.getD K (0, 0, 0, 0)).1).toNat 0 := congrArg (fun q => ys.getD q 0) zp2.symm; have hcr := hp.range (by omega) hgl; rw [ec] at hcr
        refine HP.take rfl rfl rfl rfl hS (fun wS hS1 => (by first | exact PV.fieldAddr T.fl100_2 rfl (by first | assumption | exact Bx.cells (by assumption)) | exact PV.fieldAddrP T.fl100_2 rfl rfl)) ?_
        refine HP.take rfl rfl rfl rfl hS (fun wS hS1 => (by first | exact PV.load0 T.na2 rfl (by first | exact Cells.up (by assumption) (hBr.trans hS1) | exact Bx.cells (Bx.updD (by assumption) hS1 (Dj.nlR _)) | exact Cells.upd (by assumption) hS1 (by simp)) (Ext.refl _) rfl | exact PV.load1 T.na2 rfl (by first | exact Cells.up (by assumption) (hBr.trans hS1) | exact Bx.cells (Bx.updD (by assumption) hS1 (Dj.nlR _)) | exact Cells.upd (by assumption) hS1 (by simp)) (Ext.refl _) rfl)) ?_
        refine HP.take rfl rfl rfl rfl hS (fun wS hS1 => PV.lss rfl rfl) ?_
        refine HP.take rfl rfl rfl rfl hS (fun wS hS1 => PV.move rfl) ?_
        refine HP.split (t := 66) rfl (fun hc5 => ?_) (fun hc5 => ?_)
        rotate_left
        · skip
          try simp only [decide_eq_true_eq, decide_eq_false_iff_not, Bool.not_eq_true', Bool.not_eq_false', Bool.not_eq_eq_eq_not, Bool.not_true, Bool.not_false, Int.not_lt, Int.not_le, Classical.not_not, beq_iff_eq, beq_eq_false_iff_ne] at hc5
          refine HP.skip rfl rfl rfl rfl rfl rfl hS ?_
          refine HP.skip rfl rfl rfl rfl rfl rfl hS ?_
          refine HP.take rfl rfl rfl rfl hS (fun wS hS1 => PV.pickF rfl rfl) ?_
          refine HP.take rfl rfl rfl rfl hS (fun wS hS1 => PV.move rfl) ?_
          refine HP.skip rfl rfl rfl rfl rfl rfl hS ?_
          refine HP.skip rfl rfl rfl rfl rfl rfl hS ?_
          refine HP.skip rfl rfl rfl rfl rfl rfl hS ?_
          refine HP.skip rfl rfl rfl rfl rfl rfl hS ?_
          refine HP.skip rfl rfl rfl rfl rfl rfl hS ?_
          refine HP.skip rfl rfl rfl rfl rfl rfl hS ?_
          refine HP.skip rfl rfl rfl rfl rfl rfl hS ?_
          refine HP.take rfl rfl rfl rfl hS (fun wS hS1 => PV.pickF rfl rfl) ?_
          refine HP.doneS ?_
          refine CW.condF rfl ?_
          refine CW.skipS ?_
          refine CW.seq ?_
          refine CW.reg ?_
          refine WL.pure rfl rfl rfl (PV.move rfl) ?_
          refine WL.pure rfl rfl rfl (PV.add rfl rfl (by constructor <;> omega)) ?_
          refine WL.pure rfl rfl rfl (PV.assign rfl) ?_
          refine WL.nilS ?_
          refine CW.block ?_
          have hlt1 := hb1.ltO
          have hlt2 := ho2.ltO
          have hlt6 := hb6.ltO
          refine CW.loop (σk := [(1, _), (2, _), (6, _), (7, _), (8, _), (9, _), (10, _), (11, _), (12, _)]) (fun ρ wz m => ∃ (M : Nat) (ys : List Int), ρ = [(13, .int .i64 (M : Nat))] ∧ m = f + L - M ∧ UpdL [(some g2)] w6 wz ∧ Osl VI wz (some g2) v2 (ys) ∧ (f + 1 ≤ M ∧ M ≤ f + L) ∧ (TQM True xa2 xs a0 (xs.length + 1) a0.toNat (((xs.length : Int) + 1) * ((xs.length : Int) + 1) * a0).toNat ys L f K M) ∧ (cl 0 (xs.length + 1) a0.toNat ys f (f + L) (rl xa2 K).1 ≤ 1000000000)) (ρ₀ := [(13, _)]) (m₀ := _) ⟨rfl, rfl, rfl, rfl, rfl, rfl, rfl, rfl, rfl, rfl, trivial⟩ ⟨f + 1, _, rfl, rfl, (UpdL.refl _ _), osE ho2 (by rfl), (by first | omega | rfl | (simp; done) | assumption | (simp_all; done)), (by first | exact hp0.open_no (fun h9 => by have h91 : (xa2.getD K (0, 0, 0, 0)).2.2.1 < 0 := h9.1; have h92 := h9.2.1; first | omega | exact absurd h9.2.2 (by assumption)) | (rw [← ec, zp2]; exact hp0.open_leaf hg (by omega) (by omega) (by omega) (by omega) (by omega) (by omega) (by assumption) (by omega) (by assumption))), (by first | (have h9 := (hp0.so _ hgl.1 hgl.2).2.2.2 trivial; exact h9.2) | (rw [← ec, zp2, cl_eq (by omega)]; have h9 := (hp0.so _ hgl.1 hgl.2).2.1 (by omega); omega))⟩ ?_
          rintro _ wl4 _ ⟨M, ys, rfl, rfl, hU3, ho2, hm, hp, hs9⟩
          have hU0 := hU0.trans hU3 ⟨hk0_2, trivial⟩
          have hU1 := hU1.trans hU3 ⟨hk1_2, trivial⟩
          have hU2 := hU2.trans hU3 ⟨hk2_2, trivial⟩
          have hb1 := hb1.loop hU3 ⟨hd1_2, trivial⟩
          have hb6 := hb6.loop hU3 ⟨(Dj.symm hd2_6), trivial⟩
          have hk3_2 : OkB [(some g2)] w6 (some g2) := OkB.mem (by simp)
          have hB := hB.loop hU3 ⟨hl2, trivial⟩
          refine CW.seq ?_
          refine CW.seq ?_
          refine CW.reg ?_
          refine WL.pure rfl rfl rfl (PV.move rfl) ?_
          refine WL.pure rfl rfl rfl (PV.move rfl) ?_
          refine WL.pure rfl rfl rfl (PV.move rfl) ?_
          refine WL.pure rfl rfl rfl (PV.add rfl rfl (by constructor <;> omega)) ?_
          refine WL.pure rfl rfl rfl (PV.lss rfl rfl) ?_
          refine WL.pure rfl rfl rfl (PV.move rfl) ?_
          refine WL.split (t := 95) rfl (fun hc6 => ?_) (fun hc6 => ?_)
          rotate_left
          · skip
            try simp only [decide_eq_true_eq, decide_eq_false_iff_not, Bool.not_eq_true', Bool.not_eq_false', Bool.not_eq_eq_eq_not, Bool.not_true, Bool.not_false, Int.not_lt, Int.not_le, Classical.not_not, beq_iff_eq, beq_eq_false_iff_ne] at hc6
            refine WL.skip rfl rfl rfl rfl rfl ?_
            refine WL.skip rfl rfl rfl rfl rfl ?_
            refine WL.skip rfl rfl rfl rfl rfl ?_
            refine WL.pure rfl rfl rfl (PV.pickF rfl rfl) ?_
            refine WL.nilS ?_
            refine CW.condF rfl ?_
            refine CW.exit ?_
            refine XQ.then ?_
            refine XQ.then ?_
            refine XQ.here ?_
            refine NQ.block ?_
            refine NQ.then ?_
            refine CW.reg ?_
            refine WL.pure rfl rfl rfl (PV.move rfl) ?_
            refine WL.pure rfl rfl rfl (PV.add rfl rfl (by constructor <;> omega)) ?_
            refine WL.pure rfl rfl rfl (PV.assign rfl) ?_
            refine WL.nil ?_
            refine NQ.next (ρ := [(11, _)]) ⟨rfl, rfl, rfl, rfl, rfl, rfl, rfl, rfl, trivial⟩ ?_
            exact ⟨_, ⟨K + 1, _, rfl, rfl, hU2, osE ho2 (by rfl), (by first | omega | assumption | (simp_all; done) | (simp_all; omega)), (by exact hp.close (by first | exact .inl (by omega) | exact .inr (by assumption)) (by omega) (fun _ => hs9))⟩, by omega⟩
          try simp only [decide_eq_true_eq, decide_eq_false_iff_not, Bool.not_eq_true', Bool.not_eq_false', Bool.not_eq_eq_eq_not, Bool.not_true, Bool.not_false, Int.not_lt, Int.not_le, Classical.not_not, beq_iff_eq, beq_eq_false_iff_ne] at hc6
          refine WL.pureG rfl rfl rfl rfl rfl ((by first | exact PV.fieldAddr T.fl100_2 rfl (by first | assumption | exact Bx.cells (by assumption)) | exact PV.fieldAddrP T.fl100_2 rfl rfl)) ?_
          refine WL.pureG rfl rfl rfl rfl rfl ((by first | exact PV.load0 T.na2 rfl (by first | exact Cells.up (by assumption) hB | exact Bx.cells (by assumption) | assumption) (Ext.refl _) rfl | exact PV.load1 T.na2 rfl (by first | exact Cells.up (by assumption) hB | exact Bx.cells (by assumption) | assumption) (Ext.refl _) rfl)) ?_
          refine WL.pureG rfl rfl rfl rfl rfl (PV.geq rfl rfl) ?_
          refine WL.pure rfl rfl rfl (PV.pickT rfl rfl) ?_
          refine WL.nilS ?_
          refine CW.cond rfl (fun hc7 => ?_) (fun hc7 => ?_)
          · skip
            try simp only [decide_eq_true_eq, decide_eq_false_iff_not, Bool.not_eq_true', Bool.not_eq_false', Bool.not_eq_eq_eq_not, Bool.not_true, Bool.not_false, Int.not_lt, Int.not_le, Classical.not_not, beq_iff_eq, beq_eq_false_iff_ne] at hc7
            refine CW.skipS ?_
            refine CW.seq ?_
            refine CW.block ?_
            refine CW.seq ?_
            refine CW.draw T.mixed (by kernel_rfl) (fun _ _ _ _ _ h => h) (fun w8 w9 => Upd none w8 w9) 42 (.take 0 (.take 1 (.take 2 (.take 3 (.take 4 (.take 5 (.take 6 (.take 7 (.take 8 (.take 9 (.take 10 (.take 11 (.take 12 (.take 13 (.take 14 (.take 15 (.take 16 (.take 17 (.take 18 (.take 19 (.take 20 (.take 21 (.take 22 (.take 23 (.take 24 (.take 25 (.take 26 (.take 27 (.take 28 (.take 29 (.take 30 (.take 31 (.take 32 (.take 33 (.take 34 (.take 35 (.take 36 (.take 37 (.take 38 (.take 39 (.take 40 (.take 41 (.must 42 .done))))))))))))))))))))))))))))))))))))))))))) (by kernel_rfl) (fun w7 hXd => ?_)
            have hB := hB.trans hXd
            have hb1 := hb1.up hXd
            have ho2 := ho2.up hXd
            have hb6 := hb6.up hXd
            have hU0 := hU0.ext hXd
            have hU1 := hU1.ext hXd
            have hU2 := hU2.ext hXd
            have hU3 := hU3.ext hXd
            have hBr := hB
            have hS : Upd none w7 w7 := Ext.toUpd (Ext.refl _)
            have hgl := gram_left hg K (by omega); have hgl1 : 0 ≤ (xa2.getD K (0, 0, 0, 0)).1 := hgl.1; have hgl2 : (xa2.getD K (0, 0, 0, 0)).1 < a0 := hgl.2; have zp := ixC3 (x := f) (y := f) (y2 := L) (n := xs.length) (s := a0) (r := (xa2.getD K (0, 0, 0, 0)).1) (by omega) (by omega) (by omega) (by omega) ⟨hgl1, hgl2⟩; have hyn := hp.n; have zp0 := zp.1; have zp0b := zp.2.1; have zp1 := zp.2.2.1; have zp2 := zp.2.2.2.1; have zp3 := zp.2.2.2.2; have ec : cl 0 (xs.length + 1) a0.toNat ys f (f + L) (rl xa2 K).1 = ys.getD (((f : Int) * (xs.length + 1) + f + L) * a0 + (xa2.getD K (0, 0, 0, 0)).1).toNat 0 := congrArg (fun q => ys.getD q 0) zp2.symm; have hcr := hp.range (by omega) hgl; rw [ec] at hcr; have hgn := gram_node hg (k := K) (by omega) (by assumption); have gn1 : 0 ≤ (xa2.getD K (0, 0, 0, 0)).2.1 ∧ (xa2.getD K (0, 0, 0, 0)).2.1 < a0 := hgn.1; have gn2 : 0 ≤ (xa2.getD K (0, 0, 0, 0)).2.2.1 ∧ (xa2.getD K (0, 0, 0, 0)).2.2.1 < a0 := hgn.2; have za := ixC (x := f) (y := M) (n := xs.length) (s := a0) (r := (xa2.getD K (0, 0, 0, 0)).2.1) (by omega) (by omega) (by omega) (by omega) gn1; have zb := ixC3 (x := M) (y := f) (y2 := L) (n := xs.length) (s := a0) (r := (xa2.getD K (0, 0, 0, 0)).2.2.1) (by omega) (by omega) (by omega) (by omega) gn2; have za1 := za.2.2.1; have za2 := za.2.2.2.1; have zb1 := zb.2.2.1; have zb2 := zb.2.2.2.1; have za0 := za.1; have zb0 := zb.1; have za3 := za.2.1; have zb3 := zb.2.1; have hsb := hp.sub hg (by omega) (by omega) (by assumption) (by omega) (by omega); have ea : cl 0 (xs.length + 1) a0.toNat ys f M (rl xa2 K).2.1 = ys.getD (((f : Int) * (xs.length + 1) + M) * a0 + (xa2.getD K (0, 0, 0, 0)).2.1).toNat 0 := congrArg (fun q => ys.getD q 0) za2.symm; have eb : cl 0 (xs.length + 1) a0.toNat ys M (f + L) (rl xa2 K).2.2.1 = ys.getD (((M : Int) * (xs.length + 1) + f + L) * a0 + (xa2.getD K (0, 0, 0, 0)).2.2.1).toNat 0 := congrArg (fun q => ys.getD q 0) zb2.symm; rw [ea, eb] at hsb; have hmb := mul_bd hsb.1 hsb.2; have e0 := gset_eq (l := ys) (i := (((f : Int) * (xs.length + 1) + f + L) * a0 + (xa2.getD K (0, 0, 0, 0)).1).toNat) (v := ys.getD (((f : Int) * (xs.length + 1) + f + L) * a0 + (xa2.getD K (0, 0, 0, 0)).1).toNat 0 + ys.getD (((f : Int) * (xs.length + 1) + M) * a0 + (xa2.getD K (0, 0, 0, 0)).2.1).toNat 0 * ys.getD (((M : Int) * (xs.length + 1) + f + L) * a0 + (xa2.getD K (0, 0, 0, 0)).2.2.1).toNat 0) (by omega)
            refine HP.take rfl rfl rfl rfl hS (fun wS hS1 => PV.move rfl) ?_
            refine HP.take rfl rfl rfl rfl hS (fun wS hS1 => PV.move rfl) ?_
            refine HP.take rfl rfl rfl rfl hS (fun wS hS1 => (by first | exact PV.fieldAddr T.fl100_0 rfl (by first | assumption | exact Bx.cells (by assumption)) | exact PV.fieldAddrP T.fl100_0 rfl rfl)) ?_
            refine HP.take rfl rfl rfl rfl hS (fun wS hS1 => (by first | exact PV.load0 T.na2 rfl (by first | exact Cells.up (by assumption) (hBr.trans hS1) | exact Bx.cells (Bx.updD (by assumption) hS1 (Dj.nlR _)) | exact Cells.upd (by assumption) hS1 (by simp)) (Ext.refl _) rfl | exact PV.load1 T.na2 rfl (by first | exact Cells.up (by assumption) (hBr.trans hS1) | exact Bx.cells (Bx.updD (by assumption) hS1 (Dj.nlR _)) | exact Cells.upd (by assumption) hS1 (by simp)) (Ext.refl _) rfl)) ?_
            refine HP.take rfl rfl rfl rfl hS (fun wS hS1 => PV.add rfl rfl (by constructor <;> omega)) ?_
            first
              | refine HP.atO (wb := w7) (x := .tmp 102) (y := .tmp 106) (f := VI) (0) rfl rfl (by assumption) (by first | omega | (simp; omega) | (simp_all; omega)) (fun p2 hpp2 hcp2 => ?_)
              | refine HP.atOZ (wb := w7) (x := .tmp 102) (y := .tmp 106) (f := VI) (0) rfl rfl (by assumption) (by first | omega | (simp; omega) | (simp_all; omega)) (fun p2 hpp2 hzp2 hcp2 => ?_)
            refine HP.take rfl rfl rfl rfl hS (fun wS hS1 => (by first | exact PV.indexAddr hpp2 rfl rfl T.sl22 | exact PV.indexAddr hpp2 rfl (by rw [← hzp2]; rfl) T.sl22)) ?_
            refine HP.take rfl rfl rfl rfl hS (fun wS hS1 => (by first | exact PV.load0 T.na2 rfl (by first | exact Cells.up (by assumption) (hBr.trans hS1) | exact Bx.cells (Bx.updD (by assumption) hS1 (Dj.nlR _)) | exact Cells.upd (by assumption) hS1 (by simp)) (Ext.refl _) rfl | exact PV.load1 T.na2 rfl (by first | exact Cells.up (by assumption) (hBr.trans hS1) | exact Bx.cells (Bx.updD (by assumption) hS1 (Dj.nlR _)) | exact Cells.upd (by assumption) hS1 (by simp)) (Ext.refl _) rfl)) ?_
            refine HP.take rfl rfl rfl rfl hS (fun wS hS1 => PV.move rfl) ?_
            refine HP.take rfl rfl rfl rfl hS (fun wS hS1 => PV.move rfl) ?_
            refine HP.take rfl rfl rfl rfl hS (fun wS hS1 => PV.move rfl) ?_
            refine HP.take rfl rfl rfl rfl hS (fun wS hS1 => PV.add rfl rfl (by constructor <;> omega)) ?_
            refine HP.take rfl rfl rfl rfl hS (fun wS hS1 => PV.mul rfl rfl (by constructor <;> omega)) ?_
            refine HP.take rfl rfl rfl rfl hS (fun wS hS1 => PV.move rfl) ?_
            refine HP.take rfl rfl rfl rfl hS (fun wS hS1 => PV.add rfl rfl (by constructor <;> omega)) ?_
            refine HP.take rfl rfl rfl rfl hS (fun wS hS1 => (by first | exact PV.fieldAddr T.fl56_0 rfl (by first | assumption | exact Bx.cells (by assumption)) | exact PV.fieldAddrP T.fl56_0 rfl rfl)) ?_
            refine HP.take rfl rfl rfl rfl hS (fun wS hS1 => (by first | exact PV.load0 T.na2 rfl (by first | exact Cells.up (by assumption) (hBr.trans hS1) | exact Bx.cells (Bx.updD (by assumption) hS1 (Dj.nlR _)) | exact Cells.upd (by assumption) hS1 (by simp)) (Ext.refl _) rfl | exact PV.load1 T.na2 rfl (by first | exact Cells.up (by assumption) (hBr.trans hS1) | exact Bx.cells (Bx.updD (by assumption) hS1 (Dj.nlR _)) | exact Cells.upd (by assumption) hS1 (by simp)) (Ext.refl _) rfl)) ?_
            refine HP.take rfl rfl rfl rfl hS (fun wS hS1 => PV.mul rfl rfl (by constructor <;> omega)) ?_
            refine HP.take rfl rfl rfl rfl hS (fun wS hS1 => (by first | exact PV.fieldAddr T.fl100_1 rfl (by first | assumption | exact Bx.cells (by assumption)) | exact PV.fieldAddrP T.fl100_1 rfl rfl)) ?_
            refine HP.take rfl rfl rfl rfl hS (fun wS hS1 => (by first | exact PV.load0 T.na2 rfl (by first | exact Cells.up (by assumption) (hBr.trans hS1) | exact Bx.cells (Bx.updD (by assumption) hS1 (Dj.nlR _)) | exact Cells.upd (by assumption) hS1 (by simp)) (Ext.refl _) rfl | exact PV.load1 T.na2 rfl (by first | exact Cells.up (by assumption) (hBr.trans hS1) | exact Bx.cells (Bx.updD (by assumption) hS1 (Dj.nlR _)) | exact Cells.upd (by assumption) hS1 (by simp)) (Ext.refl _) rfl)) ?_
            refine HP.take rfl rfl rfl rfl hS (fun wS hS1 => PV.add rfl rfl (by constructor <;> omega)) ?_
            first
              | refine HP.atO (wb := w7) (x := .tmp 109) (y := .tmp 121) (f := VI) (0) rfl rfl (by assumption) (by first | omega | (simp; omega) | (simp_all; omega)) (fun p3 hpp3 hcp3 => ?_)
              | refine HP.atOZ (wb := w7) (x := .tmp 109) (y := .tmp 121) (f := VI) (0) rfl rfl (by assumption) (by first | omega | (simp; omega) | (simp_all; omega)) (fun p3 hpp3 hzp3 hcp3 => ?_)
            refine HP.take rfl rfl rfl rfl hS (fun wS hS1 => (by first | exact PV.indexAddr hpp3 rfl rfl T.sl22 | exact PV.indexAddr hpp3 rfl (by rw [← hzp3]; rfl) T.sl22)) ?_
            refine HP.take rfl rfl rfl rfl hS (fun wS hS1 => (by first | exact PV.load0 T.na2 rfl (by first | exact Cells.up (by assumption) (hBr.trans hS1) | exact Bx.cells (Bx.updD (by assumption) hS1 (Dj.nlR _)) | exact Cells.upd (by assumption) hS1 (by simp)) (Ext.refl _) rfl | exact PV.load1 T.na2 rfl (by first | exact Cells.up (by assumption) (hBr.trans hS1) | exact Bx.cells (Bx.updD (by assumption) hS1 (Dj.nlR _)) | exact Cells.upd (by assumption) hS1 (by simp)) (Ext.refl _) rfl)) ?_
            refine HP.take rfl rfl rfl rfl hS (fun wS hS1 => PV.move rfl) ?_
            refine HP.take rfl rfl rfl rfl hS (fun wS hS1 => PV.move rfl) ?_
            refine HP.take rfl rfl rfl rfl hS (fun wS hS1 => PV.move rfl) ?_
            refine HP.take rfl rfl rfl rfl hS (fun wS hS1 => PV.add rfl rfl (by constructor <;> omega)) ?_
            refine HP.take rfl rfl rfl rfl hS (fun wS hS1 => PV.mul rfl rfl (by constructor <;> omega)) ?_
            refine HP.take rfl rfl rfl rfl hS (fun wS hS1 => PV.move rfl) ?_
            refine HP.take rfl rfl rfl rfl hS (fun wS hS1 => PV.add rfl rfl (by constructor <;> omega)) ?_
            refine HP.take rfl rfl rfl rfl hS (fun wS hS1 => PV.move rfl) ?_
            refine HP.take rfl rfl rfl rfl hS (fun wS hS1 => PV.add rfl rfl (by constructor <;> omega)) ?_
            refine HP.take rfl rfl rfl rfl hS (fun wS hS1 => (by first | exact PV.fieldAddr T.fl56_0 rfl (by first | assumption | exact Bx.cells (by assumption)) | exact PV.fieldAddrP T.fl56_0 rfl rfl)) ?_
            refine HP.take rfl rfl rfl rfl hS (fun wS hS1 => (by first | exact PV.load0 T.na2 rfl (by first | exact Cells.up (by assumption) (hBr.trans hS1) | exact Bx.cells (Bx.updD (by assumption) hS1 (Dj.nlR _)) | exact Cells.upd (by assumption) hS1 (by simp)) (Ext.refl _) rfl | exact PV.load1 T.na2 rfl (by first | exact Cells.up (by assumption) (hBr.trans hS1) | exact Bx.cells (Bx.updD (by assumption) hS1 (Dj.nlR _)) | exact Cells.upd (by assumption) hS1 (by simp)) (Ext.refl _) rfl)) ?_
            refine HP.take rfl rfl rfl rfl hS (fun wS hS1 => PV.mul rfl rfl (by constructor <;> omega)) ?_
            refine HP.take rfl rfl rfl rfl hS (fun wS hS1 => (by first | exact PV.fieldAddr T.fl100_2 rfl (by first | assumption | exact Bx.cells (by assumption)) | exact PV.fieldAddrP T.fl100_2 rfl rfl)) ?_
            refine HP.take rfl rfl rfl rfl hS (fun wS hS1 => (by first | exact PV.load0 T.na2 rfl (by first | exact Cells.up (by assumption) (hBr.trans hS1) | exact Bx.cells (Bx.updD (by assumption) hS1 (Dj.nlR _)) | exact Cells.upd (by assumption) hS1 (by simp)) (Ext.refl _) rfl | exact PV.load1 T.na2 rfl (by first | exact Cells.up (by assumption) (hBr.trans hS1) | exact Bx.cells (Bx.updD (by assumption) hS1 (Dj.nlR _)) | exact Cells.upd (by assumption) hS1 (by simp)) (Ext.refl _) rfl)) ?_
            refine HP.take rfl rfl rfl rfl hS (fun wS hS1 => PV.add rfl rfl (by constructor <;> omega)) ?_
            first
              | refine HP.atO (wb := w7) (x := .tmp 124) (y := .tmp 138) (f := VI) (0) rfl rfl (by assumption) (by first | omega | (simp; omega) | (simp_all; omega)) (fun p4 hpp4 hcp4 => ?_)
              | refine HP.atOZ (wb := w7) (x := .tmp 124) (y := .tmp 138) (f := VI) (0) rfl rfl (by assumption) (by first | omega | (simp; omega) | (simp_all; omega)) (fun p4 hpp4 hzp4 hcp4 => ?_)
            refine HP.take rfl rfl rfl rfl hS (fun wS hS1 => (by first | exact PV.indexAddr hpp4 rfl rfl T.sl22 | exact PV.indexAddr hpp4 rfl (by rw [← hzp4]; rfl) T.sl22)) ?_
            refine HP.take rfl rfl rfl rfl hS (fun wS hS1 => (by first | exact PV.load0 T.na2 rfl (by first | exact Cells.up (by assumption) (hBr.trans hS1) | exact Bx.cells (Bx.updD (by assumption) hS1 (Dj.nlR _)) | exact Cells.upd (by assumption) hS1 (by simp)) (Ext.refl _) rfl | exact PV.load1 T.na2 rfl (by first | exact Cells.up (by assumption) (hBr.trans hS1) | exact Bx.cells (Bx.updD (by assumption) hS1 (Dj.nlR _)) | exact Cells.upd (by assumption) hS1 (by simp)) (Ext.refl _) rfl)) ?_
            refine HP.take rfl rfl rfl rfl hS (fun wS hS1 => PV.mul rfl rfl (by constructor <;> omega)) ?_
            refine HP.take rfl rfl rfl rfl hS (fun wS hS1 => PV.add rfl rfl (by constructor <;> omega)) ?_
            first
              | refine HP.atO (wb := w7) (x := .tmp 102) (y := .tmp 106) (f := VI) (0) rfl rfl (by assumption) (by first | omega | (simp; omega) | (simp_all; omega)) (fun p5 hpp5 hcp5 => ?_)
              | refine HP.atOZ (wb := w7) (x := .tmp 102) (y := .tmp 106) (f := VI) (0) rfl rfl (by assumption) (by first | omega | (simp; omega) | (simp_all; omega)) (fun p5 hpp5 hzp5 hcp5 => ?_)
            refine HP.take rfl rfl rfl rfl hS (fun wS hS1 => (by first | exact PV.indexAddr hpp5 rfl rfl T.sl22 | exact PV.indexAddr hpp5 rfl (by rw [← hzp5]; rfl) T.sl22)) ?_
            refine HP.last rfl rfl (OpK.storeS VI T.sz2 rfl rfl rfl hpp5 ho2 (fun w8 hXw8 ho2 => ?_))
            have hB := hB.updL hXw8 hl2
            have hb1 := hb1.updD hXw8 hd1_2
            have hb6 := hb6.updD hXw8 (Dj.symm hd2_6)
            have hU0 := hU0.step hXw8 hk0_2
            have hU1 := hU1.step hXw8 hk1_2
            have hU2 := hU2.step hXw8 hk2_2
            have hU3 := hU3.step hXw8 hk3_2
            refine HP.doneS ?_
            refine CW.seq ?_
            refine CW.reg ?_
            refine WL.pure rfl rfl rfl (PV.move rfl) ?_
            refine WL.pure rfl rfl rfl (PV.move rfl) ?_
            refine WL.pure rfl rfl rfl ((by first | exact PV.fieldAddr T.fl100_0 rfl (by first | assumption | exact Bx.cells (by assumption)) | exact PV.fieldAddrP T.fl100_0 rfl rfl)) ?_
            refine WL.pure rfl rfl rfl ((by first | exact PV.load0 T.na2 rfl (by first | exact Cells.up (by assumption) hB | exact Bx.cells (by assumption) | assumption) (Ext.refl _) rfl | exact PV.load1 T.na2 rfl (by first | exact Cells.up (by assumption) hB | exact Bx.cells (by assumption) | assumption) (Ext.refl _) rfl)) ?_
            refine WL.pure rfl rfl rfl (PV.add rfl rfl (by constructor <;> omega)) ?_
            first
              | refine WL.atO (x := .tmp 144) (y := .tmp 148) (f := VI) (0) rfl rfl ho2 (by simp only [List.length_set]; omega) (fun p6 hpp6 hcp6 => ?_)
              | refine WL.atOZ (x := .tmp 144) (y := .tmp 148) (f := VI) (0) rfl rfl ho2 (by simp only [List.length_set]; omega) (fun p6 hpp6 hzp6 hcp6 => ?_)
            refine WL.pure rfl rfl rfl ((by first | exact PV.indexAddr hpp6 rfl rfl T.sl22 | exact PV.indexAddr hpp6 rfl (by rw [← hzp6]; rfl) T.sl22)) ?_
            refine WL.pure rfl rfl rfl ((by first | exact PV.load0 T.na2 rfl (by first | exact Cells.up (by assumption) hB | exact Bx.cells (by assumption) | assumption) (Ext.refl _) rfl | exact PV.load1 T.na2 rfl (by first | exact Cells.up (by assumption) hB | exact Bx.cells (by assumption) | assumption) (Ext.refl _) rfl)) ?_
            refine WL.pure rfl rfl rfl (PV.gtr rfl rfl) ?_
            refine WL.nilS ?_
            refine CW.cond rfl (fun hc8 => ?_) (fun hc8 => ?_)
            · skip
              try simp only [decide_eq_true_eq, decide_eq_false_iff_not, Bool.not_eq_true', Bool.not_eq_false', Bool.not_eq_eq_eq_not, Bool.not_true, Bool.not_false, Int.not_lt, Int.not_le, Classical.not_not, beq_iff_eq, beq_eq_false_iff_ne] at hc8
              have hno := hp.bad2 trivial hg (by omega) (by omega) (by omega) (by omega) (by omega) (by omega) (by rw [ec, ea, eb]; omega)
              refine CW.seq ?_
              refine CW.reg ?_
              refine WL.pure rfl rfl rfl (PV.assign rfl) ?_
              refine WL.pure rfl rfl rfl (PV.assign rfl) ?_
              refine WL.nilS ?_
              refine CW.ret ?_
              refine RQ.block ?_
              refine RQ.then ?_
              refine RQ.then ?_
              refine RQ.block ?_
              refine RQ.block ?_
              refine RQ.then ?_
              refine RQ.then ?_
              refine RQ.block ?_
              refine RQ.block ?_
              refine RQ.then ?_
              refine RQ.then ?_
              refine RQ.block ?_
              refine RQ.block ?_
              refine RQ.then ?_
              refine RQ.then ?_
              refine RQ.block ?_
              refine RQ.then ?_
              refine RQ.r2 rfl rfl ?_
              refine ⟨?_, hB⟩
              first | exact tE2 (iE (by rw [onI_no (by rw [← canT_n1 (by assumption)]; decide)])) (bE (canT_n1 (by assumption))) | exact tE2 (iE (by rw [onI_no (by rw [← canT_n2 hno]; decide)])) (bE (canT_n2 hno)) | (obtain rfl : L = xs.length + 1 := (by omega); have hyo := TDC.okT ht trivial; exact tE2 (iE (by rw [onI_yes (canT_y (by assumption) hyo).symm]; exact ht.topF trivial (by omega) (by omega))) (bE (canT_y (by assumption) hyo)))
            try simp only [decide_eq_true_eq, decide_eq_false_iff_not, Bool.not_eq_true', Bool.not_eq_false', Bool.not_eq_eq_eq_not, Bool.not_true, Bool.not_false, Int.not_lt, Int.not_le, Classical.not_not, beq_iff_eq, beq_eq_false_iff_ne] at hc8
            refine CW.skip ?_
            refine NQ.block ?_
            refine NQ.then ?_
            refine CW.reg ?_
            refine WL.pure rfl rfl rfl (PV.move rfl) ?_
            refine WL.pure rfl rfl rfl (PV.add rfl rfl (by constructor <;> omega)) ?_
            refine WL.pure rfl rfl rfl (PV.assign rfl) ?_
            refine WL.nil ?_
            refine NQ.next (ρ := [(13, _)]) ⟨rfl, rfl, rfl, rfl, rfl, rfl, rfl, rfl, rfl, rfl, trivial⟩ ?_
            exact ⟨_, ⟨M + 1, _, rfl, rfl, hU3, osE ho2 (by rfl), (by first | omega | assumption | (simp_all; done) | (simp_all; omega)), (by rw [← ec, ← ea, ← eb, zp2]; exact hp.step hg (by omega) (by omega) (by omega) (by omega) (by omega) (by assumption) (by omega) (by omega) (by rw [ec, ea, eb]; omega)), (by rw [← ec, ← ea, ← eb, zp2, cl_eq (by omega), ec, ea, eb]; omega)⟩, by omega⟩
          try simp only [decide_eq_true_eq, decide_eq_false_iff_not, Bool.not_eq_true', Bool.not_eq_false', Bool.not_eq_eq_eq_not, Bool.not_true, Bool.not_false, Int.not_lt, Int.not_le, Classical.not_not, beq_iff_eq, beq_eq_false_iff_ne] at hc7
          refine CW.exit ?_
          refine XQ.then ?_
          refine XQ.then ?_
          refine XQ.here ?_
          refine NQ.block ?_
          refine NQ.then ?_
          refine CW.reg ?_
          refine WL.pure rfl rfl rfl (PV.move rfl) ?_
          refine WL.pure rfl rfl rfl (PV.add rfl rfl (by constructor <;> omega)) ?_
          refine WL.pure rfl rfl rfl (PV.assign rfl) ?_
          refine WL.nil ?_
          refine NQ.next (ρ := [(11, _)]) ⟨rfl, rfl, rfl, rfl, rfl, rfl, rfl, rfl, trivial⟩ ?_
          exact ⟨_, ⟨K + 1, _, rfl, rfl, hU2, osE ho2 (by rfl), (by first | omega | assumption | (simp_all; done) | (simp_all; omega)), (by exact hp.close (by first | exact .inl (by omega) | exact .inr (by assumption)) (by omega) (fun _ => hs9))⟩, by omega⟩
        try simp only [decide_eq_true_eq, decide_eq_false_iff_not, Bool.not_eq_true', Bool.not_eq_false', Bool.not_eq_eq_eq_not, Bool.not_true, Bool.not_false, Int.not_lt, Int.not_le, Classical.not_not, beq_iff_eq, beq_eq_false_iff_ne] at hc5
        refine HP.takeG rfl rfl rfl rfl rfl rfl hS (fun wS hS1 => PV.move rfl) ?_
        refine HP.takeG rfl rfl rfl rfl rfl rfl hS (fun wS hS1 => PV.eql rfl rfl) ?_
        refine HP.take rfl rfl rfl rfl hS (fun wS hS1 => PV.pickT rfl rfl) ?_
        refine HP.take rfl rfl rfl rfl hS (fun wS hS1 => PV.move rfl) ?_
        refine HP.split (t := 70) rfl (fun hc9 => ?_) (fun hc9 => ?_)
        rotate_left
        · skip
          try simp only [decide_eq_true_eq, decide_eq_false_iff_not, Bool.not_eq_true', Bool.not_eq_false', Bool.not_eq_eq_eq_not, Bool.not_true, Bool.not_false, Int.not_lt, Int.not_le, Classical.not_not, beq_iff_eq, beq_eq_false_iff_ne] at hc9
          refine HP.skip rfl rfl rfl rfl rfl rfl hS ?_
          refine HP.skip rfl rfl rfl rfl rfl rfl hS ?_
          refine HP.skip rfl rfl rfl rfl rfl rfl hS ?_
          refine HP.skip rfl rfl rfl rfl rfl rfl hS ?_
          refine HP.skip rfl rfl rfl rfl rfl rfl hS ?_
          refine HP.skip rfl rfl rfl rfl rfl rfl hS ?_
          refine HP.skip rfl rfl rfl rfl rfl rfl hS ?_
          refine HP.take rfl rfl rfl rfl hS (fun wS hS1 => PV.pickF rfl rfl) ?_
          refine HP.doneS ?_
          refine CW.condF rfl ?_
          refine CW.skipS ?_
          refine CW.seq ?_
          refine CW.reg ?_
          refine WL.pure rfl rfl rfl (PV.move rfl) ?_
          refine WL.pure rfl rfl rfl (PV.add rfl rfl (by constructor <;> omega)) ?_
          refine WL.pure rfl rfl rfl (PV.assign rfl) ?_
          refine WL.nilS ?_
          refine CW.block ?_
          have hlt1 := hb1.ltO
          have hlt2 := ho2.ltO
          have hlt6 := hb6.ltO
          refine CW.loop (σk := [(1, _), (2, _), (6, _), (7, _), (8, _), (9, _), (10, _), (11, _), (12, _)]) (fun ρ wz m => ∃ (M : Nat) (ys : List Int), ρ = [(13, .int .i64 (M : Nat))] ∧ m = f + L - M ∧ UpdL [(some g2)] w6 wz ∧ Osl VI wz (some g2) v2 (ys) ∧ (f + 1 ≤ M ∧ M ≤ f + L) ∧ (TQM True xa2 xs a0 (xs.length + 1) a0.toNat (((xs.length : Int) + 1) * ((xs.length : Int) + 1) * a0).toNat ys L f K M) ∧ (cl 0 (xs.length + 1) a0.toNat ys f (f + L) (rl xa2 K).1 ≤ 1000000000)) (ρ₀ := [(13, _)]) (m₀ := _) ⟨rfl, rfl, rfl, rfl, rfl, rfl, rfl, rfl, rfl, rfl, trivial⟩ ⟨f + 1, _, rfl, rfl, (UpdL.refl _ _), osE ho2 (by rfl), (by first | omega | rfl | (simp; done) | assumption | (simp_all; done)), (by first | exact hp0.open_no (fun h9 => by have h91 : (xa2.getD K (0, 0, 0, 0)).2.2.1 < 0 := h9.1; have h92 := h9.2.1; first | omega | exact absurd h9.2.2 (by assumption)) | (rw [← ec, zp2]; exact hp0.open_leaf hg (by omega) (by omega) (by omega) (by omega) (by omega) (by omega) (by assumption) (by omega) (by assumption))), (by first | (have h9 := (hp0.so _ hgl.1 hgl.2).2.2.2 trivial; exact h9.2) | (rw [← ec, zp2, cl_eq (by omega)]; have h9 := (hp0.so _ hgl.1 hgl.2).2.1 (by omega); omega))⟩ ?_
          rintro _ wl5 _ ⟨M, ys, rfl, rfl, hU3, ho2, hm, hp, hs9⟩
          have hU0 := hU0.trans hU3 ⟨hk0_2, trivial⟩
          have hU1 := hU1.trans hU3 ⟨hk1_2, trivial⟩
          have hU2 := hU2.trans hU3 ⟨hk2_2, trivial⟩
          have hb1 := hb1.loop hU3 ⟨hd1_2, trivial⟩
          have hb6 := hb6.loop hU3 ⟨(Dj.symm hd2_6), trivial⟩
          have hk3_2 : OkB [(some g2)] w6 (some g2) := OkB.mem (by simp)
          have hB := hB.loop hU3 ⟨hl2, trivial⟩
          refine CW.seq ?_
          refine CW.seq ?_
          refine CW.reg ?_
          refine WL.pure rfl rfl rfl (PV.move rfl) ?_
          refine WL.pure rfl rfl rfl (PV.move rfl) ?_
          refine WL.pure rfl rfl rfl (PV.move rfl) ?_
          refine WL.pure rfl rfl rfl (PV.add rfl rfl (by constructor <;> omega)) ?_
          refine WL.pure rfl rfl rfl (PV.lss rfl rfl) ?_
          refine WL.pure rfl rfl rfl (PV.move rfl) ?_
          refine WL.split (t := 95) rfl (fun hc10 => ?_) (fun hc10 => ?_)
          rotate_left
          · skip
            try simp only [decide_eq_true_eq, decide_eq_false_iff_not, Bool.not_eq_true', Bool.not_eq_false', Bool.not_eq_eq_eq_not, Bool.not_true, Bool.not_false, Int.not_lt, Int.not_le, Classical.not_not, beq_iff_eq, beq_eq_false_iff_ne] at hc10
            refine WL.skip rfl rfl rfl rfl rfl ?_
            refine WL.skip rfl rfl rfl rfl rfl ?_
            refine WL.skip rfl rfl rfl rfl rfl ?_
            refine WL.pure rfl rfl rfl (PV.pickF rfl rfl) ?_
            refine WL.nilS ?_
            refine CW.condF rfl ?_
            refine CW.exit ?_
            refine XQ.then ?_
            refine XQ.then ?_
            refine XQ.here ?_
            refine NQ.block ?_
            refine NQ.then ?_
            refine CW.reg ?_
            refine WL.pure rfl rfl rfl (PV.move rfl) ?_
            refine WL.pure rfl rfl rfl (PV.add rfl rfl (by constructor <;> omega)) ?_
            refine WL.pure rfl rfl rfl (PV.assign rfl) ?_
            refine WL.nil ?_
            refine NQ.next (ρ := [(11, _)]) ⟨rfl, rfl, rfl, rfl, rfl, rfl, rfl, rfl, trivial⟩ ?_
            exact ⟨_, ⟨K + 1, _, rfl, rfl, hU2, osE ho2 (by rfl), (by first | omega | assumption | (simp_all; done) | (simp_all; omega)), (by exact hp.close (by first | exact .inl (by omega) | exact .inr (by assumption)) (by omega) (fun _ => hs9))⟩, by omega⟩
          try simp only [decide_eq_true_eq, decide_eq_false_iff_not, Bool.not_eq_true', Bool.not_eq_false', Bool.not_eq_eq_eq_not, Bool.not_true, Bool.not_false, Int.not_lt, Int.not_le, Classical.not_not, beq_iff_eq, beq_eq_false_iff_ne] at hc10
          refine WL.pureG rfl rfl rfl rfl rfl ((by first | exact PV.fieldAddr T.fl100_2 rfl (by first | assumption | exact Bx.cells (by assumption)) | exact PV.fieldAddrP T.fl100_2 rfl rfl)) ?_
          refine WL.pureG rfl rfl rfl rfl rfl ((by first | exact PV.load0 T.na2 rfl (by first | exact Cells.up (by assumption) hB | exact Bx.cells (by assumption) | assumption) (Ext.refl _) rfl | exact PV.load1 T.na2 rfl (by first | exact Cells.up (by assumption) hB | exact Bx.cells (by assumption) | assumption) (Ext.refl _) rfl)) ?_
          refine WL.pureG rfl rfl rfl rfl rfl (PV.geq rfl rfl) ?_
          refine WL.pure rfl rfl rfl (PV.pickT rfl rfl) ?_
          refine WL.nilS ?_
          refine CW.cond rfl (fun hc11 => ?_) (fun hc11 => ?_)
          · skip
            try simp only [decide_eq_true_eq, decide_eq_false_iff_not, Bool.not_eq_true', Bool.not_eq_false', Bool.not_eq_eq_eq_not, Bool.not_true, Bool.not_false, Int.not_lt, Int.not_le, Classical.not_not, beq_iff_eq, beq_eq_false_iff_ne] at hc11
            refine CW.skipS ?_
            refine CW.seq ?_
            refine CW.block ?_
            refine CW.seq ?_
            refine CW.draw T.mixed (by kernel_rfl) (fun _ _ _ _ _ h => h) (fun w8 w9 => Upd none w8 w9) 42 (.take 0 (.take 1 (.take 2 (.take 3 (.take 4 (.take 5 (.take 6 (.take 7 (.take 8 (.take 9 (.take 10 (.take 11 (.take 12 (.take 13 (.take 14 (.take 15 (.take 16 (.take 17 (.take 18 (.take 19 (.take 20 (.take 21 (.take 22 (.take 23 (.take 24 (.take 25 (.take 26 (.take 27 (.take 28 (.take 29 (.take 30 (.take 31 (.take 32 (.take 33 (.take 34 (.take 35 (.take 36 (.take 37 (.take 38 (.take 39 (.take 40 (.take 41 (.must 42 .done))))))))))))))))))))))))))))))))))))))))))) (by kernel_rfl) (fun w9 hXd => ?_)
            have hB := hB.trans hXd
            have hb1 := hb1.up hXd
            have ho2 := ho2.up hXd
            have hb6 := hb6.up hXd
            have hU0 := hU0.ext hXd
            have hU1 := hU1.ext hXd
            have hU2 := hU2.ext hXd
            have hU3 := hU3.ext hXd
            have hBr := hB
            have hS : Upd none w9 w9 := Ext.toUpd (Ext.refl _)
            have hgl := gram_left hg K (by omega); have hgl1 : 0 ≤ (xa2.getD K (0, 0, 0, 0)).1 := hgl.1; have hgl2 : (xa2.getD K (0, 0, 0, 0)).1 < a0 := hgl.2; have zp := ixC3 (x := f) (y := f) (y2 := L) (n := xs.length) (s := a0) (r := (xa2.getD K (0, 0, 0, 0)).1) (by omega) (by omega) (by omega) (by omega) ⟨hgl1, hgl2⟩; have hyn := hp.n; have zp0 := zp.1; have zp0b := zp.2.1; have zp1 := zp.2.2.1; have zp2 := zp.2.2.2.1; have zp3 := zp.2.2.2.2; have ec : cl 0 (xs.length + 1) a0.toNat ys f (f + L) (rl xa2 K).1 = ys.getD (((f : Int) * (xs.length + 1) + f + L) * a0 + (xa2.getD K (0, 0, 0, 0)).1).toNat 0 := congrArg (fun q => ys.getD q 0) zp2.symm; have hcr := hp.range (by omega) hgl; rw [ec] at hcr; have hgn := gram_node hg (k := K) (by omega) (by assumption); have gn1 : 0 ≤ (xa2.getD K (0, 0, 0, 0)).2.1 ∧ (xa2.getD K (0, 0, 0, 0)).2.1 < a0 := hgn.1; have gn2 : 0 ≤ (xa2.getD K (0, 0, 0, 0)).2.2.1 ∧ (xa2.getD K (0, 0, 0, 0)).2.2.1 < a0 := hgn.2; have za := ixC (x := f) (y := M) (n := xs.length) (s := a0) (r := (xa2.getD K (0, 0, 0, 0)).2.1) (by omega) (by omega) (by omega) (by omega) gn1; have zb := ixC3 (x := M) (y := f) (y2 := L) (n := xs.length) (s := a0) (r := (xa2.getD K (0, 0, 0, 0)).2.2.1) (by omega) (by omega) (by omega) (by omega) gn2; have za1 := za.2.2.1; have za2 := za.2.2.2.1; have zb1 := zb.2.2.1; have zb2 := zb.2.2.2.1; have za0 := za.1; have zb0 := zb.1; have za3 := za.2.1; have zb3 := zb.2.1; have hsb := hp.sub hg (by omega) (by omega) (by assumption) (by omega) (by omega); have ea : cl 0 (xs.length + 1) a0.toNat ys f M (rl xa2 K).2.1 = ys.getD (((f : Int) * (xs.length + 1) + M) * a0 + (xa2.getD K (0, 0, 0, 0)).2.1).toNat 0 := congrArg (fun q => ys.getD q 0) za2.symm; have eb : cl 0 (xs.length + 1) a0.toNat ys M (f + L) (rl xa2 K).2.2.1 = ys.getD (((M : Int) * (xs.length + 1) + f + L) * a0 + (xa2.getD K (0, 0, 0, 0)).2.2.1).toNat 0 := congrArg (fun q => ys.getD q 0) zb2.symm; rw [ea, eb] at hsb; have hmb := mul_bd hsb.1 hsb.2; have e0 := gset_eq (l := ys) (i := (((f : Int) * (xs.length + 1) + f + L) * a0 + (xa2.getD K (0, 0, 0, 0)).1).toNat) (v := ys.getD (((f : Int) * (xs.length + 1) + f + L) * a0 + (xa2.getD K (0, 0, 0, 0)).1).toNat 0 + ys.getD (((f : Int) * (xs.length + 1) + M) * a0 + (xa2.getD K (0, 0, 0, 0)).2.1).toNat 0 * ys.getD (((M : Int) * (xs.length + 1) + f + L) * a0 + (xa2.getD K (0, 0, 0, 0)).2.2.1).toNat 0) (by omega)
            refine HP.take rfl rfl rfl rfl hS (fun wS hS1 => PV.move rfl) ?_
            refine HP.take rfl rfl rfl rfl hS (fun wS hS1 => PV.move rfl) ?_
            refine HP.take rfl rfl rfl rfl hS (fun wS hS1 => (by first | exact PV.fieldAddr T.fl100_0 rfl (by first | assumption | exact Bx.cells (by assumption)) | exact PV.fieldAddrP T.fl100_0 rfl rfl)) ?_
            refine HP.take rfl rfl rfl rfl hS (fun wS hS1 => (by first | exact PV.load0 T.na2 rfl (by first | exact Cells.up (by assumption) (hBr.trans hS1) | exact Bx.cells (Bx.updD (by assumption) hS1 (Dj.nlR _)) | exact Cells.upd (by assumption) hS1 (by simp)) (Ext.refl _) rfl | exact PV.load1 T.na2 rfl (by first | exact Cells.up (by assumption) (hBr.trans hS1) | exact Bx.cells (Bx.updD (by assumption) hS1 (Dj.nlR _)) | exact Cells.upd (by assumption) hS1 (by simp)) (Ext.refl _) rfl)) ?_
            refine HP.take rfl rfl rfl rfl hS (fun wS hS1 => PV.add rfl rfl (by constructor <;> omega)) ?_
            first
              | refine HP.atO (wb := w9) (x := .tmp 102) (y := .tmp 106) (f := VI) (0) rfl rfl (by assumption) (by first | omega | (simp; omega) | (simp_all; omega)) (fun p7 hpp7 hcp7 => ?_)
              | refine HP.atOZ (wb := w9) (x := .tmp 102) (y := .tmp 106) (f := VI) (0) rfl rfl (by assumption) (by first | omega | (simp; omega) | (simp_all; omega)) (fun p7 hpp7 hzp7 hcp7 => ?_)
            refine HP.take rfl rfl rfl rfl hS (fun wS hS1 => (by first | exact PV.indexAddr hpp7 rfl rfl T.sl22 | exact PV.indexAddr hpp7 rfl (by rw [← hzp7]; rfl) T.sl22)) ?_
            refine HP.take rfl rfl rfl rfl hS (fun wS hS1 => (by first | exact PV.load0 T.na2 rfl (by first | exact Cells.up (by assumption) (hBr.trans hS1) | exact Bx.cells (Bx.updD (by assumption) hS1 (Dj.nlR _)) | exact Cells.upd (by assumption) hS1 (by simp)) (Ext.refl _) rfl | exact PV.load1 T.na2 rfl (by first | exact Cells.up (by assumption) (hBr.trans hS1) | exact Bx.cells (Bx.updD (by assumption) hS1 (Dj.nlR _)) | exact Cells.upd (by assumption) hS1 (by simp)) (Ext.refl _) rfl)) ?_
            refine HP.take rfl rfl rfl rfl hS (fun wS hS1 => PV.move rfl) ?_
            refine HP.take rfl rfl rfl rfl hS (fun wS hS1 => PV.move rfl) ?_
            refine HP.take rfl rfl rfl rfl hS (fun wS hS1 => PV.move rfl) ?_
            refine HP.take rfl rfl rfl rfl hS (fun wS hS1 => PV.add rfl rfl (by constructor <;> omega)) ?_
            refine HP.take rfl rfl rfl rfl hS (fun wS hS1 => PV.mul rfl rfl (by constructor <;> omega)) ?_
            refine HP.take rfl rfl rfl rfl hS (fun wS hS1 => PV.move rfl) ?_
            refine HP.take rfl rfl rfl rfl hS (fun wS hS1 => PV.add rfl rfl (by constructor <;> omega)) ?_
            refine HP.take rfl rfl rfl rfl hS (fun wS hS1 => (by first | exact PV.fieldAddr T.fl56_0 rfl (by first | assumption | exact Bx.cells (by assumption)) | exact PV.fieldAddrP T.fl56_0 rfl rfl)) ?_
            refine HP.take rfl rfl rfl rfl hS (fun wS hS1 => (by first | exact PV.load0 T.na2 rfl (by first | exact Cells.up (by assumption) (hBr.trans hS1) | exact Bx.cells (Bx.updD (by assumption) hS1 (Dj.nlR _)) | exact Cells.upd (by assumption) hS1 (by simp)) (Ext.refl _) rfl | exact PV.load1 T.na2 rfl (by first | exact Cells.up (by assumption) (hBr.trans hS1) | exact Bx.cells (Bx.updD (by assumption) hS1 (Dj.nlR _)) | exact Cells.upd (by assumption) hS1 (by simp)) (Ext.refl _) rfl)) ?_
            refine HP.take rfl rfl rfl rfl hS (fun wS hS1 => PV.mul rfl rfl (by constructor <;> omega)) ?_
            refine HP.take rfl rfl rfl rfl hS (fun wS hS1 => (by first | exact PV.fieldAddr T.fl100_1 rfl (by first | assumption | exact Bx.cells (by assumption)) | exact PV.fieldAddrP T.fl100_1 rfl rfl)) ?_
            refine HP.take rfl rfl rfl rfl hS (fun wS hS1 => (by first | exact PV.load0 T.na2 rfl (by first | exact Cells.up (by assumption) (hBr.trans hS1) | exact Bx.cells (Bx.updD (by assumption) hS1 (Dj.nlR _)) | exact Cells.upd (by assumption) hS1 (by simp)) (Ext.refl _) rfl | exact PV.load1 T.na2 rfl (by first | exact Cells.up (by assumption) (hBr.trans hS1) | exact Bx.cells (Bx.updD (by assumption) hS1 (Dj.nlR _)) | exact Cells.upd (by assumption) hS1 (by simp)) (Ext.refl _) rfl)) ?_
            refine HP.take rfl rfl rfl rfl hS (fun wS hS1 => PV.add rfl rfl (by constructor <;> omega)) ?_
            first
              | refine HP.atO (wb := w9) (x := .tmp 109) (y := .tmp 121) (f := VI) (0) rfl rfl (by assumption) (by first | omega | (simp; omega) | (simp_all; omega)) (fun p8 hpp8 hcp8 => ?_)
              | refine HP.atOZ (wb := w9) (x := .tmp 109) (y := .tmp 121) (f := VI) (0) rfl rfl (by assumption) (by first | omega | (simp; omega) | (simp_all; omega)) (fun p8 hpp8 hzp8 hcp8 => ?_)
            refine HP.take rfl rfl rfl rfl hS (fun wS hS1 => (by first | exact PV.indexAddr hpp8 rfl rfl T.sl22 | exact PV.indexAddr hpp8 rfl (by rw [← hzp8]; rfl) T.sl22)) ?_
            refine HP.take rfl rfl rfl rfl hS (fun wS hS1 => (by first | exact PV.load0 T.na2 rfl (by first | exact Cells.up (by assumption) (hBr.trans hS1) | exact Bx.cells (Bx.updD (by assumption) hS1 (Dj.nlR _)) | exact Cells.upd (by assumption) hS1 (by simp)) (Ext.refl _) rfl | exact PV.load1 T.na2 rfl (by first | exact Cells.up (by assumption) (hBr.trans hS1) | exact Bx.cells (Bx.updD (by assumption) hS1 (Dj.nlR _)) | exact Cells.upd (by assumption) hS1 (by simp)) (Ext.refl _) rfl)) ?_
            refine HP.take rfl rfl rfl rfl hS (fun wS hS1 => PV.move rfl) ?_
            refine HP.take rfl rfl rfl rfl hS (fun wS hS1 => PV.move rfl) ?_
            refine HP.take rfl rfl rfl rfl hS (fun wS hS1 => PV.move rfl) ?_
            refine HP.take rfl rfl rfl rfl hS (fun wS hS1 => PV.add rfl rfl (by constructor <;> omega)) ?_
            refine HP.take rfl rfl rfl rfl hS (fun wS hS1 => PV.mul rfl rfl (by constructor <;> omega)) ?_
            refine HP.take rfl rfl rfl rfl hS (fun wS hS1 => PV.move rfl) ?_
            refine HP.take rfl rfl rfl rfl hS (fun wS hS1 => PV.add rfl rfl (by constructor <;> omega)) ?_
            refine HP.take rfl rfl rfl rfl hS (fun wS hS1 => PV.move rfl) ?_
            refine HP.take rfl rfl rfl rfl hS (fun wS hS1 => PV.add rfl rfl (by constructor <;> omega)) ?_
            refine HP.take rfl rfl rfl rfl hS (fun wS hS1 => (by first | exact PV.fieldAddr T.fl56_0 rfl (by first | assumption | exact Bx.cells (by assumption)) | exact PV.fieldAddrP T.fl56_0 rfl rfl)) ?_
            refine HP.take rfl rfl rfl rfl hS (fun wS hS1 => (by first | exact PV.load0 T.na2 rfl (by first | exact Cells.up (by assumption) (hBr.trans hS1) | exact Bx.cells (Bx.updD (by assumption) hS1 (Dj.nlR _)) | exact Cells.upd (by assumption) hS1 (by simp)) (Ext.refl _) rfl | exact PV.load1 T.na2 rfl (by first | exact Cells.up (by assumption) (hBr.trans hS1) | exact Bx.cells (Bx.updD (by assumption) hS1 (Dj.nlR _)) | exact Cells.upd (by assumption) hS1 (by simp)) (Ext.refl _) rfl)) ?_
            refine HP.take rfl rfl rfl rfl hS (fun wS hS1 => PV.mul rfl rfl (by constructor <;> omega)) ?_
            refine HP.take rfl rfl rfl rfl hS (fun wS hS1 => (by first | exact PV.fieldAddr T.fl100_2 rfl (by first | assumption | exact Bx.cells (by assumption)) | exact PV.fieldAddrP T.fl100_2 rfl rfl)) ?_
            refine HP.take rfl rfl rfl rfl hS (fun wS hS1 => (by first | exact PV.load0 T.na2 rfl (by first | exact Cells.up (by assumption) (hBr.trans hS1) | exact Bx.cells (Bx.updD (by assumption) hS1 (Dj.nlR _)) | exact Cells.upd (by assumption) hS1 (by simp)) (Ext.refl _) rfl | exact PV.load1 T.na2 rfl (by first | exact Cells.up (by assumption) (hBr.trans hS1) | exact Bx.cells (Bx.updD (by assumption) hS1 (Dj.nlR _)) | exact Cells.upd (by assumption) hS1 (by simp)) (Ext.refl _) rfl)) ?_
            refine HP.take rfl rfl rfl rfl hS (fun wS hS1 => PV.add rfl rfl (by constructor <;> omega)) ?_
            first
              | refine HP.atO (wb := w9) (x := .tmp 124) (y := .tmp 138) (f := VI) (0) rfl rfl (by assumption) (by first | omega | (simp; omega) | (simp_all; omega)) (fun p9 hpp9 hcp9 => ?_)
              | refine HP.atOZ (wb := w9) (x := .tmp 124) (y := .tmp 138) (f := VI) (0) rfl rfl (by assumption) (by first | omega | (simp; omega) | (simp_all; omega)) (fun p9 hpp9 hzp9 hcp9 => ?_)
            refine HP.take rfl rfl rfl rfl hS (fun wS hS1 => (by first | exact PV.indexAddr hpp9 rfl rfl T.sl22 | exact PV.indexAddr hpp9 rfl (by rw [← hzp9]; rfl) T.sl22)) ?_
            refine HP.take rfl rfl rfl rfl hS (fun wS hS1 => (by first | exact PV.load0 T.na2 rfl (by first | exact Cells.up (by assumption) (hBr.trans hS1) | exact Bx.cells (Bx.updD (by assumption) hS1 (Dj.nlR _)) | exact Cells.upd (by assumption) hS1 (by simp)) (Ext.refl _) rfl | exact PV.load1 T.na2 rfl (by first | exact Cells.up (by assumption) (hBr.trans hS1) | exact Bx.cells (Bx.updD (by assumption) hS1 (Dj.nlR _)) | exact Cells.upd (by assumption) hS1 (by simp)) (Ext.refl _) rfl)) ?_
            refine HP.take rfl rfl rfl rfl hS (fun wS hS1 => PV.mul rfl rfl (by constructor <;> omega)) ?_
            refine HP.take rfl rfl rfl rfl hS (fun wS hS1 => PV.add rfl rfl (by constructor <;> omega)) ?_
            first
              | refine HP.atO (wb := w9) (x := .tmp 102) (y := .tmp 106) (f := VI) (0) rfl rfl (by assumption) (by first | omega | (simp; omega) | (simp_all; omega)) (fun p10 hpp10 hcp10 => ?_)
              | refine HP.atOZ (wb := w9) (x := .tmp 102) (y := .tmp 106) (f := VI) (0) rfl rfl (by assumption) (by first | omega | (simp; omega) | (simp_all; omega)) (fun p10 hpp10 hzp10 hcp10 => ?_)
            refine HP.take rfl rfl rfl rfl hS (fun wS hS1 => (by first | exact PV.indexAddr hpp10 rfl rfl T.sl22 | exact PV.indexAddr hpp10 rfl (by rw [← hzp10]; rfl) T.sl22)) ?_
            refine HP.last rfl rfl (OpK.storeS VI T.sz2 rfl rfl rfl hpp10 ho2 (fun w10 hXw10 ho2 => ?_))
            have hB := hB.updL hXw10 hl2
            have hb1 := hb1.updD hXw10 hd1_2
            have hb6 := hb6.updD hXw10 (Dj.symm hd2_6)
            have hU0 := hU0.step hXw10 hk0_2
            have hU1 := hU1.step hXw10 hk1_2
            have hU2 := hU2.step hXw10 hk2_2
            have hU3 := hU3.step hXw10 hk3_2
            refine HP.doneS ?_
            refine CW.seq ?_
            refine CW.reg ?_
            refine WL.pure rfl rfl rfl (PV.move rfl) ?_
            refine WL.pure rfl rfl rfl (PV.move rfl) ?_
            refine WL.pure rfl rfl rfl ((by first | exact PV.fieldAddr T.fl100_0 rfl (by first | assumption | exact Bx.cells (by assumption)) | exact PV.fieldAddrP T.fl100_0 rfl rfl)) ?_
            refine WL.pure rfl rfl rfl ((by first | exact PV.load0 T.na2 rfl (by first | exact Cells.up (by assumption) hB | exact Bx.cells (by assumption) | assumption) (Ext.refl _) rfl | exact PV.load1 T.na2 rfl (by first | exact Cells.up (by assumption) hB | exact Bx.cells (by assumption) | assumption) (Ext.refl _) rfl)) ?_
            refine WL.pure rfl rfl rfl (PV.add rfl rfl (by constructor <;> omega)) ?_
            first
              | refine WL.atO (x := .tmp 144) (y := .tmp 148) (f := VI) (0) rfl rfl ho2 (by simp only [List.length_set]; omega) (fun p11 hpp11 hcp11 => ?_)
              | refine WL.atOZ (x := .tmp 144) (y := .tmp 148) (f := VI) (0) rfl rfl ho2 (by simp only [List.length_set]; omega) (fun p11 hpp11 hzp11 hcp11 => ?_)
            refine WL.pure rfl rfl rfl ((by first | exact PV.indexAddr hpp11 rfl rfl T.sl22 | exact PV.indexAddr hpp11 rfl (by rw [← hzp11]; rfl) T.sl22)) ?_
            refine WL.pure rfl rfl rfl ((by first | exact PV.load0 T.na2 rfl (by first | exact Cells.up (by assumption) hB | exact Bx.cells (by assumption) | assumption) (Ext.refl _) rfl | exact PV.load1 T.na2 rfl (by first | exact Cells.up (by assumption) hB | exact Bx.cells (by assumption) | assumption) (Ext.refl _) rfl)) ?_
            refine WL.pure rfl rfl rfl (PV.gtr rfl rfl) ?_
            refine WL.nilS ?_
            refine CW.cond rfl (fun hc12 => ?_) (fun hc12 => ?_)
            · skip
              try simp only [decide_eq_true_eq, decide_eq_false_iff_not, Bool.not_eq_true', Bool.not_eq_false', Bool.not_eq_eq_eq_not, Bool.not_true, Bool.not_false, Int.not_lt, Int.not_le, Classical.not_not, beq_iff_eq, beq_eq_false_iff_ne] at hc12
              have hno := hp.bad2 trivial hg (by omega) (by omega) (by omega) (by omega) (by omega) (by omega) (by rw [ec, ea, eb]; omega)
              refine CW.seq ?_
              refine CW.reg ?_
              refine WL.pure rfl rfl rfl (PV.assign rfl) ?_
              refine WL.pure rfl rfl rfl (PV.assign rfl) ?_
              refine WL.nilS ?_
              refine CW.ret ?_
              refine RQ.block ?_
              refine RQ.then ?_
              refine RQ.then ?_
              refine RQ.block ?_
              refine RQ.block ?_
              refine RQ.then ?_
              refine RQ.then ?_
              refine RQ.block ?_
              refine RQ.block ?_
              refine RQ.then ?_
              refine RQ.then ?_
              refine RQ.block ?_
              refine RQ.block ?_
              refine RQ.then ?_
              refine RQ.then ?_
              refine RQ.block ?_
              refine RQ.then ?_
              refine RQ.r2 rfl rfl ?_
              refine ⟨?_, hB⟩
              first | exact tE2 (iE (by rw [onI_no (by rw [← canT_n1 (by assumption)]; decide)])) (bE (canT_n1 (by assumption))) | exact tE2 (iE (by rw [onI_no (by rw [← canT_n2 hno]; decide)])) (bE (canT_n2 hno)) | (obtain rfl : L = xs.length + 1 := (by omega); have hyo := TDC.okT ht trivial; exact tE2 (iE (by rw [onI_yes (canT_y (by assumption) hyo).symm]; exact ht.topF trivial (by omega) (by omega))) (bE (canT_y (by assumption) hyo)))
            try simp only [decide_eq_true_eq, decide_eq_false_iff_not, Bool.not_eq_true', Bool.not_eq_false', Bool.not_eq_eq_eq_not, Bool.not_true, Bool.not_false, Int.not_lt, Int.not_le, Classical.not_not, beq_iff_eq, beq_eq_false_iff_ne] at hc12
            refine CW.skip ?_
            refine NQ.block ?_
            refine NQ.then ?_
            refine CW.reg ?_
            refine WL.pure rfl rfl rfl (PV.move rfl) ?_
            refine WL.pure rfl rfl rfl (PV.add rfl rfl (by constructor <;> omega)) ?_
            refine WL.pure rfl rfl rfl (PV.assign rfl) ?_
            refine WL.nil ?_
            refine NQ.next (ρ := [(13, _)]) ⟨rfl, rfl, rfl, rfl, rfl, rfl, rfl, rfl, rfl, rfl, trivial⟩ ?_
            exact ⟨_, ⟨M + 1, _, rfl, rfl, hU3, osE ho2 (by rfl), (by first | omega | assumption | (simp_all; done) | (simp_all; omega)), (by rw [← ec, ← ea, ← eb, zp2]; exact hp.step hg (by omega) (by omega) (by omega) (by omega) (by omega) (by assumption) (by omega) (by omega) (by rw [ec, ea, eb]; omega)), (by rw [← ec, ← ea, ← eb, zp2, cl_eq (by omega), ec, ea, eb]; omega)⟩, by omega⟩
          try simp only [decide_eq_true_eq, decide_eq_false_iff_not, Bool.not_eq_true', Bool.not_eq_false', Bool.not_eq_eq_eq_not, Bool.not_true, Bool.not_false, Int.not_lt, Int.not_le, Classical.not_not, beq_iff_eq, beq_eq_false_iff_ne] at hc11
          refine CW.exit ?_
          refine XQ.then ?_
          refine XQ.then ?_
          refine XQ.here ?_
          refine NQ.block ?_
          refine NQ.then ?_
          refine CW.reg ?_
          refine WL.pure rfl rfl rfl (PV.move rfl) ?_
          refine WL.pure rfl rfl rfl (PV.add rfl rfl (by constructor <;> omega)) ?_
          refine WL.pure rfl rfl rfl (PV.assign rfl) ?_
          refine WL.nil ?_
          refine NQ.next (ρ := [(11, _)]) ⟨rfl, rfl, rfl, rfl, rfl, rfl, rfl, rfl, trivial⟩ ?_
          exact ⟨_, ⟨K + 1, _, rfl, rfl, hU2, osE ho2 (by rfl), (by first | omega | assumption | (simp_all; done) | (simp_all; omega)), (by exact hp.close (by first | exact .inl (by omega) | exact .inr (by assumption)) (by omega) (fun _ => hs9))⟩, by omega⟩
        try simp only [decide_eq_true_eq, decide_eq_false_iff_not, Bool.not_eq_true', Bool.not_eq_false', Bool.not_eq_eq_eq_not, Bool.not_true, Bool.not_false, Int.not_lt, Int.not_le, Classical.not_not, beq_iff_eq, beq_eq_false_iff_ne] at hc9
        refine HP.takeG rfl rfl rfl rfl rfl rfl hS (fun wS hS1 => PV.move rfl) ?_
        refine HP.takeG rfl rfl rfl rfl rfl rfl hS (fun wS hS1 => PV.move rfl) ?_
        first
          | refine HP.at (x := .tmp 71) (y := .tmp 72) (E := EI) (0) rfl rfl (by assumption) (by first | omega | (simp; omega) | (simp_all; omega)) (fun p12 csp12 hpp12 hcp12 hq => ?_)
          | refine HP.atZ (x := .tmp 71) (y := .tmp 72) (E := EI) (0) rfl rfl (by assumption) (by first | omega | (simp; omega) | (simp_all; omega)) (fun p12 csp12 hpp12 hzp12 hcp12 hq => ?_)
        cases hq
        refine HP.takeG rfl rfl rfl rfl rfl rfl hS (fun wS hS1 => (by first | exact PV.indexAddr hpp12 rfl rfl T.sl22 | exact PV.indexAddr hpp12 rfl (by rw [← hzp12]; rfl) T.sl22)) ?_
        refine HP.takeG rfl rfl rfl rfl rfl rfl hS (fun wS hS1 => (by first | exact PV.load0 T.na2 rfl (by first | exact Cells.up (by assumption) (hBr.trans hS1) | exact Bx.cells (Bx.updD (by assumption) hS1 (Dj.nlR _)) | exact Cells.upd (by assumption) hS1 (by simp)) (Ext.refl _) rfl | exact PV.load1 T.na2 rfl (by first | exact Cells.up (by assumption) (hBr.trans hS1) | exact Bx.cells (Bx.updD (by assumption) hS1 (Dj.nlR _)) | exact Cells.upd (by assumption) hS1 (by simp)) (Ext.refl _) rfl)) ?_
        refine HP.takeG rfl rfl rfl rfl rfl rfl hS (fun wS hS1 => (by first | exact PV.fieldAddr T.fl100_1 rfl (by first | assumption | exact Bx.cells (by assumption)) | exact PV.fieldAddrP T.fl100_1 rfl rfl)) ?_
        refine HP.takeG rfl rfl rfl rfl rfl rfl hS (fun wS hS1 => (by first | exact PV.load0 T.na2 rfl (by first | exact Cells.up (by assumption) (hBr.trans hS1) | exact Bx.cells (Bx.updD (by assumption) hS1 (Dj.nlR _)) | exact Cells.upd (by assumption) hS1 (by simp)) (Ext.refl _) rfl | exact PV.load1 T.na2 rfl (by first | exact Cells.up (by assumption) (hBr.trans hS1) | exact Bx.cells (Bx.updD (by assumption) hS1 (Dj.nlR _)) | exact Cells.upd (by assumption) hS1 (by simp)) (Ext.refl _) rfl)) ?_
        refine HP.takeG rfl rfl rfl rfl rfl rfl hS (fun wS hS1 => PV.eql rfl rfl) ?_
        refine HP.take rfl rfl rfl rfl hS (fun wS hS1 => PV.pickT rfl rfl) ?_
        refine HP.doneS ?_
        refine CW.cond rfl (fun hc13 => ?_) (fun hc13 => ?_)
        · skip
          try simp only [decide_eq_true_eq, decide_eq_false_iff_not, Bool.not_eq_true', Bool.not_eq_false', Bool.not_eq_eq_eq_not, Bool.not_true, Bool.not_false, Int.not_lt, Int.not_le, Classical.not_not, beq_iff_eq, beq_eq_false_iff_ne] at hc13
          refine CW.reg ?_
          refine WL.pure rfl rfl rfl (PV.move rfl) ?_
          refine WL.pure rfl rfl rfl (PV.move rfl) ?_
          refine WL.pure rfl rfl rfl ((by first | exact PV.fieldAddr T.fl100_0 rfl (by first | assumption | exact Bx.cells (by assumption)) | exact PV.fieldAddrP T.fl100_0 rfl rfl)) ?_
          refine WL.pure rfl rfl rfl ((by first | exact PV.load0 T.na2 rfl (by first | exact Cells.up (by assumption) hB | exact Bx.cells (by assumption) | assumption) (Ext.refl _) rfl | exact PV.load1 T.na2 rfl (by first | exact Cells.up (by assumption) hB | exact Bx.cells (by assumption) | assumption) (Ext.refl _) rfl)) ?_
          refine WL.pure rfl rfl rfl (PV.add rfl rfl (by constructor <;> omega)) ?_
          first
            | refine WL.atO (x := .tmp 79) (y := .tmp 83) (f := VI) (0) rfl rfl ho2 (by first | omega | (simp; omega) | (simp_all; omega)) (fun p13 hpp13 hcp13 => ?_)
            | refine WL.atOZ (x := .tmp 79) (y := .tmp 83) (f := VI) (0) rfl rfl ho2 (by first | omega | (simp; omega) | (simp_all; omega)) (fun p13 hpp13 hzp13 hcp13 => ?_)
          refine WL.pure rfl rfl rfl ((by first | exact PV.indexAddr hpp13 rfl rfl T.sl22 | exact PV.indexAddr hpp13 rfl (by rw [← hzp13]; rfl) T.sl22)) ?_
          refine WL.pure rfl rfl rfl ((by first | exact PV.load0 T.na2 rfl (by first | exact Cells.up (by assumption) hB | exact Bx.cells (by assumption) | assumption) (Ext.refl _) rfl | exact PV.load1 T.na2 rfl (by first | exact Cells.up (by assumption) hB | exact Bx.cells (by assumption) | assumption) (Ext.refl _) rfl)) ?_
          refine WL.pure rfl rfl rfl (PV.add rfl rfl (by constructor <;> omega)) ?_
          first
            | refine WL.atO (x := .tmp 79) (y := .tmp 83) (f := VI) (0) rfl rfl ho2 (by first | omega | (simp; omega) | (simp_all; omega)) (fun p14 hpp14 hcp14 => ?_)
            | refine WL.atOZ (x := .tmp 79) (y := .tmp 83) (f := VI) (0) rfl rfl ho2 (by first | omega | (simp; omega) | (simp_all; omega)) (fun p14 hpp14 hzp14 hcp14 => ?_)
          refine WL.pure rfl rfl rfl ((by first | exact PV.indexAddr hpp14 rfl rfl T.sl22 | exact PV.indexAddr hpp14 rfl (by rw [← hzp14]; rfl) T.sl22)) ?_
          refine WL.op rfl (OpK.storeS VI T.sz2 rfl rfl rfl hpp14 ho2 (fun w11 hXw11 ho2 => ?_))
          have hB := hB.updL hXw11 hl2
          have hb1 := hb1.updD hXw11 hd1_2
          have hb6 := hb6.updD hXw11 (Dj.symm hd2_6)
          have hU0 := hU0.step hXw11 hk0_2
          have hU1 := hU1.step hXw11 hk1_2
          have hU2 := hU2.step hXw11 hk2_2
          refine WL.nilS ?_
          refine CW.seq ?_
          refine CW.reg ?_
          refine WL.pure rfl rfl rfl (PV.move rfl) ?_
          refine WL.pure rfl rfl rfl (PV.add rfl rfl (by constructor <;> omega)) ?_
          refine WL.pure rfl rfl rfl (PV.assign rfl) ?_
          refine WL.nilS ?_
          refine CW.block ?_
          have hlt1 := hb1.ltO
          have hlt2 := ho2.ltO
          have hlt6 := hb6.ltO
          refine CW.loop (σk := [(1, _), (2, _), (6, _), (7, _), (8, _), (9, _), (10, _), (11, _), (12, _)]) (fun ρ wz m => ∃ (M : Nat) (ys : List Int), ρ = [(13, .int .i64 (M : Nat))] ∧ m = f + L - M ∧ UpdL [(some g2)] w11 wz ∧ Osl VI wz (some g2) v2 (ys) ∧ (f + 1 ≤ M ∧ M ≤ f + L) ∧ (TQM True xa2 xs a0 (xs.length + 1) a0.toNat (((xs.length : Int) + 1) * ((xs.length : Int) + 1) * a0).toNat ys L f K M) ∧ (cl 0 (xs.length + 1) a0.toNat ys f (f + L) (rl xa2 K).1 ≤ 1000000000)) (ρ₀ := [(13, _)]) (m₀ := _) ⟨rfl, rfl, rfl, rfl, rfl, rfl, rfl, rfl, rfl, rfl, trivial⟩ ⟨f + 1, _, rfl, rfl, (UpdL.refl _ _), osE ho2 (by rfl), (by first | omega | rfl | (simp; done) | assumption | (simp_all; done)), (by first | exact hp0.open_no (fun h9 => by have h91 : (xa2.getD K (0, 0, 0, 0)).2.2.1 < 0 := h9.1; have h92 := h9.2.1; first | omega | exact absurd h9.2.2 (by assumption)) | (rw [← ec, zp2]; exact hp0.open_leaf hg (by omega) (by omega) (by omega) (by omega) (by omega) (by omega) (by assumption) (by omega) (by assumption))), (by first | (have h9 := (hp0.so _ hgl.1 hgl.2).2.2.2 trivial; exact h9.2) | (rw [← ec, zp2, cl_eq (by omega)]; have h9 := (hp0.so _ hgl.1 hgl.2).2.1 (by omega); omega))⟩ ?_
          rintro _ wl6 _ ⟨M, ys, rfl, rfl, hU3, ho2, hm, hp, hs9⟩
          have hU0 := hU0.trans hU3 ⟨hk0_2, trivial⟩
          have hU1 := hU1.trans hU3 ⟨hk1_2, trivial⟩
          have hU2 := hU2.trans hU3 ⟨hk2_2, trivial⟩
          have hb1 := hb1.loop hU3 ⟨hd1_2, trivial⟩
          have hb6 := hb6.loop hU3 ⟨(Dj.symm hd2_6), trivial⟩
          have hk3_2 : OkB [(some g2)] w11 (some g2) := OkB.mem (by simp)
          have hB := hB.loop hU3 ⟨hl2, trivial⟩
          refine CW.seq ?_
          refine CW.seq ?_
          refine CW.reg ?_
          refine WL.pure rfl rfl rfl (PV.move rfl) ?_
          refine WL.pure rfl rfl rfl (PV.move rfl) ?_
          refine WL.pure rfl rfl rfl (PV.move rfl) ?_
          refine WL.pure rfl rfl rfl (PV.add rfl rfl (by constructor <;> omega)) ?_
          refine WL.pure rfl rfl rfl (PV.lss rfl rfl) ?_
          refine WL.pure rfl rfl rfl (PV.move rfl) ?_
          refine WL.split (t := 95) rfl (fun hc14 => ?_) (fun hc14 => ?_)
          rotate_left
          · skip
            try simp only [decide_eq_true_eq, decide_eq_false_iff_not, Bool.not_eq_true', Bool.not_eq_false', Bool.not_eq_eq_eq_not, Bool.not_true, Bool.not_false, Int.not_lt, Int.not_le, Classical.not_not, beq_iff_eq, beq_eq_false_iff_ne] at hc14
            refine WL.skip rfl rfl rfl rfl rfl ?_
            refine WL.skip rfl rfl rfl rfl rfl ?_
            refine WL.skip rfl rfl rfl rfl rfl ?_
            refine WL.pure rfl rfl rfl (PV.pickF rfl rfl) ?_
            refine WL.nilS ?_
            refine CW.condF rfl ?_
            refine CW.exit ?_
            refine XQ.then ?_
            refine XQ.then ?_
            refine XQ.here ?_
            refine NQ.block ?_
            refine NQ.then ?_
            refine CW.reg ?_
            refine WL.pure rfl rfl rfl (PV.move rfl) ?_
            refine WL.pure rfl rfl rfl (PV.add rfl rfl (by constructor <;> omega)) ?_
            refine WL.pure rfl rfl rfl (PV.assign rfl) ?_
            refine WL.nil ?_
            refine NQ.next (ρ := [(11, _)]) ⟨rfl, rfl, rfl, rfl, rfl, rfl, rfl, rfl, trivial⟩ ?_
            exact ⟨_, ⟨K + 1, _, rfl, rfl, hU2, osE ho2 (by rfl), (by first | omega | assumption | (simp_all; done) | (simp_all; omega)), (by exact hp.close (by first | exact .inl (by omega) | exact .inr (by assumption)) (by omega) (fun _ => hs9))⟩, by omega⟩
          try simp only [decide_eq_true_eq, decide_eq_false_iff_not, Bool.not_eq_true', Bool.not_eq_false', Bool.not_eq_eq_eq_not, Bool.not_true, Bool.not_false, Int.not_lt, Int.not_le, Classical.not_not, beq_iff_eq, beq_eq_false_iff_ne] at hc14
          refine WL.pureG rfl rfl rfl rfl rfl ((by first | exact PV.fieldAddr T.fl100_2 rfl (by first | assumption | exact Bx.cells (by assumption)) | exact PV.fieldAddrP T.fl100_2 rfl rfl)) ?_
          refine WL.pureG rfl rfl rfl rfl rfl ((by first | exact PV.load0 T.na2 rfl (by first | exact Cells.up (by assumption) hB | exact Bx.cells (by assumption) | assumption) (Ext.refl _) rfl | exact PV.load1 T.na2 rfl (by first | exact Cells.up (by assumption) hB | exact Bx.cells (by assumption) | assumption) (Ext.refl _) rfl)) ?_
          refine WL.pureG rfl rfl rfl rfl rfl (PV.geq rfl rfl) ?_
          refine WL.pure rfl rfl rfl (PV.pickT rfl rfl) ?_
          refine WL.nilS ?_
          refine CW.cond rfl (fun hc15 => ?_) (fun hc15 => ?_)
          · skip
            try simp only [decide_eq_true_eq, decide_eq_false_iff_not, Bool.not_eq_true', Bool.not_eq_false', Bool.not_eq_eq_eq_not, Bool.not_true, Bool.not_false, Int.not_lt, Int.not_le, Classical.not_not, beq_iff_eq, beq_eq_false_iff_ne] at hc15
            refine CW.skipS ?_
            refine CW.seq ?_
            refine CW.block ?_
            refine CW.seq ?_
            refine CW.draw T.mixed (by kernel_rfl) (fun _ _ _ _ _ h => h) (fun w8 w9 => Upd none w8 w9) 42 (.take 0 (.take 1 (.take 2 (.take 3 (.take 4 (.take 5 (.take 6 (.take 7 (.take 8 (.take 9 (.take 10 (.take 11 (.take 12 (.take 13 (.take 14 (.take 15 (.take 16 (.take 17 (.take 18 (.take 19 (.take 20 (.take 21 (.take 22 (.take 23 (.take 24 (.take 25 (.take 26 (.take 27 (.take 28 (.take 29 (.take 30 (.take 31 (.take 32 (.take 33 (.take 34 (.take 35 (.take 36 (.take 37 (.take 38 (.take 39 (.take 40 (.take 41 (.must 42 .done))))))))))))))))))))))))))))))))))))))))))) (by kernel_rfl) (fun w12 hXd => ?_)
            have hB := hB.trans hXd
            have hb1 := hb1.up hXd
            have ho2 := ho2.up hXd
            have hb6 := hb6.up hXd
            have hU0 := hU0.ext hXd
            have hU1 := hU1.ext hXd
            have hU2 := hU2.ext hXd
            have hU3 := hU3.ext hXd
            have hBr := hB
            have hS : Upd none w12 w12 := Ext.toUpd (Ext.refl _)
            have hgl := gram_left hg K (by omega); have hgl1 : 0 ≤ (xa2.getD K (0, 0, 0, 0)).1 := hgl.1; have hgl2 : (xa2.getD K (0, 0, 0, 0)).1 < a0 := hgl.2; have zp := ixC3 (x := f) (y := f) (y2 := L) (n := xs.length) (s := a0) (r := (xa2.getD K (0, 0, 0, 0)).1) (by omega) (by omega) (by omega) (by omega) ⟨hgl1, hgl2⟩; have hyn := hp.n; have zp0 := zp.1; have zp0b := zp.2.1; have zp1 := zp.2.2.1; have zp2 := zp.2.2.2.1; have zp3 := zp.2.2.2.2; have ec : cl 0 (xs.length + 1) a0.toNat ys f (f + L) (rl xa2 K).1 = ys.getD (((f : Int) * (xs.length + 1) + f + L) * a0 + (xa2.getD K (0, 0, 0, 0)).1).toNat 0 := congrArg (fun q => ys.getD q 0) zp2.symm; have hcr := hp.range (by omega) hgl; rw [ec] at hcr; have hgn := gram_node hg (k := K) (by omega) (by assumption); have gn1 : 0 ≤ (xa2.getD K (0, 0, 0, 0)).2.1 ∧ (xa2.getD K (0, 0, 0, 0)).2.1 < a0 := hgn.1; have gn2 : 0 ≤ (xa2.getD K (0, 0, 0, 0)).2.2.1 ∧ (xa2.getD K (0, 0, 0, 0)).2.2.1 < a0 := hgn.2; have za := ixC (x := f) (y := M) (n := xs.length) (s := a0) (r := (xa2.getD K (0, 0, 0, 0)).2.1) (by omega) (by omega) (by omega) (by omega) gn1; have zb := ixC3 (x := M) (y := f) (y2 := L) (n := xs.length) (s := a0) (r := (xa2.getD K (0, 0, 0, 0)).2.2.1) (by omega) (by omega) (by omega) (by omega) gn2; have za1 := za.2.2.1; have za2 := za.2.2.2.1; have zb1 := zb.2.2.1; have zb2 := zb.2.2.2.1; have za0 := za.1; have zb0 := zb.1; have za3 := za.2.1; have zb3 := zb.2.1; have hsb := hp.sub hg (by omega) (by omega) (by assumption) (by omega) (by omega); have ea : cl 0 (xs.length + 1) a0.toNat ys f M (rl xa2 K).2.1 = ys.getD (((f : Int) * (xs.length + 1) + M) * a0 + (xa2.getD K (0, 0, 0, 0)).2.1).toNat 0 := congrArg (fun q => ys.getD q 0) za2.symm; have eb : cl 0 (xs.length + 1) a0.toNat ys M (f + L) (rl xa2 K).2.2.1 = ys.getD (((M : Int) * (xs.length + 1) + f + L) * a0 + (xa2.getD K (0, 0, 0, 0)).2.2.1).toNat 0 := congrArg (fun q => ys.getD q 0) zb2.symm; rw [ea, eb] at hsb; have hmb := mul_bd hsb.1 hsb.2; have e0 := gset_eq (l := ys) (i := (((f : Int) * (xs.length + 1) + f + L) * a0 + (xa2.getD K (0, 0, 0, 0)).1).toNat) (v := ys.getD (((f : Int) * (xs.length + 1) + f + L) * a0 + (xa2.getD K (0, 0, 0, 0)).1).toNat 0 + ys.getD (((f : Int) * (xs.length + 1) + M) * a0 + (xa2.getD K (0, 0, 0, 0)).2.1).toNat 0 * ys.getD (((M : Int) * (xs.length + 1) + f + L) * a0 + (xa2.getD K (0, 0, 0, 0)).2.2.1).toNat 0) (by omega)
            refine HP.take rfl rfl rfl rfl hS (fun wS hS1 => PV.move rfl) ?_
            refine HP.take rfl rfl rfl rfl hS (fun wS hS1 => PV.move rfl) ?_
            refine HP.take rfl rfl rfl rfl hS (fun wS hS1 => (by first | exact PV.fieldAddr T.fl100_0 rfl (by first | assumption | exact Bx.cells (by assumption)) | exact PV.fieldAddrP T.fl100_0 rfl rfl)) ?_
            refine HP.take rfl rfl rfl rfl hS (fun wS hS1 => (by first | exact PV.load0 T.na2 rfl (by first | exact Cells.up (by assumption) (hBr.trans hS1) | exact Bx.cells (Bx.updD (by assumption) hS1 (Dj.nlR _)) | exact Cells.upd (by assumption) hS1 (by simp)) (Ext.refl _) rfl | exact PV.load1 T.na2 rfl (by first | exact Cells.up (by assumption) (hBr.trans hS1) | exact Bx.cells (Bx.updD (by assumption) hS1 (Dj.nlR _)) | exact Cells.upd (by assumption) hS1 (by simp)) (Ext.refl _) rfl)) ?_
            refine HP.take rfl rfl rfl rfl hS (fun wS hS1 => PV.add rfl rfl (by constructor <;> omega)) ?_
            first
              | refine HP.atO (wb := w12) (x := .tmp 102) (y := .tmp 106) (f := VI) (0) rfl rfl (by assumption) (by first | omega | (simp; omega) | (simp_all; omega)) (fun p15 hpp15 hcp15 => ?_)
              | refine HP.atOZ (wb := w12) (x := .tmp 102) (y := .tmp 106) (f := VI) (0) rfl rfl (by assumption) (by first | omega | (simp; omega) | (simp_all; omega)) (fun p15 hpp15 hzp15 hcp15 => ?_)
            refine HP.take rfl rfl rfl rfl hS (fun wS hS1 => (by first | exact PV.indexAddr hpp15 rfl rfl T.sl22 | exact PV.indexAddr hpp15 rfl (by rw [← hzp15]; rfl) T.sl22)) ?_
            refine HP.take rfl rfl rfl rfl hS (fun wS hS1 => (by first | exact PV.load0 T.na2 rfl (by first | exact Cells.up (by assumption) (hBr.trans hS1) | exact Bx.cells (Bx.updD (by assumption) hS1 (Dj.nlR _)) | exact Cells.upd (by assumption) hS1 (by simp)) (Ext.refl _) rfl | exact PV.load1 T.na2 rfl (by first | exact Cells.up (by assumption) (hBr.trans hS1) | exact Bx.cells (Bx.updD (by assumption) hS1 (Dj.nlR _)) | exact Cells.upd (by assumption) hS1 (by simp)) (Ext.refl _) rfl)) ?_
            refine HP.take rfl rfl rfl rfl hS (fun wS hS1 => PV.move rfl) ?_
            refine HP.take rfl rfl rfl rfl hS (fun wS hS1 => PV.move rfl) ?_
            refine HP.take rfl rfl rfl rfl hS (fun wS hS1 => PV.move rfl) ?_
            refine HP.take rfl rfl rfl rfl hS (fun wS hS1 => PV.add rfl rfl (by constructor <;> omega)) ?_
            refine HP.take rfl rfl rfl rfl hS (fun wS hS1 => PV.mul rfl rfl (by constructor <;> omega)) ?_
            refine HP.take rfl rfl rfl rfl hS (fun wS hS1 => PV.move rfl) ?_
            refine HP.take rfl rfl rfl rfl hS (fun wS hS1 => PV.add rfl rfl (by constructor <;> omega)) ?_
            refine HP.take rfl rfl rfl rfl hS (fun wS hS1 => (by first | exact PV.fieldAddr T.fl56_0 rfl (by first | assumption | exact Bx.cells (by assumption)) | exact PV.fieldAddrP T.fl56_0 rfl rfl)) ?_
            refine HP.take rfl rfl rfl rfl hS (fun wS hS1 => (by first | exact PV.load0 T.na2 rfl (by first | exact Cells.up (by assumption) (hBr.trans hS1) | exact Bx.cells (Bx.updD (by assumption) hS1 (Dj.nlR _)) | exact Cells.upd (by assumption) hS1 (by simp)) (Ext.refl _) rfl | exact PV.load1 T.na2 rfl (by first | exact Cells.up (by assumption) (hBr.trans hS1) | exact Bx.cells (Bx.updD (by assumption) hS1 (Dj.nlR _)) | exact Cells.upd (by assumption) hS1 (by simp)) (Ext.refl _) rfl)) ?_
            refine HP.take rfl rfl rfl rfl hS (fun wS hS1 => PV.mul rfl rfl (by constructor <;> omega)) ?_
            refine HP.take rfl rfl rfl rfl hS (fun wS hS1 => (by first | exact PV.fieldAddr T.fl100_1 rfl (by first | assumption | exact Bx.cells (by assumption)) | exact PV.fieldAddrP T.fl100_1 rfl rfl)) ?_
            refine HP.take rfl rfl rfl rfl hS (fun wS hS1 => (by first | exact PV.load0 T.na2 rfl (by first | exact Cells.up (by assumption) (hBr.trans hS1) | exact Bx.cells (Bx.updD (by assumption) hS1 (Dj.nlR _)) | exact Cells.upd (by assumption) hS1 (by simp)) (Ext.refl _) rfl | exact PV.load1 T.na2 rfl (by first | exact Cells.up (by assumption) (hBr.trans hS1) | exact Bx.cells (Bx.updD (by assumption) hS1 (Dj.nlR _)) | exact Cells.upd (by assumption) hS1 (by simp)) (Ext.refl _) rfl)) ?_
            refine HP.take rfl rfl rfl rfl hS (fun wS hS1 => PV.add rfl rfl (by constructor <;> omega)) ?_
            first
              | refine HP.atO (wb := w12) (x := .tmp 109) (y := .tmp 121) (f := VI) (0) rfl rfl (by assumption) (by first | omega | (simp; omega) | (simp_all; omega)) (fun p16 hpp16 hcp16 => ?_)
              | refine HP.atOZ (wb := w12) (x := .tmp 109) (y := .tmp 121) (f := VI) (0) rfl rfl (by assumption) (by first | omega | (simp; omega) | (simp_all; omega)) (fun p16 hpp16 hzp16 hcp16 => ?_)
            refine HP.take rfl rfl rfl rfl hS (fun wS hS1 => (by first | exact PV.indexAddr hpp16 rfl rfl T.sl22 | exact PV.indexAddr hpp16 rfl (by rw [← hzp16]; rfl) T.sl22)) ?_
            refine HP.take rfl rfl rfl rfl hS (fun wS hS1 => (by first | exact PV.load0 T.na2 rfl (by first | exact Cells.up (by assumption) (hBr.trans hS1) | exact Bx.cells (Bx.updD (by assumption) hS1 (Dj.nlR _)) | exact Cells.upd (by assumption) hS1 (by simp)) (Ext.refl _) rfl | exact PV.load1 T.na2 rfl (by first | exact Cells.up (by assumption) (hBr.trans hS1) | exact Bx.cells (Bx.updD (by assumption) hS1 (Dj.nlR _)) | exact Cells.upd (by assumption) hS1 (by simp)) (Ext.refl _) rfl)) ?_
            refine HP.take rfl rfl rfl rfl hS (fun wS hS1 => PV.move rfl) ?_
            refine HP.take rfl rfl rfl rfl hS (fun wS hS1 => PV.move rfl) ?_
            refine HP.take rfl rfl rfl rfl hS (fun wS hS1 => PV.move rfl) ?_
            refine HP.take rfl rfl rfl rfl hS (fun wS hS1 => PV.add rfl rfl (by constructor <;> omega)) ?_
            refine HP.take rfl rfl rfl rfl hS (fun wS hS1 => PV.mul rfl rfl (by constructor <;> omega)) ?_
            refine HP.take rfl rfl rfl rfl hS (fun wS hS1 => PV.move rfl) ?_
            refine HP.take rfl rfl rfl rfl hS (fun wS hS1 => PV.add rfl rfl (by constructor <;> omega)) ?_
            refine HP.take rfl rfl rfl rfl hS (fun wS hS1 => PV.move rfl) ?_
            refine HP.take rfl rfl rfl rfl hS (fun wS hS1 => PV.add rfl rfl (by constructor <;> omega)) ?_
            refine HP.take rfl rfl rfl rfl hS (fun wS hS1 => (by first | exact PV.fieldAddr T.fl56_0 rfl (by first | assumption | exact Bx.cells (by assumption)) | exact PV.fieldAddrP T.fl56_0 rfl rfl)) ?_
            refine HP.take rfl rfl rfl rfl hS (fun wS hS1 => (by first | exact PV.load0 T.na2 rfl (by first | exact Cells.up (by assumption) (hBr.trans hS1) | exact Bx.cells (Bx.updD (by assumption) hS1 (Dj.nlR _)) | exact Cells.upd (by assumption) hS1 (by simp)) (Ext.refl _) rfl | exact PV.load1 T.na2 rfl (by first | exact Cells.up (by assumption) (hBr.trans hS1) | exact Bx.cells (Bx.updD (by assumption) hS1 (Dj.nlR _)) | exact Cells.upd (by assumption) hS1 (by simp)) (Ext.refl _) rfl)) ?_
            refine HP.take rfl rfl rfl rfl hS (fun wS hS1 => PV.mul rfl rfl (by constructor <;> omega)) ?_
            refine HP.take rfl rfl rfl rfl hS (fun wS hS1 => (by first | exact PV.fieldAddr T.fl100_2 rfl (by first | assumption | exact Bx.cells (by assumption)) | exact PV.fieldAddrP T.fl100_2 rfl rfl)) ?_
            refine HP.take rfl rfl rfl rfl hS (fun wS hS1 => (by first | exact PV.load0 T.na2 rfl (by first | exact Cells.up (by assumption) (hBr.trans hS1) | exact Bx.cells (Bx.updD (by assumption) hS1 (Dj.nlR _)) | exact Cells.upd (by assumption) hS1 (by simp)) (Ext.refl _) rfl | exact PV.load1 T.na2 rfl (by first | exact Cells.up (by assumption) (hBr.trans hS1) | exact Bx.cells (Bx.updD (by assumption) hS1 (Dj.nlR _)) | exact Cells.upd (by assumption) hS1 (by simp)) (Ext.refl _) rfl)) ?_
            refine HP.take rfl rfl rfl rfl hS (fun wS hS1 => PV.add rfl rfl (by constructor <;> omega)) ?_
            first
              | refine HP.atO (wb := w12) (x := .tmp 124) (y := .tmp 138) (f := VI) (0) rfl rfl (by assumption) (by first | omega | (simp; omega) | (simp_all; omega)) (fun p17 hpp17 hcp17 => ?_)
              | refine HP.atOZ (wb := w12) (x := .tmp 124) (y := .tmp 138) (f := VI) (0) rfl rfl (by assumption) (by first | omega | (simp; omega) | (simp_all; omega)) (fun p17 hpp17 hzp17 hcp17 => ?_)
            refine HP.take rfl rfl rfl rfl hS (fun wS hS1 => (by first | exact PV.indexAddr hpp17 rfl rfl T.sl22 | exact PV.indexAddr hpp17 rfl (by rw [← hzp17]; rfl) T.sl22)) ?_
            refine HP.take rfl rfl rfl rfl hS (fun wS hS1 => (by first | exact PV.load0 T.na2 rfl (by first | exact Cells.up (by assumption) (hBr.trans hS1) | exact Bx.cells (Bx.updD (by assumption) hS1 (Dj.nlR _)) | exact Cells.upd (by assumption) hS1 (by simp)) (Ext.refl _) rfl | exact PV.load1 T.na2 rfl (by first | exact Cells.up (by assumption) (hBr.trans hS1) | exact Bx.cells (Bx.updD (by assumption) hS1 (Dj.nlR _)) | exact Cells.upd (by assumption) hS1 (by simp)) (Ext.refl _) rfl)) ?_
            refine HP.take rfl rfl rfl rfl hS (fun wS hS1 => PV.mul rfl rfl (by constructor <;> omega)) ?_
            refine HP.take rfl rfl rfl rfl hS (fun wS hS1 => PV.add rfl rfl (by constructor <;> omega)) ?_
            first
              | refine HP.atO (wb := w12) (x := .tmp 102) (y := .tmp 106) (f := VI) (0) rfl rfl (by assumption) (by first | omega | (simp; omega) | (simp_all; omega)) (fun p18 hpp18 hcp18 => ?_)
              | refine HP.atOZ (wb := w12) (x := .tmp 102) (y := .tmp 106) (f := VI) (0) rfl rfl (by assumption) (by first | omega | (simp; omega) | (simp_all; omega)) (fun p18 hpp18 hzp18 hcp18 => ?_)
            refine HP.take rfl rfl rfl rfl hS (fun wS hS1 => (by first | exact PV.indexAddr hpp18 rfl rfl T.sl22 | exact PV.indexAddr hpp18 rfl (by rw [← hzp18]; rfl) T.sl22)) ?_
            refine HP.last rfl rfl (OpK.storeS VI T.sz2 rfl rfl rfl hpp18 ho2 (fun w13 hXw13 ho2 => ?_))
            have hB := hB.updL hXw13 hl2
            have hb1 := hb1.updD hXw13 hd1_2
            have hb6 := hb6.updD hXw13 (Dj.symm hd2_6)
            have hU0 := hU0.step hXw13 hk0_2
            have hU1 := hU1.step hXw13 hk1_2
            have hU2 := hU2.step hXw13 hk2_2
            have hU3 := hU3.step hXw13 hk3_2
            refine HP.doneS ?_
            refine CW.seq ?_
            refine CW.reg ?_
            refine WL.pure rfl rfl rfl (PV.move rfl) ?_
            refine WL.pure rfl rfl rfl (PV.move rfl) ?_
            refine WL.pure rfl rfl rfl ((by first | exact PV.fieldAddr T.fl100_0 rfl (by first | assumption | exact Bx.cells (by assumption)) | exact PV.fieldAddrP T.fl100_0 rfl rfl)) ?_
            refine WL.pure rfl rfl rfl ((by first | exact PV.load0 T.na2 rfl (by first | exact Cells.up (by assumption) hB | exact Bx.cells (by assumption) | assumption) (Ext.refl _) rfl | exact PV.load1 T.na2 rfl (by first | exact Cells.up (by assumption) hB | exact Bx.cells (by assumption) | assumption) (Ext.refl _) rfl)) ?_
            refine WL.pure rfl rfl rfl (PV.add rfl rfl (by constructor <;> omega)) ?_
            first
              | refine WL.atO (x := .tmp 144) (y := .tmp 148) (f := VI) (0) rfl rfl ho2 (by simp only [List.length_set]; omega) (fun p19 hpp19 hcp19 => ?_)
              | refine WL.atOZ (x := .tmp 144) (y := .tmp 148) (f := VI) (0) rfl rfl ho2 (by simp only [List.length_set]; omega) (fun p19 hpp19 hzp19 hcp19 => ?_)
            refine WL.pure rfl rfl rfl ((by first | exact PV.indexAddr hpp19 rfl rfl T.sl22 | exact PV.indexAddr hpp19 rfl (by rw [← hzp19]; rfl) T.sl22)) ?_
            refine WL.pure rfl rfl rfl ((by first | exact PV.load0 T.na2 rfl (by first | exact Cells.up (by assumption) hB | exact Bx.cells (by assumption) | assumption) (Ext.refl _) rfl | exact PV.load1 T.na2 rfl (by first | exact Cells.up (by assumption) hB | exact Bx.cells (by assumption) | assumption) (Ext.refl _) rfl)) ?_
            refine WL.pure rfl rfl rfl (PV.gtr rfl rfl) ?_
            refine WL.nilS ?_
            refine CW.cond rfl (fun hc16 => ?_) (fun hc16 => ?_)
            · skip
              try simp only [decide_eq_true_eq, decide_eq_false_iff_not, Bool.not_eq_true', Bool.not_eq_false', Bool.not_eq_eq_eq_not, Bool.not_true, Bool.not_false, Int.not_lt, Int.not_le, Classical.not_not, beq_iff_eq, beq_eq_false_iff_ne] at hc16
              have hno := hp.bad2 trivial hg (by omega) (by omega) (by omega) (by omega) (by omega) (by omega) (by rw [ec, ea, eb]; omega)
              refine CW.seq ?_
              refine CW.reg ?_
              refine WL.pure rfl rfl rfl (PV.assign rfl) ?_
              refine WL.pure rfl rfl rfl (PV.assign rfl) ?_
              refine WL.nilS ?_
              refine CW.ret ?_
              refine RQ.block ?_
              refine RQ.then ?_
              refine RQ.then ?_
              refine RQ.block ?_
              refine RQ.block ?_
              refine RQ.then ?_
              refine RQ.then ?_
              refine RQ.block ?_
              refine RQ.block ?_
              refine RQ.then ?_
              refine RQ.then ?_
              refine RQ.block ?_
              refine RQ.block ?_
              refine RQ.then ?_
              refine RQ.then ?_
              refine RQ.block ?_
              refine RQ.then ?_
              refine RQ.r2 rfl rfl ?_
              refine ⟨?_, hB⟩
              first | exact tE2 (iE (by rw [onI_no (by rw [← canT_n1 (by assumption)]; decide)])) (bE (canT_n1 (by assumption))) | exact tE2 (iE (by rw [onI_no (by rw [← canT_n2 hno]; decide)])) (bE (canT_n2 hno)) | (obtain rfl : L = xs.length + 1 := (by omega); have hyo := TDC.okT ht trivial; exact tE2 (iE (by rw [onI_yes (canT_y (by assumption) hyo).symm]; exact ht.topF trivial (by omega) (by omega))) (bE (canT_y (by assumption) hyo)))
            try simp only [decide_eq_true_eq, decide_eq_false_iff_not, Bool.not_eq_true', Bool.not_eq_false', Bool.not_eq_eq_eq_not, Bool.not_true, Bool.not_false, Int.not_lt, Int.not_le, Classical.not_not, beq_iff_eq, beq_eq_false_iff_ne] at hc16
            refine CW.skip ?_
            refine NQ.block ?_
            refine NQ.then ?_
            refine CW.reg ?_
            refine WL.pure rfl rfl rfl (PV.move rfl) ?_
            refine WL.pure rfl rfl rfl (PV.add rfl rfl (by constructor <;> omega)) ?_
            refine WL.pure rfl rfl rfl (PV.assign rfl) ?_
            refine WL.nil ?_
            refine NQ.next (ρ := [(13, _)]) ⟨rfl, rfl, rfl, rfl, rfl, rfl, rfl, rfl, rfl, rfl, trivial⟩ ?_
            exact ⟨_, ⟨M + 1, _, rfl, rfl, hU3, osE ho2 (by rfl), (by first | omega | assumption | (simp_all; done) | (simp_all; omega)), (by rw [← ec, ← ea, ← eb, zp2]; exact hp.step hg (by omega) (by omega) (by omega) (by omega) (by omega) (by assumption) (by omega) (by omega) (by rw [ec, ea, eb]; omega)), (by rw [← ec, ← ea, ← eb, zp2, cl_eq (by omega), ec, ea, eb]; omega)⟩, by omega⟩
          try simp only [decide_eq_true_eq, decide_eq_false_iff_not, Bool.not_eq_true', Bool.not_eq_false', Bool.not_eq_eq_eq_not, Bool.not_true, Bool.not_false, Int.not_lt, Int.not_le, Classical.not_not, beq_iff_eq, beq_eq_false_iff_ne] at hc15
          refine CW.exit ?_
          refine XQ.then ?_
          refine XQ.then ?_
          refine XQ.here ?_
          refine NQ.block ?_
          refine NQ.then ?_
          refine CW.reg ?_
          refine WL.pure rfl rfl rfl (PV.move rfl) ?_
          refine WL.pure rfl rfl rfl (PV.add rfl rfl (by constructor <;> omega)) ?_
          refine WL.pure rfl rfl rfl (PV.assign rfl) ?_
          refine WL.nil ?_
          refine NQ.next (ρ := [(11, _)]) ⟨rfl, rfl, rfl, rfl, rfl, rfl, rfl, rfl, trivial⟩ ?_
          exact ⟨_, ⟨K + 1, _, rfl, rfl, hU2, osE ho2 (by rfl), (by first | omega | assumption | (simp_all; done) | (simp_all; omega)), (by exact hp.close (by first | exact .inl (by omega) | exact .inr (by assumption)) (by omega) (fun _ => hs9))⟩, by omega⟩
        try simp only [decide_eq_true_eq, decide_eq_false_iff_not, Bool.not_eq_true', Bool.not_eq_false', Bool.not_eq_eq_eq_not, Bool.not_true, Bool.not_false, Int.not_lt, Int.not_le, Classical.not_not, beq_iff_eq, beq_eq_false_iff_ne] at hc13
        refine CW.skipS ?_
        refine CW.seq ?_
        refine CW.reg ?_
        refine WL.pure rfl rfl rfl (PV.move rfl) ?_
        refine WL.pure rfl rfl rfl (PV.add rfl rfl (by constructor <;> omega)) ?_
        refine WL.pure rfl rfl rfl (PV.assign rfl) ?_
        refine WL.nilS ?_
        refine CW.block ?_
        have hlt1 := hb1.ltO
        have hlt2 := ho2.ltO
        have hlt6 := hb6.ltO
        refine CW.loop (σk := [(1, _), (2, _), (6, _), (7, _), (8, _), (9, _), (10, _), (11, _), (12, _)]) (fun ρ wz m => ∃ (M : Nat) (ys : List Int), ρ = [(13, .int .i64 (M : Nat))] ∧ m = f + L - M ∧ UpdL [(some g2)] w6 wz ∧ Osl VI wz (some g2) v2 (ys) ∧ (f + 1 ≤ M ∧ M ≤ f + L) ∧ (TQM True xa2 xs a0 (xs.length + 1) a0.toNat (((xs.length : Int) + 1) * ((xs.length : Int) + 1) * a0).toNat ys L f K M) ∧ (cl 0 (xs.length + 1) a0.toNat ys f (f + L) (rl xa2 K).1 ≤ 1000000000)) (ρ₀ := [(13, _)]) (m₀ := _) ⟨rfl, rfl, rfl, rfl, rfl, rfl, rfl, rfl, rfl, rfl, trivial⟩ ⟨f + 1, _, rfl, rfl, (UpdL.refl _ _), osE ho2 (by rfl), (by first | omega | rfl | (simp; done) | assumption | (simp_all; done)), (by first | exact hp0.open_no (fun h9 => by have h91 : (xa2.getD K (0, 0, 0, 0)).2.2.1 < 0 := h9.1; have h92 := h9.2.1; first | omega | exact absurd h9.2.2 (by assumption)) | (rw [← ec, zp2]; exact hp0.open_leaf hg (by omega) (by omega) (by omega) (by omega) (by omega) (by omega) (by assumption) (by omega) (by assumption))), (by first | (have h9 := (hp0.so _ hgl.1 hgl.2).2.2.2 trivial; exact h9.2) | (rw [← ec, zp2, cl_eq (by omega)]; have h9 := (hp0.so _ hgl.1 hgl.2).2.1 (by omega); omega))⟩ ?_
        rintro _ wl7 _ ⟨M, ys, rfl, rfl, hU3, ho2, hm, hp, hs9⟩
        have hU0 := hU0.trans hU3 ⟨hk0_2, trivial⟩
        have hU1 := hU1.trans hU3 ⟨hk1_2, trivial⟩
        have hU2 := hU2.trans hU3 ⟨hk2_2, trivial⟩
        have hb1 := hb1.loop hU3 ⟨hd1_2, trivial⟩
        have hb6 := hb6.loop hU3 ⟨(Dj.symm hd2_6), trivial⟩
        have hk3_2 : OkB [(some g2)] w6 (some g2) := OkB.mem (by simp)
        have hB := hB.loop hU3 ⟨hl2, trivial⟩
        refine CW.seq ?_
        refine CW.seq ?_
        refine CW.reg ?_
        refine WL.pure rfl rfl rfl (PV.move rfl) ?_
        refine WL.pure rfl rfl rfl (PV.move rfl) ?_
        refine WL.pure rfl rfl rfl (PV.move rfl) ?_
        refine WL.pure rfl rfl rfl (PV.add rfl rfl (by constructor <;> omega)) ?_
        refine WL.pure rfl rfl rfl (PV.lss rfl rfl) ?_
        refine WL.pure rfl rfl rfl (PV.move rfl) ?_
        refine WL.split (t := 95) rfl (fun hc17 => ?_) (fun hc17 => ?_)
        rotate_left
        · skip
          try simp only [decide_eq_true_eq, decide_eq_false_iff_not, Bool.not_eq_true', Bool.not_eq_false', Bool.not_eq_eq_eq_not, Bool.not_true, Bool.not_false, Int.not_lt, Int.not_le, Classical.not_not, beq_iff_eq, beq_eq_false_iff_ne] at hc17
          refine WL.skip rfl rfl rfl rfl rfl ?_
          refine WL.skip rfl rfl rfl rfl rfl ?_
          refine WL.skip rfl rfl rfl rfl rfl ?_
          refine WL.pure rfl rfl rfl (PV.pickF rfl rfl) ?_
          refine WL.nilS ?_
          refine CW.condF rfl ?_
          refine CW.exit ?_
          refine XQ.then ?_
          refine XQ.then ?_
          refine XQ.here ?_
          refine NQ.block ?_
          refine NQ.then ?_
          refine CW.reg ?_
          refine WL.pure rfl rfl rfl (PV.move rfl) ?_
          refine WL.pure rfl rfl rfl (PV.add rfl rfl (by constructor <;> omega)) ?_
          refine WL.pure rfl rfl rfl (PV.assign rfl) ?_
          refine WL.nil ?_
          refine NQ.next (ρ := [(11, _)]) ⟨rfl, rfl, rfl, rfl, rfl, rfl, rfl, rfl, trivial⟩ ?_
          exact ⟨_, ⟨K + 1, _, rfl, rfl, hU2, osE ho2 (by rfl), (by first | omega | assumption | (simp_all; done) | (simp_all; omega)), (by exact hp.close (by first | exact .inl (by omega) | exact .inr (by assumption)) (by omega) (fun _ => hs9))⟩, by omega⟩
        try simp only [decide_eq_true_eq, decide_eq_false_iff_not, Bool.not_eq_true', Bool.not_eq_false', Bool.not_eq_eq_eq_not, Bool.not_true, Bool.not_false, Int.not_lt, Int.not_le, Classical.not_not, beq_iff_eq, beq_eq_false_iff_ne] at hc17
        refine WL.pureG rfl rfl rfl rfl rfl ((by first | exact PV.fieldAddr T.fl100_2 rfl (by first | assumption | exact Bx.cells (by assumption)) | exact PV.fieldAddrP T.fl100_2 rfl rfl)) ?_
        refine WL.pureG rfl rfl rfl rfl rfl ((by first | exact PV.load0 T.na2 rfl (by first | exact Cells.up (by assumption) hB | exact Bx.cells (by assumption) | assumption) (Ext.refl _) rfl | exact PV.load1 T.na2 rfl (by first | exact Cells.up (by assumption) hB | exact Bx.cells (by assumption) | assumption) (Ext.refl _) rfl)) ?_
        refine WL.pureG rfl rfl rfl rfl rfl (PV.geq rfl rfl) ?_
        refine WL.pure rfl rfl rfl (PV.pickT rfl rfl) ?_
        refine WL.nilS ?_
        refine CW.cond rfl (fun hc18 => ?_) (fun hc18 => ?_)
        · skip
          try simp only [decide_eq_true_eq, decide_eq_false_iff_not, Bool.not_eq_true', Bool.not_eq_false', Bool.not_eq_eq_eq_not, Bool.not_true, Bool.not_false, Int.not_lt, Int.not_le, Classical.not_not, beq_iff_eq, beq_eq_false_iff_ne] at hc18
          refine CW.skipS ?_
          refine CW.seq ?_
          refine CW.block ?_
          refine CW.seq ?_
          refine CW.draw T.mixed (by kernel_rfl) (fun _ _ _ _ _ h => h) (fun w8 w9 => Upd none w8 w9) 42 (.take 0 (.take 1 (.take 2 (.take 3 (.take 4 (.take 5 (.take 6 (.take 7 (.take 8 (.take 9 (.take 10 (.take 11 (.take 12 (.take 13 (.take 14 (.take 15 (.take 16 (.take 17 (.take 18 (.take 19 (.take 20 (.take 21 (.take 22 (.take 23 (.take 24 (.take 25 (.take 26 (.take 27 (.take 28 (.take 29 (.take 30 (.take 31 (.take 32 (.take 33 (.take 34 (.take 35 (.take 36 (.take 37 (.take 38 (.take 39 (.take 40 (.take 41 (.must 42 .done))))))))))))))))))))))))))))))))))))))))))) (by kernel_rfl) (fun w14 hXd => ?_)
          have hB := hB.trans hXd
          have hb1 := hb1.up hXd
          have ho2 := ho2.up hXd
          have hb6 := hb6.up hXd
          have hU0 := hU0.ext hXd
          have hU1 := hU1.ext hXd
          have hU2 := hU2.ext hXd
          have hU3 := hU3.ext hXd
          have hBr := hB
          have hS : Upd none w14 w14 := Ext.toUpd (Ext.refl _)
          have hgl := gram_left hg K (by omega); have hgl1 : 0 ≤ (xa2.getD K (0, 0, 0, 0)).1 := hgl.1; have hgl2 : (xa2.getD K (0, 0, 0, 0)).1 < a0 := hgl.2; have zp := ixC3 (x := f) (y := f) (y2 := L) (n := xs.length) (s := a0) (r := (xa2.getD K (0, 0, 0, 0)).1) (by omega) (by omega) (by omega) (by omega) ⟨hgl1, hgl2⟩; have hyn := hp.n; have zp0 := zp.1; have zp0b := zp.2.1; have zp1 := zp.2.2.1; have zp2 := zp.2.2.2.1; have zp3 := zp.2.2.2.2; have ec : cl 0 (xs.length + 1) a0.toNat ys f (f + L) (rl xa2 K).1 = ys.getD (((f : Int) * (xs.length + 1) + f + L) * a0 + (xa2.getD K (0, 0, 0, 0)).1).toNat 0 := congrArg (fun q => ys.getD q 0) zp2.symm; have hcr := hp.range (by omega) hgl; rw [ec] at hcr; have hgn := gram_node hg (k := K) (by omega) (by assumption); have gn1 : 0 ≤ (xa2.getD K (0, 0, 0, 0)).2.1 ∧ (xa2.getD K (0, 0, 0, 0)).2.1 < a0 := hgn.1; have gn2 : 0 ≤ (xa2.getD K (0, 0, 0, 0)).2.2.1 ∧ (xa2.getD K (0, 0, 0, 0)).2.2.1 < a0 := hgn.2; have za := ixC (x := f) (y := M) (n := xs.length) (s := a0) (r := (xa2.getD K (0, 0, 0, 0)).2.1) (by omega) (by omega) (by omega) (by omega) gn1; have zb := ixC3 (x := M) (y := f) (y2 := L) (n := xs.length) (s := a0) (r := (xa2.getD K (0, 0, 0, 0)).2.2.1) (by omega) (by omega) (by omega) (by omega) gn2; have za1 := za.2.2.1; have za2 := za.2.2.2.1; have zb1 := zb.2.2.1; have zb2 := zb.2.2.2.1; have za0 := za.1; have zb0 := zb.1; have za3 := za.2.1; have zb3 := zb.2.1; have hsb := hp.sub hg (by omega) (by omega) (by assumption) (by omega) (by omega); have ea : cl 0 (xs.length + 1) a0.toNat ys f M (rl xa2 K).2.1 = ys.getD (((f : Int) * (xs.length + 1) + M) * a0 + (xa2.getD K (0, 0, 0, 0)).2.1).toNat 0 := congrArg (fun q => ys.getD q 0) za2.symm; have eb : cl 0 (xs.length + 1) a0.toNat ys M (f + L) (rl xa2 K).2.2.1 = ys.getD (((M : Int) * (xs.length + 1) + f + L) * a0 + (xa2.getD K (0, 0, 0, 0)).2.2.1).toNat 0 := congrArg (fun q => ys.getD q 0) zb2.symm; rw [ea, eb] at hsb; have hmb := mul_bd hsb.1 hsb.2; have e0 := gset_eq (l := ys) (i := (((f : Int) * (xs.length + 1) + f + L) * a0 + (xa2.getD K (0, 0, 0, 0)).1).toNat) (v := ys.getD (((f : Int) * (xs.length + 1) + f + L) * a0 + (xa2.getD K (0, 0, 0, 0)).1).toNat 0 + ys.getD (((f : Int) * (xs.length + 1) + M) * a0 + (xa2.getD K (0, 0, 0, 0)).2.1).toNat 0 * ys.getD (((M : Int) * (xs.length + 1) + f + L) * a0 + (xa2.getD K (0, 0, 0, 0)).2.2.1).toNat 0) (by omega)
          refine HP.take rfl rfl rfl rfl hS (fun wS hS1 => PV.move rfl) ?_
          refine HP.take rfl rfl rfl rfl hS (fun wS hS1 => PV.move rfl) ?_
          refine HP.take rfl rfl rfl rfl hS (fun wS hS1 => (by first | exact PV.fieldAddr T.fl100_0 rfl (by first | assumption | exact Bx.cells (by assumption)) | exact PV.fieldAddrP T.fl100_0 rfl rfl)) ?_
          refine HP.take rfl rfl rfl rfl hS (fun wS hS1 => (by first | exact PV.load0 T.na2 rfl (by first | exact Cells.up (by assumption) (hBr.trans hS1) | exact Bx.cells (Bx.updD (by assumption) hS1 (Dj.nlR _)) | exact Cells.upd (by assumption) hS1 (by simp)) (Ext.refl _) rfl | exact PV.load1 T.na2 rfl (by first | exact Cells.up (by assumption) (hBr.trans hS1) | exact Bx.cells (Bx.updD (by assumption) hS1 (Dj.nlR _)) | exact Cells.upd (by assumption) hS1 (by simp)) (Ext.refl _) rfl)) ?_
          refine HP.take rfl rfl rfl rfl hS (fun wS hS1 => PV.add rfl rfl (by constructor <;> omega)) ?_
          first
            | refine HP.atO (wb := w14) (x := .tmp 102) (y := .tmp 106) (f := VI) (0) rfl rfl (by assumption) (by first | omega | (simp; omega) | (simp_all; omega)) (fun p20 hpp20 hcp20 => ?_)
            | refine HP.atOZ (wb := w14) (x := .tmp 102) (y := .tmp 106) (f := VI) (0) rfl rfl (by assumption) (by first | omega | (simp; omega) | (simp_all; omega)) (fun p20 hpp20 hzp20 hcp20 => ?_)
          refine HP.take rfl rfl rfl rfl hS (fun wS hS1 => (by first | exact PV.indexAddr hpp20 rfl rfl T.sl22 | exact PV.indexAddr hpp20 rfl (by rw [← hzp20]; rfl) T.sl22)) ?_
          refine HP.take rfl rfl rfl rfl hS (fun wS hS1 => (by first | exact PV.load0 T.na2 rfl (by first | exact Cells.up (by assumption) (hBr.trans hS1) | exact Bx.cells (Bx.updD (by assumption) hS1 (Dj.nlR _)) | exact Cells.upd (by assumption) hS1 (by simp)) (Ext.refl _) rfl | exact PV.load1 T.na2 rfl (by first | exact Cells.up (by assumption) (hBr.trans hS1) | exact Bx.cells (Bx.updD (by assumption) hS1 (Dj.nlR _)) | exact Cells.upd (by assumption) hS1 (by simp)) (Ext.refl _) rfl)) ?_
          refine HP.take rfl rfl rfl rfl hS (fun wS hS1 => PV.move rfl) ?_
          refine HP.take rfl rfl rfl rfl hS (fun wS hS1 => PV.move rfl) ?_
          refine HP.take rfl rfl rfl rfl hS (fun wS hS1 => PV.move rfl) ?_
          refine HP.take rfl rfl rfl rfl hS (fun wS hS1 => PV.add rfl rfl (by constructor <;> omega)) ?_
          refine HP.take rfl rfl rfl rfl hS (fun wS hS1 => PV.mul rfl rfl (by constructor <;> omega)) ?_
          refine HP.take rfl rfl rfl rfl hS (fun wS hS1 => PV.move rfl) ?_
          refine HP.take rfl rfl rfl rfl hS (fun wS hS1 => PV.add rfl rfl (by constructor <;> omega)) ?_
          refine HP.take rfl rfl rfl rfl hS (fun wS hS1 => (by first | exact PV.fieldAddr T.fl56_0 rfl (by first | assumption | exact Bx.cells (by assumption)) | exact PV.fieldAddrP T.fl56_0 rfl rfl)) ?_
          refine HP.take rfl rfl rfl rfl hS (fun wS hS1 => (by first | exact PV.load0 T.na2 rfl (by first | exact Cells.up (by assumption) (hBr.trans hS1) | exact Bx.cells (Bx.updD (by assumption) hS1 (Dj.nlR _)) | exact Cells.upd (by assumption) hS1 (by simp)) (Ext.refl _) rfl | exact PV.load1 T.na2 rfl (by first | exact Cells.up (by assumption) (hBr.trans hS1) | exact Bx.cells (Bx.updD (by assumption) hS1 (Dj.nlR _)) | exact Cells.upd (by assumption) hS1 (by simp)) (Ext.refl _) rfl)) ?_
          refine HP.take rfl rfl rfl rfl hS (fun wS hS1 => PV.mul rfl rfl (by constructor <;> omega)) ?_
          refine HP.take rfl rfl rfl rfl hS (fun wS hS1 => (by first | exact PV.fieldAddr T.fl100_1 rfl (by first | assumption | exact Bx.cells (by assumption)) | exact PV.fieldAddrP T.fl100_1 rfl rfl)) ?_
          refine HP.take rfl rfl rfl rfl hS (fun wS hS1 => (by first | exact PV.load0 T.na2 rfl (by first | exact Cells.up (by assumption) (hBr.trans hS1) | exact Bx.cells (Bx.updD (by assumption) hS1 (Dj.nlR _)) | exact Cells.upd (by assumption) hS1 (by simp)) (Ext.refl _) rfl | exact PV.load1 T.na2 rfl (by first | exact Cells.up (by assumption) (hBr.trans hS1) | exact Bx.cells (Bx.updD (by assumption) hS1 (Dj.nlR _)) | exact Cells.upd (by assumption) hS1 (by simp)) (Ext.refl _) rfl)) ?_
          refine HP.take rfl rfl rfl rfl hS (fun wS hS1 => PV.add rfl rfl (by constructor <;> omega)) ?_
          first
            | refine HP.atO (wb := w14) (x := .tmp 109) (y := .tmp 121) (f := VI) (0) rfl rfl (by assumption) (by first | omega | (simp; omega) | (simp_all; omega)) (fun p21 hpp21 hcp21 => ?_)
            | refine HP.atOZ (wb := w14) (x := .tmp 109) (y := .tmp 121) (f := VI) (0) rfl rfl (by assumption) (by first | omega | (simp; omega) | (simp_all; omega)) (fun p21 hpp21 hzp21 hcp21 => ?_)
          refine HP.take rfl rfl rfl rfl hS (fun wS hS1 => (by first | exact PV.indexAddr hpp21 rfl rfl T.sl22 | exact PV.indexAddr hpp21 rfl (by rw [← hzp21]; rfl) T.sl22)) ?_
          refine HP.take rfl rfl rfl rfl hS (fun wS hS1 => (by first | exact PV.load0 T.na2 rfl (by first | exact Cells.up (by assumption) (hBr.trans hS1) | exact Bx.cells (Bx.updD (by assumption) hS1 (Dj.nlR _)) | exact Cells.upd (by assumption) hS1 (by simp)) (Ext.refl _) rfl | exact PV.load1 T.na2 rfl (by first | exact Cells.up (by assumption) (hBr.trans hS1) | exact Bx.cells (Bx.updD (by assumption) hS1 (Dj.nlR _)) | exact Cells.upd (by assumption) hS1 (by simp)) (Ext.refl _) rfl)) ?_
          refine HP.take rfl rfl rfl rfl hS (fun wS hS1 => PV.move rfl) ?_
          refine HP.take rfl rfl rfl rfl hS (fun wS hS1 => PV.move rfl) ?_
          refine HP.take rfl rfl rfl rfl hS (fun wS hS1 => PV.move rfl) ?_
          refine HP.take rfl rfl rfl rfl hS (fun wS hS1 => PV.add rfl rfl (by constructor <;> omega)) ?_
          refine HP.take rfl rfl rfl rfl hS (fun wS hS1 => PV.mul rfl rfl (by constructor <;> omega)) ?_
          refine HP.take rfl rfl rfl rfl hS (fun wS hS1 => PV.move rfl) ?_
          refine HP.take rfl rfl rfl rfl hS (fun wS hS1 => PV.add rfl rfl (by constructor <;> omega)) ?_
          refine HP.take rfl rfl rfl rfl hS (fun wS hS1 => PV.move rfl) ?_
          refine HP.take rfl rfl rfl rfl hS (fun wS hS1 => PV.add rfl rfl (by constructor <;> omega)) ?_
          refine HP.take rfl rfl rfl rfl hS (fun wS hS1 => (by first | exact PV.fieldAddr T.fl56_0 rfl (by first | assumption | exact Bx.cells (by assumption)) | exact PV.fieldAddrP T.fl56_0 rfl rfl)) ?_
          refine HP.take rfl rfl rfl rfl hS (fun wS hS1 => (by first | exact PV.load0 T.na2 rfl (by first | exact Cells.up (by assumption) (hBr.trans hS1) | exact Bx.cells (Bx.updD (by assumption) hS1 (Dj.nlR _)) | exact Cells.upd (by assumption) hS1 (by simp)) (Ext.refl _) rfl | exact PV.load1 T.na2 rfl (by first | exact Cells.up (by assumption) (hBr.trans hS1) | exact Bx.cells (Bx.updD (by assumption) hS1 (Dj.nlR _)) | exact Cells.upd (by assumption) hS1 (by simp)) (Ext.refl _) rfl)) ?_
          refine HP.take rfl rfl rfl rfl hS (fun wS hS1 => PV.mul rfl rfl (by constructor <;> omega)) ?_
          refine HP.take rfl rfl rfl rfl hS (fun wS hS1 => (by first | exact PV.fieldAddr T.fl100_2 rfl (by first | assumption | exact Bx.cells (by assumption)) | exact PV.fieldAddrP T.fl100_2 rfl rfl)) ?_
          refine HP.take rfl rfl rfl rfl hS (fun wS hS1 => (by first | exact PV.load0 T.na2 rfl (by first | exact Cells.up (by assumption) (hBr.trans hS1) | exact Bx.cells (Bx.updD (by assumption) hS1 (Dj.nlR _)) | exact Cells.upd (by assumption) hS1 (by simp)) (Ext.refl _) rfl | exact PV.load1 T.na2 rfl (by first | exact Cells.up (by assumption) (hBr.trans hS1) | exact Bx.cells (Bx.updD (by assumption) hS1 (Dj.nlR _)) | exact Cells.upd (by assumption) hS1 (by simp)) (Ext.refl _) rfl)) ?_
          refine HP.take rfl rfl rfl rfl hS (fun wS hS1 => PV.add rfl rfl (by constructor <;> omega)) ?_
          first
            | refine HP.atO (wb := w14) (x := .tmp 124) (y := .tmp 138) (f := VI) (0) rfl rfl (by assumption) (by first | omega | (simp; omega) | (simp_all; omega)) (fun p22 hpp22 hcp22 => ?_)
            | refine HP.atOZ (wb := w14) (x := .tmp 124) (y := .tmp 138) (f := VI) (0) rfl rfl (by assumption) (by first | omega | (simp; omega) | (simp_all; omega)) (fun p22 hpp22 hzp22 hcp22 => ?_)
          refine HP.take rfl rfl rfl rfl hS (fun wS hS1 => (by first | exact PV.indexAddr hpp22 rfl rfl T.sl22 | exact PV.indexAddr hpp22 rfl (by rw [← hzp22]; rfl) T.sl22)) ?_
          refine HP.take rfl rfl rfl rfl hS (fun wS hS1 => (by first | exact PV.load0 T.na2 rfl (by first | exact Cells.up (by assumption) (hBr.trans hS1) | exact Bx.cells (Bx.updD (by assumption) hS1 (Dj.nlR _)) | exact Cells.upd (by assumption) hS1 (by simp)) (Ext.refl _) rfl | exact PV.load1 T.na2 rfl (by first | exact Cells.up (by assumption) (hBr.trans hS1) | exact Bx.cells (Bx.updD (by assumption) hS1 (Dj.nlR _)) | exact Cells.upd (by assumption) hS1 (by simp)) (Ext.refl _) rfl)) ?_
          refine HP.take rfl rfl rfl rfl hS (fun wS hS1 => PV.mul rfl rfl (by constructor <;> omega)) ?_
          refine HP.take rfl rfl rfl rfl hS (fun wS hS1 => PV.add rfl rfl (by constructor <;> omega)) ?_
          first
            | refine HP.atO (wb := w14) (x := .tmp 102) (y := .tmp 106) (f := VI) (0) rfl rfl (by assumption) (by first | omega | (simp; omega) | (simp_all; omega)) (fun p23 hpp23 hcp23 => ?_)
            | refine HP.atOZ (wb := w14) (x := .tmp 102) (y := .tmp 106) (f := VI) (0) rfl rfl (by assumption) (by first | omega | (simp; omega) | (simp_all; omega)) (fun p23 hpp23 hzp23 hcp23 => ?_)
          refine HP.take rfl rfl rfl rfl hS (fun wS hS1 => (by first | exact PV.indexAddr hpp23 rfl rfl T.sl22 | exact PV.indexAddr hpp23 rfl (by rw [← hzp23]; rfl) T.sl22)) ?_
          refine HP.last rfl rfl (OpK.storeS VI T.sz2 rfl rfl rfl hpp23 ho2 (fun w15 hXw15 ho2 => ?_))
          have hB := hB.updL hXw15 hl2
          have hb1 := hb1.updD hXw15 hd1_2
          have hb6 := hb6.updD hXw15 (Dj.symm hd2_6)
          have hU0 := hU0.step hXw15 hk0_2
          have hU1 := hU1.step hXw15 hk1_2
          have hU2 := hU2.step hXw15 hk2_2
          have hU3 := hU3.step hXw15 hk3_2
          refine HP.doneS ?_
          refine CW.seq ?_
          refine CW.reg ?_
          refine WL.pure rfl rfl rfl (PV.move rfl) ?_
          refine WL.pure rfl rfl rfl (PV.move rfl) ?_
          refine WL.pure rfl rfl rfl ((by first | exact PV.fieldAddr T.fl100_0 rfl (by first | assumption | exact Bx.cells (by assumption)) | exact PV.fieldAddrP T.fl100_0 rfl rfl)) ?_
          refine WL.pure rfl rfl rfl ((by first | exact PV.load0 T.na2 rfl (by first | exact Cells.up (by assumption) hB | exact Bx.cells (by assumption) | assumption) (Ext.refl _) rfl | exact PV.load1 T.na2 rfl (by first | exact Cells.up (by assumption) hB | exact Bx.cells (by assumption) | assumption) (Ext.refl _) rfl)) ?_
          refine WL.pure rfl rfl rfl (PV.add rfl rfl (by constructor <;> omega)) ?_
          first
            | refine WL.atO (x := .tmp 144) (y := .tmp 148) (f := VI) (0) rfl rfl ho2 (by simp only [List.length_set]; omega) (fun p24 hpp24 hcp24 => ?_)
            | refine WL.atOZ (x := .tmp 144) (y := .tmp 148) (f := VI) (0) rfl rfl ho2 (by simp only [List.length_set]; omega) (fun p24 hpp24 hzp24 hcp24 => ?_)
          refine WL.pure rfl rfl rfl ((by first | exact PV.indexAddr hpp24 rfl rfl T.sl22 | exact PV.indexAddr hpp24 rfl (by rw [← hzp24]; rfl) T.sl22)) ?_
          refine WL.pure rfl rfl rfl ((by first | exact PV.load0 T.na2 rfl (by first | exact Cells.up (by assumption) hB | exact Bx.cells (by assumption) | assumption) (Ext.refl _) rfl | exact PV.load1 T.na2 rfl (by first | exact Cells.up (by assumption) hB | exact Bx.cells (by assumption) | assumption) (Ext.refl _) rfl)) ?_
          refine WL.pure rfl rfl rfl (PV.gtr rfl rfl) ?_
          refine WL.nilS ?_
          refine CW.cond rfl (fun hc19 => ?_) (fun hc19 => ?_)
          · skip
            try simp only [decide_eq_true_eq, decide_eq_false_iff_not, Bool.not_eq_true', Bool.not_eq_false', Bool.not_eq_eq_eq_not, Bool.not_true, Bool.not_false, Int.not_lt, Int.not_le, Classical.not_not, beq_iff_eq, beq_eq_false_iff_ne] at hc19
            have hno := hp.bad2 trivial hg (by omega) (by omega) (by omega) (by omega) (by omega) (by omega) (by rw [ec, ea, eb]; omega)
            refine CW.seq ?_
            refine CW.reg ?_
            refine WL.pure rfl rfl rfl (PV.assign rfl) ?_
            refine WL.pure rfl rfl rfl (PV.assign rfl) ?_
            refine WL.nilS ?_
            refine CW.ret ?_
            refine RQ.block ?_
            refine RQ.then ?_
            refine RQ.then ?_
            refine RQ.block ?_
            refine RQ.block ?_
            refine RQ.then ?_
            refine RQ.then ?_
            refine RQ.block ?_
            refine RQ.block ?_
            refine RQ.then ?_
            refine RQ.then ?_
            refine RQ.block ?_
            refine RQ.block ?_
            refine RQ.then ?_
            refine RQ.then ?_
            refine RQ.block ?_
            refine RQ.then ?_
            refine RQ.r2 rfl rfl ?_
            refine ⟨?_, hB⟩
            first | exact tE2 (iE (by rw [onI_no (by rw [← canT_n1 (by assumption)]; decide)])) (bE (canT_n1 (by assumption))) | exact tE2 (iE (by rw [onI_no (by rw [← canT_n2 hno]; decide)])) (bE (canT_n2 hno)) | (obtain rfl : L = xs.length + 1 := (by omega); have hyo := TDC.okT ht trivial; exact tE2 (iE (by rw [onI_yes (canT_y (by assumption) hyo).symm]; exact ht.topF trivial (by omega) (by omega))) (bE (canT_y (by assumption) hyo)))
          try simp only [decide_eq_true_eq, decide_eq_false_iff_not, Bool.not_eq_true', Bool.not_eq_false', Bool.not_eq_eq_eq_not, Bool.not_true, Bool.not_false, Int.not_lt, Int.not_le, Classical.not_not, beq_iff_eq, beq_eq_false_iff_ne] at hc19
          refine CW.skip ?_
          refine NQ.block ?_
          refine NQ.then ?_
          refine CW.reg ?_
          refine WL.pure rfl rfl rfl (PV.move rfl) ?_
          refine WL.pure rfl rfl rfl (PV.add rfl rfl (by constructor <;> omega)) ?_
          refine WL.pure rfl rfl rfl (PV.assign rfl) ?_
          refine WL.nil ?_
          refine NQ.next (ρ := [(13, _)]) ⟨rfl, rfl, rfl, rfl, rfl, rfl, rfl, rfl, rfl, rfl, trivial⟩ ?_
          exact ⟨_, ⟨M + 1, _, rfl, rfl, hU3, osE ho2 (by rfl), (by first | omega | assumption | (simp_all; done) | (simp_all; omega)), (by rw [← ec, ← ea, ← eb, zp2]; exact hp.step hg (by omega) (by omega) (by omega) (by omega) (by omega) (by assumption) (by omega) (by omega) (by rw [ec, ea, eb]; omega)), (by rw [← ec, ← ea, ← eb, zp2, cl_eq (by omega), ec, ea, eb]; omega)⟩, by omega⟩
        try simp only [decide_eq_true_eq, decide_eq_false_iff_not, Bool.not_eq_true', Bool.not_eq_false', Bool.not_eq_eq_eq_not, Bool.not_true, Bool.not_false, Int.not_lt, Int.not_le, Classical.not_not, beq_iff_eq, beq_eq_false_iff_ne] at hc18
        refine CW.exit ?_
        refine XQ.then ?_
        refine XQ.then ?_
        refine XQ.here ?_
        refine NQ.block ?_
        refine NQ.then ?_
        refine CW.reg ?_
        refine WL.pure rfl rfl rfl (PV.move rfl) ?_
        refine WL.pure rfl rfl rfl (PV.add rfl rfl (by constructor <;> omega)) ?_
        refine WL.pure rfl rfl rfl (PV.assign rfl) ?_
        refine WL.nil ?_
        refine NQ.next (ρ := [(11, _)]) ⟨rfl, rfl, rfl, rfl, rfl, rfl, rfl, rfl, trivial⟩ ?_
        exact ⟨_, ⟨K + 1, _, rfl, rfl, hU2, osE ho2 (by rfl), (by first | omega | assumption | (simp_all; done) | (simp_all; omega)), (by exact hp.close (by first | exact .inl (by omega) | exact .inr (by assumption)) (by omega) (fun _ => hs9))⟩, by omega⟩
      try simp only [decide_eq_true_eq, decide_eq_false_iff_not, Bool.not_eq_true', Bool.not_eq_false', Bool.not_eq_eq_eq_not, Bool.not_true, Bool.not_false, Int.not_lt, Int.not_le, Classical.not_not, beq_iff_eq, beq_eq_false_iff_ne] at hc4
      refine CW.exit ?_
      refine XQ.then ?_
      refine XQ.then ?_
      refine XQ.here ?_
      refine NQ.block ?_
      refine NQ.then ?_
      refine CW.reg ?_
      refine WL.pure rfl rfl rfl (PV.move rfl) ?_
      refine WL.pure rfl rfl rfl (PV.add rfl rfl (by constructor <;> omega)) ?_
      refine WL.pure rfl rfl rfl (PV.assign rfl) ?_
      refine WL.nil ?_
      refine NQ.next (ρ := [(9, _)]) ⟨rfl, rfl, rfl, rfl, rfl, rfl, trivial⟩ ?_
      exact ⟨_, ⟨f + 1, _, rfl, rfl, hU1, osE ho2 (by rfl), (by first | omega | assumption | (simp_all; done) | (simp_all; omega)), (by obtain rfl : K = xa2.length := (by omega); exact hp0.fin (by omega) (by omega))⟩, by omega⟩
    try simp only [decide_eq_true_eq, decide_eq_false_iff_not, Bool.not_eq_true', Bool.not_eq_false', Bool.not_eq_eq_eq_not, Bool.not_true, Bool.not_false, Int.not_lt, Int.not_le, Classical.not_not, beq_iff_eq, beq_eq_false_iff_ne] at hc3
    refine CW.exit ?_
    refine XQ.then ?_
    refine XQ.then ?_
    refine XQ.here ?_
    refine NQ.block ?_
    refine NQ.then ?_
    refine CW.reg ?_
    refine WL.pure rfl rfl rfl (PV.move rfl) ?_
    refine WL.pure rfl rfl rfl (PV.add rfl rfl (by constructor <;> omega)) ?_
    refine WL.pure rfl rfl rfl (PV.assign rfl) ?_
    refine WL.nil ?_
    refine NQ.next (ρ := [(8, _)]) ⟨rfl, rfl, rfl, rfl, rfl, trivial⟩ ?_
    exact ⟨_, ⟨L + 1, _, rfl, rfl, hU0, osE ho2 (by rfl), (by first | omega | assumption | (simp_all; done) | (simp_all; omega)), (by exact ht2.next (by omega))⟩, by omega⟩
  try simp only [decide_eq_true_eq, decide_eq_false_iff_not, Bool.not_eq_true', Bool.not_eq_false', Bool.not_eq_eq_eq_not, Bool.not_true, Bool.not_false, Int.not_lt, Int.not_le, Classical.not_not, beq_iff_eq, beq_eq_false_iff_ne] at hc2
  refine CW.exit ?_
  refine XQ.then ?_
  refine XQ.then ?_
  refine XQ.here ?_
  refine NQ.then ?_
  refine CW.seq ?_
  refine CW.reg ?_
  have htx := topIx (n := xs.length) (s := a0) (by omega) (by omega); have htx1 := htx.1; have htx2 := htx.2.1; have htx3 := htx.2.2.1; have htn9 := ht.n
  refine WL.pure rfl rfl rfl (PV.move rfl) ?_
  refine WL.pure rfl rfl rfl (PV.move rfl) ?_
  refine WL.pure rfl rfl rfl ((by first | exact PV.fieldAddr T.fl56_0 rfl (by first | assumption | exact Bx.cells (by assumption)) | exact PV.fieldAddrP T.fl56_0 rfl rfl)) ?_
  refine WL.pure rfl rfl rfl ((by first | exact PV.load0 T.na2 rfl (by first | exact Cells.up (by assumption) hB | exact Bx.cells (by assumption) | assumption) (Ext.refl _) rfl | exact PV.load1 T.na2 rfl (by first | exact Cells.up (by assumption) hB | exact Bx.cells (by assumption) | assumption) (Ext.refl _) rfl)) ?_
  refine WL.pure rfl rfl rfl (PV.mul rfl rfl (by constructor <;> omega)) ?_
  first
    | refine WL.atO (x := .tmp 152) (y := .tmp 156) (f := VI) (0) rfl rfl ho2 (by first | omega | (simp; omega) | (simp_all; omega)) (fun p25 hpp25 hcp25 => ?_)
    | refine WL.atOZ (x := .tmp 152) (y := .tmp 156) (f := VI) (0) rfl rfl ho2 (by first | omega | (simp; omega) | (simp_all; omega)) (fun p25 hpp25 hzp25 hcp25 => ?_)
  refine WL.pure rfl rfl rfl ((by first | exact PV.indexAddr hpp25 rfl rfl T.sl22 | exact PV.indexAddr hpp25 rfl (by rw [← hzp25]; rfl) T.sl22)) ?_
  refine WL.pure rfl rfl rfl ((by first | exact PV.load0 T.na2 rfl (by first | exact Cells.up (by assumption) hB | exact Bx.cells (by assumption) | assumption) (Ext.refl _) rfl | exact PV.load1 T.na2 rfl (by first | exact Cells.up (by assumption) hB | exact Bx.cells (by assumption) | assumption) (Ext.refl _) rfl)) ?_
  refine WL.pure rfl rfl rfl (PV.assign rfl) ?_
  refine WL.pure rfl rfl rfl (PV.assign rfl) ?_
  refine WL.nilS ?_
  refine CW.ret ?_
  refine RQ.r2 rfl rfl ?_
  refine ⟨?_, hB⟩
  first | exact tE2 (iE (by rw [onI_no (by rw [← canT_n1 (by assumption)]; decide)])) (bE (canT_n1 (by assumption))) | exact tE2 (iE (by rw [onI_no (by rw [← canT_n2 hno]; decide)])) (bE (canT_n2 hno)) | (obtain rfl : L = xs.length + 1 := (by omega); have hyo := TDC.okT ht trivial; exact tE2 (iE (by rw [onI_yes (canT_y (by assumption) hyo).symm]; exact ht.topF trivial (by omega) (by omega))) (bE (canT_y (by assumption) hyo)))
theorem c_impl_within {w : World} {n lo hi : Int} : Calls Try.prog 73 #[.int .i64 n, .int .i64 lo, .int .i64 hi] w (Ret1 (RQt (.bool (decide (lo ≤ n ∧ n ≤ hi))) w)) := by
  have hB : Ext w w := Ext.refl w
  refine callsOf (vs := [_, _, _]) Try.func73 rfl Try.ntmps73 rfl rfl ?_
  refine CW.seq ?_
  refine CW.reg ?_
  refine WL.pure rfl rfl rfl (PV.assign rfl) ?_
  refine WL.nilS ?_
  refine CW.seq ?_
  refine CW.reg ?_
  refine WL.pure rfl rfl rfl (PV.move rfl) ?_
  refine WL.pure rfl rfl rfl (PV.move rfl) ?_
  refine WL.pure rfl rfl rfl (PV.geq rfl rfl) ?_
  refine WL.pure rfl rfl rfl (PV.move rfl) ?_
  refine WL.split (t := 10) rfl (fun hc1 => ?_) (fun hc1 => ?_)
  rotate_left
  · skip
    try simp only [decide_eq_true_eq, decide_eq_false_iff_not, Bool.not_eq_true', Bool.not_eq_false', Bool.not_eq_eq_eq_not, Bool.not_true, Bool.not_false, Int.not_lt, Int.not_le, Classical.not_not, beq_iff_eq, beq_eq_false_iff_ne] at hc1
    refine WL.skip rfl rfl rfl rfl rfl ?_
    refine WL.skip rfl rfl rfl rfl rfl ?_
    refine WL.skip rfl rfl rfl rfl rfl ?_
    refine WL.pure rfl rfl rfl (PV.pickF rfl rfl) ?_
    refine WL.pure rfl rfl rfl (PV.assign rfl) ?_
    refine WL.nilS ?_
    refine CW.ret ?_
    refine RQ.r1 rfl ?_
    refine ⟨?_, hB⟩
    first | rfl | exact bT (by omega) | exact bF (by omega) | exact bD (by omega) | exact iE (by omega) | (simp_all; done) | (simp_all; omega) | (simp_all; intros; omega)
  try simp only [decide_eq_true_eq, decide_eq_false_iff_not, Bool.not_eq_true', Bool.not_eq_false', Bool.not_eq_eq_eq_not, Bool.not_true, Bool.not_false, Int.not_lt, Int.not_le, Classical.not_not, beq_iff_eq, beq_eq_false_iff_ne] at hc1
  refine WL.pureG rfl rfl rfl rfl rfl (PV.move rfl) ?_
  refine WL.pureG rfl rfl rfl rfl rfl (PV.move rfl) ?_
  refine WL.pureG rfl rfl rfl rfl rfl (PV.leq rfl rfl) ?_
  refine WL.pure rfl rfl rfl (PV.pickT rfl rfl) ?_
  refine WL.pure rfl rfl rfl (PV.assign rfl) ?_
  refine WL.nilS ?_
  refine CW.ret ?_
  refine RQ.r1 rfl ?_
  refine ⟨?_, hB⟩
  first | rfl | exact bT (by omega) | exact bF (by omega) | exact bD (by omega) | exact iE (by omega) | (simp_all; done) | (simp_all; omega) | (simp_all; intros; omega)

end Go.Proofs.Ytfnmkcncofjjkaa
