/- Walks of the functions that the law FnExactCheapWord reaches: each says what its function computes. No condition. -/
import Derived.Test.YtcnjfbhgicoogaaProg
import Derived.Test.YtcnjfbhgicoogaaLibM
import Derived.Test.YtcnjfbhgicoogaaPlA
import Derived.Test.YtcnjfbhgicoogaaPlG
import Derived.Test.YtcnjfbhgicoogaaPlC
import Derived.Test.YtcnjfbhgicoogaaPlR
import Derived.Test.YtcnjfbhgicoogaaPlW
namespace Go.Proofs.Ytcnjfbhgicoogaa.T
open Go Go.WX Go.Proofs

theorem sl22 : slOf Try.prog 22 = some (112, 4, 32) := by kernel_rfl
theorem fl24_2 : flOf Try.prog 24 2 = some (2, 22, 1) := by kernel_rfl
theorem na22 : naOf Try.prog 22 = true := by kernel_rfl
theorem cf52 : cfOf Try.prog 52 = true := by kernel_rfl
theorem zv67 : zvOf Try.prog 67 = some (.agg #[.int .i64 0, .int .i64 0, .int .i64 0, .int .i64 0]) := by kernel_rfl
theorem fl112_0 : flOf Try.prog 112 0 = some (0, 2, 1) := by kernel_rfl
theorem na2 : naOf Try.prog 2 = true := by kernel_rfl
theorem fl67_0 : flOf Try.prog 67 0 = some (0, 2, 1) := by kernel_rfl
theorem sz2 : szOf Try.prog 2 = some 1 := by kernel_rfl
theorem fl112_1 : flOf Try.prog 112 1 = some (1, 2, 1) := by kernel_rfl
theorem fl67_1 : flOf Try.prog 67 1 = some (1, 2, 1) := by kernel_rfl
theorem fl112_2 : flOf Try.prog 112 2 = some (2, 2, 1) := by kernel_rfl
theorem fl67_2 : flOf Try.prog 67 2 = some (2, 2, 1) := by kernel_rfl
theorem fl112_3 : flOf Try.prog 112 3 = some (3, 2, 1) := by kernel_rfl
theorem fl67_3 : flOf Try.prog 67 3 = some (3, 2, 1) := by kernel_rfl
theorem ag67 : agOf Try.prog 67 = some 4 := by kernel_rfl
theorem sz67 : szOf Try.prog 67 = some 4 := by kernel_rfl
theorem sl27 : slOf Try.prog 27 = some (67, 4, 32) := by kernel_rfl
theorem ag112 : agOf Try.prog 112 = some 4 := by kernel_rfl
theorem cf87 : cfOf Try.prog 87 = true := by kernel_rfl
theorem zv29 : zvOf Try.prog 29 = some (.agg #[.int .i64 0, .int .i64 0, .slice none 0 0]) := by kernel_rfl
theorem fl24_0 : flOf Try.prog 24 0 = some (0, 2, 1) := by kernel_rfl
theorem fl29_0 : flOf Try.prog 29 0 = some (0, 2, 1) := by kernel_rfl
theorem fl24_1 : flOf Try.prog 24 1 = some (1, 2, 1) := by kernel_rfl
theorem fl29_1 : flOf Try.prog 29 1 = some (1, 2, 1) := by kernel_rfl
theorem cf54 : cfOf Try.prog 54 = true := by kernel_rfl
theorem fl29_2 : flOf Try.prog 29 2 = some (2, 27, 1) := by kernel_rfl
theorem sz27 : szOf Try.prog 27 = some 1 := by kernel_rfl
theorem ag29 : agOf Try.prog 29 = some 3 := by kernel_rfl
theorem sz29 : szOf Try.prog 29 = some 3 := by kernel_rfl
theorem cf89 : cfOf Try.prog 89 = true := by kernel_rfl
theorem na27 : naOf Try.prog 27 = true := by kernel_rfl
theorem mixed : Try.prog.follows .mixedOrders = true := by kernel_rfl
theorem sl38 : slOf Try.prog 38 = some (2, 1, 8) := by kernel_rfl
theorem zv2 : zvOf Try.prog 2 = some (.int .i64 0) := by kernel_rfl
theorem cf99 : cfOf Try.prog 99 = true := by kernel_rfl
theorem cf84 : cfOf Try.prog 84 = true := by kernel_rfl
theorem cf57 : cfOf Try.prog 57 = true := by kernel_rfl
theorem cf82 : cfOf Try.prog 82 = true := by kernel_rfl
theorem cf58 : cfOf Try.prog 58 = true := by kernel_rfl
theorem cf104 : cfOf Try.prog 104 = true := by kernel_rfl
theorem us3 : (Try.prog.underlying 3).isSome = true := by kernel_rfl
theorem ik82 : ikOf Try.prog 82 = some .u64 := by kernel_rfl
theorem cf102 : cfOf Try.prog 102 = true := by kernel_rfl
theorem us82 : (Try.prog.underlying 82).isSome = true := by kernel_rfl
theorem ik3 : ikOf Try.prog 3 = some .i64 := by kernel_rfl
theorem cf101 : cfOf Try.prog 101 = true := by kernel_rfl
theorem cf100 : cfOf Try.prog 100 = true := by kernel_rfl
theorem cf85 : cfOf Try.prog 85 = true := by kernel_rfl
theorem cf21 : cfOf Try.prog 21 = true := by kernel_rfl
theorem cf83 : cfOf Try.prog 83 = true := by kernel_rfl
theorem cf88 : cfOf Try.prog 88 = true := by kernel_rfl
theorem cf56 : cfOf Try.prog 56 = true := by kernel_rfl
theorem cf59 : cfOf Try.prog 59 = true := by kernel_rfl
theorem ag24 : agOf Try.prog 24 = some 3 := by kernel_rfl
theorem cf15 : cfOf Try.prog 15 = true := by kernel_rfl
theorem cf17 : cfOf Try.prog 17 = true := by kernel_rfl
theorem cf48 : cfOf Try.prog 48 = true := by kernel_rfl
theorem cf49 : cfOf Try.prog 49 = true := by kernel_rfl
theorem cf37 : cfOf Try.prog 37 = true := by kernel_rfl
theorem bl4 : blOf Try.prog 4 = true := by kernel_rfl
theorem cf19 : cfOf Try.prog 19 = true := by kernel_rfl
theorem cf24 : cfOf Try.prog 24 = true := by kernel_rfl
theorem cf38 : cfOf Try.prog 38 = true := by kernel_rfl
theorem cf39 : cfOf Try.prog 39 = true := by kernel_rfl

end Go.Proofs.Ytcnjfbhgicoogaa.T
namespace Go.Proofs.Ytcnjfbhgicoogaa
open Go Go.WX Go.Proofs
set_option linter.unusedSimpArgs false
set_option linter.unusedVariables false

theorem c_laws_szRuleS {w : World} {va : Value} {xs : List R4} {left : Int} (ha : Rd ER w va xs) (hlf : left ≤ 1048576 ∧ -1 ≤ left) : Calls Try.prog 52 #[va, .int .i64 left] w (Ret1 (RQt (.int .i64 (max (-1) (left - xs.length))) w)) := by
  have hB : Ext w w := Ext.refl w
  have hla := ha.leI
  refine callsOf (vs := [_, _]) Try.func52 rfl Try.ntmps52 rfl rfl ?_
  refine CW.seq ?_
  refine CW.reg ?_
  refine WL.pure rfl rfl rfl (PV.assign rfl) ?_
  refine WL.nilS ?_
  refine CW.seq ?_
  refine CW.reg ?_
  refine WL.pure rfl rfl rfl (PV.move rfl) ?_
  refine WL.pure rfl rfl rfl (PV.move rfl) ?_
  refine WL.pure rfl rfl rfl ((by first | exact PV.len rfl (by assumption) T.sl22 | exact PV.lenOs rfl (by assumption) T.sl22 | exact PV.len rfl (NL.rd (by assumption)) T.sl22)) ?_
  refine WL.pure rfl rfl rfl (PV.sub rfl rfl (by constructor <;> omega)) ?_
  refine WL.pure rfl rfl rfl (PV.assign rfl) ?_
  refine WL.nilS ?_
  refine CW.seq ?_
  refine CW.seq ?_
  refine CW.reg ?_
  refine WL.pure rfl rfl rfl (PV.move rfl) ?_
  refine WL.pure rfl rfl rfl (PV.lss rfl rfl) ?_
  refine WL.nilS ?_
  refine CW.cond rfl (fun hc1 => ?_) (fun hc1 => ?_)
  · skip
    try simp only [decide_eq_true_eq, decide_eq_false_iff_not, Bool.not_eq_true', Bool.not_eq_false', Bool.not_eq_eq_eq_not, Bool.not_true, Bool.not_false, Int.not_lt, Int.not_le, Classical.not_not, beq_iff_eq, beq_eq_false_iff_ne] at hc1
    refine CW.seq ?_
    refine CW.reg ?_
    refine WL.pure rfl rfl rfl (PV.assign rfl) ?_
    refine WL.nilS ?_
    refine CW.ret ?_
    refine RQ.then ?_
    refine RQ.r1 rfl ?_
    refine ⟨?_, hB⟩
    exact iE (by omega)
  try simp only [decide_eq_true_eq, decide_eq_false_iff_not, Bool.not_eq_true', Bool.not_eq_false', Bool.not_eq_eq_eq_not, Bool.not_true, Bool.not_false, Int.not_lt, Int.not_le, Classical.not_not, beq_iff_eq, beq_eq_false_iff_ne] at hc1
  refine CW.skipS ?_
  refine CW.seq ?_
  refine CW.reg ?_
  refine WL.pure rfl rfl rfl (PV.move rfl) ?_
  refine WL.pure rfl rfl rfl (PV.assign rfl) ?_
  refine WL.nilS ?_
  refine CW.ret ?_
  refine RQ.r1 rfl ?_
  refine ⟨?_, hB⟩
  exact iE (by omega)
theorem c_laws_szGrammar {w : World} {a0 : Int} {a1 : Int} {va2 : Value} {xa2 : List R4} {left : Int} (ha2 : Rd ER w va2 xa2) (hlf : left ≤ 1048576 ∧ -1 ≤ left) : Calls Try.prog 15 #[.agg #[.int .i64 a0, .int .i64 a1, va2], .int .i64 left] w (Ret1 (RQt (.int .i64 (max (-1) (left - (xa2.length)))) w)) := by
  have hB : Ext w w := Ext.refl w
  have hla2 := ha2.leI
  refine callsOf (vs := [_, _]) Try.func15 rfl Try.ntmps15 rfl rfl ?_
  refine CW.seq ?_
  refine CW.reg ?_
  refine WL.op rfl (OpK.box rfl rfl (by first | rfl | exact Rd.cells1 (by assumption) | exact Rd.cells1 (NL.rd (by assumption)) | exact Osl.cells1 (by assumption) | exact Osn.cells1 (by assumption)) (fun b1 w1 hXw1 hb1 hge1 => ?_))
  have hl1 := Lo.new hB hge1
  have hB := hB.trans hXw1
  refine WL.pure rfl rfl rfl (PV.assign rfl) ?_
  refine WL.nilS ?_
  refine CW.seq ?_
  refine CW.reg ?_
  refine WL.pure rfl rfl rfl ((by first | exact PV.fieldAddr T.fl24_2 rfl (by first | assumption | exact Bx.cells (by assumption)) | exact PV.fieldAddrP T.fl24_2 rfl rfl)) ?_
  refine WL.pure rfl rfl rfl ((by first | exact PV.load0 T.na22 rfl (by first | exact Cells.up (by assumption) hB | exact Bx.cells (by assumption) | assumption) (Ext.refl _) rfl | exact PV.load1 T.na22 rfl (by first | exact Cells.up (by assumption) hB | exact Bx.cells (by assumption) | assumption) (Ext.refl _) rfl)) ?_
  refine WL.pure rfl rfl rfl (PV.move rfl) ?_
  refine WL.op rfl (OpK.callR rfl T.cf52 rfl (c_laws_szRuleS (by first | assumption | exact Rd.up (by assumption) hB | exact Osl.rd (by assumption) | exact Osn.rdR (by assumption) | exact NL.rd (by assumption)) (by first | assumption | omega | (simp only [marks_len, marksB_len, marksR_len]; omega))) (fun w2 hXw2 => ?_))
  have hB := hB.trans hXw2
  have hb1 := hb1.up hXw2
  refine WL.pure rfl rfl rfl (PV.assign rfl) ?_
  refine WL.nilS ?_
  refine CW.seq ?_
  refine CW.seq ?_
  refine CW.reg ?_
  refine WL.pure rfl rfl rfl (PV.move rfl) ?_
  refine WL.pure rfl rfl rfl (PV.lss rfl rfl) ?_
  refine WL.nilS ?_
  refine CW.cond rfl (fun hc1 => ?_) (fun hc1 => ?_)
  · skip
    try simp only [decide_eq_true_eq, decide_eq_false_iff_not, Bool.not_eq_true', Bool.not_eq_false', Bool.not_eq_eq_eq_not, Bool.not_true, Bool.not_false, Int.not_lt, Int.not_le, Classical.not_not, beq_iff_eq, beq_eq_false_iff_ne] at hc1
    refine CW.seq ?_
    refine CW.reg ?_
    refine WL.pure rfl rfl rfl (PV.assign rfl) ?_
    refine WL.nilS ?_
    refine CW.ret ?_
    refine RQ.then ?_
    refine RQ.r1 rfl ?_
    refine ⟨?_, hB⟩
    exact iE (by omega)
  try simp only [decide_eq_true_eq, decide_eq_false_iff_not, Bool.not_eq_true', Bool.not_eq_false', Bool.not_eq_eq_eq_not, Bool.not_true, Bool.not_false, Int.not_lt, Int.not_le, Classical.not_not, beq_iff_eq, beq_eq_false_iff_ne] at hc1
  refine CW.skipS ?_
  refine CW.seq ?_
  refine CW.reg ?_
  refine WL.pure rfl rfl rfl (PV.move rfl) ?_
  refine WL.pure rfl rfl rfl (PV.assign rfl) ?_
  refine WL.nilS ?_
  refine CW.ret ?_
  refine RQ.r1 rfl ?_
  refine ⟨?_, hB⟩
  exact iE (by omega)
theorem c_laws_toRule {w : World} {a0 a1 a2 a3 : Int} : Calls Try.prog 87 #[.agg #[.int .i64 a0, .int .i64 a1, .int .i64 a2, .int .i64 a3]] w (Ret1 (RQt (.agg #[.int .i64 a0, .int .i64 a1, .int .i64 a2, .int .i64 a3]) w)) := by
  have hB : Ext w w := Ext.refl w
  refine callsOf (vs := [_]) Try.func87 rfl Try.ntmps87 rfl rfl ?_
  refine CW.seq ?_
  refine CW.reg ?_
  refine WL.op rfl (OpK.box rfl rfl (by first | rfl | exact Rd.cells1 (by assumption) | exact Rd.cells1 (NL.rd (by assumption)) | exact Osl.cells1 (by assumption) | exact Osn.cells1 (by assumption)) (fun b1 w1 hXw1 hb1 hge1 => ?_))
  have hl1 := Lo.new hB hge1
  have hB := hB.trans hXw1
  refine WL.op rfl (OpK.alloc rfl T.zv67 rfl (fun b2 w2 hXw2 hb2 hge2 => ?_))
  have hl2 := Lo.new hB hge2
  have hd1_2 := Dj.new hb1.ltO hge2
  have hB := hB.trans hXw2
  have hb1 := hb1.up hXw2
  refine WL.nilS ?_
  refine CW.seq ?_
  refine CW.reg ?_
  refine WL.op rfl (OpK.alloc rfl T.zv67 rfl (fun b3 w3 hXw3 hb3 hge3 => ?_))
  have hl3 := Lo.new hB hge3
  have hd1_3 := Dj.new hb1.ltO hge3
  have hd2_3 := Dj.new hb2.ltO hge3
  have hB := hB.trans hXw3
  have hb1 := hb1.up hXw3
  have hb2 := hb2.up hXw3
  refine WL.nilS ?_
  refine CW.seq ?_
  refine CW.reg ?_
  refine WL.pure rfl rfl rfl ((by first | exact PV.fieldAddr T.fl112_0 rfl (by first | assumption | exact Bx.cells (by assumption)) | exact PV.fieldAddrP T.fl112_0 rfl rfl)) ?_
  refine WL.pure rfl rfl rfl ((by first | exact PV.load0 T.na2 rfl (by first | exact Cells.up (by assumption) hB | exact Bx.cells (by assumption) | assumption) (Ext.refl _) rfl | exact PV.load1 T.na2 rfl (by first | exact Cells.up (by assumption) hB | exact Bx.cells (by assumption) | assumption) (Ext.refl _) rfl)) ?_
  refine WL.pure rfl rfl rfl ((by first | exact PV.fieldAddr T.fl67_0 rfl (by first | assumption | exact Bx.cells (by assumption)) | exact PV.fieldAddrP T.fl67_0 rfl rfl)) ?_
  first
    | refine WL.op rfl (OpK.storeB T.sz2 rfl rfl (by first | rfl | exact Osl.oneCell (by assumption) | exact Osn.oneCell (by assumption) | exact Rd.oneCell (by assumption) | exact Rd.oneCell (NL.rd (by assumption)) | assumption) hb3 rfl (fun w4 hXw4 hb3 => ?_))
    | refine WL.op rfl (OpK.storeB0 T.sz2 rfl rfl (by first | rfl | exact Osl.oneCell (by assumption) | exact Osn.oneCell (by assumption) | exact Rd.oneCell (by assumption) | exact Rd.oneCell (NL.rd (by assumption)) | assumption) hb3 (fun w4 hXw4 hb3 => ?_))
  have hB := hB.updL hXw4 hl3
  have hb1 := hb1.updD hXw4 hd1_3
  have hb2 := hb2.updD hXw4 hd2_3
  refine WL.nilS ?_
  refine CW.seq ?_
  refine CW.reg ?_
  refine WL.pure rfl rfl rfl ((by first | exact PV.fieldAddr T.fl112_1 rfl (by first | assumption | exact Bx.cells (by assumption)) | exact PV.fieldAddrP T.fl112_1 rfl rfl)) ?_
  refine WL.pure rfl rfl rfl ((by first | exact PV.load0 T.na2 rfl (by first | exact Cells.up (by assumption) hB | exact Bx.cells (by assumption) | assumption) (Ext.refl _) rfl | exact PV.load1 T.na2 rfl (by first | exact Cells.up (by assumption) hB | exact Bx.cells (by assumption) | assumption) (Ext.refl _) rfl)) ?_
  refine WL.pure rfl rfl rfl ((by first | exact PV.fieldAddr T.fl67_1 rfl (by first | assumption | exact Bx.cells (by assumption)) | exact PV.fieldAddrP T.fl67_1 rfl rfl)) ?_
  first
    | refine WL.op rfl (OpK.storeB T.sz2 rfl rfl (by first | rfl | exact Osl.oneCell (by assumption) | exact Osn.oneCell (by assumption) | exact Rd.oneCell (by assumption) | exact Rd.oneCell (NL.rd (by assumption)) | assumption) hb3 rfl (fun w5 hXw5 hb3 => ?_))
    | refine WL.op rfl (OpK.storeB0 T.sz2 rfl rfl (by first | rfl | exact Osl.oneCell (by assumption) | exact Osn.oneCell (by assumption) | exact Rd.oneCell (by assumption) | exact Rd.oneCell (NL.rd (by assumption)) | assumption) hb3 (fun w5 hXw5 hb3 => ?_))
  have hB := hB.updL hXw5 hl3
  have hb1 := hb1.updD hXw5 hd1_3
  have hb2 := hb2.updD hXw5 hd2_3
  refine WL.nilS ?_
  refine CW.seq ?_
  refine CW.reg ?_
  refine WL.pure rfl rfl rfl ((by first | exact PV.fieldAddr T.fl112_2 rfl (by first | assumption | exact Bx.cells (by assumption)) | exact PV.fieldAddrP T.fl112_2 rfl rfl)) ?_
  refine WL.pure rfl rfl rfl ((by first | exact PV.load0 T.na2 rfl (by first | exact Cells.up (by assumption) hB | exact Bx.cells (by assumption) | assumption) (Ext.refl _) rfl | exact PV.load1 T.na2 rfl (by first | exact Cells.up (by assumption) hB | exact Bx.cells (by assumption) | assumption) (Ext.refl _) rfl)) ?_
  refine WL.pure rfl rfl rfl ((by first | exact PV.fieldAddr T.fl67_2 rfl (by first | assumption | exact Bx.cells (by assumption)) | exact PV.fieldAddrP T.fl67_2 rfl rfl)) ?_
  first
    | refine WL.op rfl (OpK.storeB T.sz2 rfl rfl (by first | rfl | exact Osl.oneCell (by assumption) | exact Osn.oneCell (by assumption) | exact Rd.oneCell (by assumption) | exact Rd.oneCell (NL.rd (by assumption)) | assumption) hb3 rfl (fun w6 hXw6 hb3 => ?_))
    | refine WL.op rfl (OpK.storeB0 T.sz2 rfl rfl (by first | rfl | exact Osl.oneCell (by assumption) | exact Osn.oneCell (by assumption) | exact Rd.oneCell (by assumption) | exact Rd.oneCell (NL.rd (by assumption)) | assumption) hb3 (fun w6 hXw6 hb3 => ?_))
  have hB := hB.updL hXw6 hl3
  have hb1 := hb1.updD hXw6 hd1_3
  have hb2 := hb2.updD hXw6 hd2_3
  refine WL.nilS ?_
  refine CW.seq ?_
  refine CW.reg ?_
  refine WL.pure rfl rfl rfl ((by first | exact PV.fieldAddr T.fl112_3 rfl (by first | assumption | exact Bx.cells (by assumption)) | exact PV.fieldAddrP T.fl112_3 rfl rfl)) ?_
  refine WL.pure rfl rfl rfl ((by first | exact PV.load0 T.na2 rfl (by first | exact Cells.up (by assumption) hB | exact Bx.cells (by assumption) | assumption) (Ext.refl _) rfl | exact PV.load1 T.na2 rfl (by first | exact Cells.up (by assumption) hB | exact Bx.cells (by assumption) | assumption) (Ext.refl _) rfl)) ?_
  refine WL.pure rfl rfl rfl ((by first | exact PV.fieldAddr T.fl67_3 rfl (by first | assumption | exact Bx.cells (by assumption)) | exact PV.fieldAddrP T.fl67_3 rfl rfl)) ?_
  first
    | refine WL.op rfl (OpK.storeB T.sz2 rfl rfl (by first | rfl | exact Osl.oneCell (by assumption) | exact Osn.oneCell (by assumption) | exact Rd.oneCell (by assumption) | exact Rd.oneCell (NL.rd (by assumption)) | assumption) hb3 rfl (fun w7 hXw7 hb3 => ?_))
    | refine WL.op rfl (OpK.storeB0 T.sz2 rfl rfl (by first | rfl | exact Osl.oneCell (by assumption) | exact Osn.oneCell (by assumption) | exact Rd.oneCell (by assumption) | exact Rd.oneCell (NL.rd (by assumption)) | assumption) hb3 (fun w7 hXw7 hb3 => ?_))
  have hB := hB.updL hXw7 hl3
  have hb1 := hb1.updD hXw7 hd1_3
  have hb2 := hb2.updD hXw7 hd2_3
  refine WL.nilS ?_
  refine CW.seq ?_
  refine CW.reg ?_
  refine WL.pure rfl rfl rfl ((by first | exact PV.loadA T.ag67 rfl (by first | exact Cells.up (by assumption) hB | exact Bx.cells (by assumption) | assumption) (Ext.refl _) rfl | exact PV.loadP (ds := [_, _, _, _]) T.ag67 rfl (by first | exact Cells.up (by assumption) hB | exact Bx.cells (by assumption) | assumption) (Ext.refl _) rfl rfl)) ?_
  refine WL.op rfl (OpK.storeA T.sz67 rfl rfl rfl rfl (by simp [Value.oneCell'] <;> first | done | (repeat' apply And.intro) <;> first | rfl | exact Osl.oneCell (by assumption) | exact Osn.oneCell (by assumption) | exact Rd.oneCell (by assumption) | exact Rd.oneCell (NL.rd (by assumption)) | assumption) hb2 (fun w8 hXw8 hb2 => ?_))
  have hB := hB.updL hXw8 hl2
  have hb1 := hb1.updD hXw8 hd1_2
  have hb3 := hb3.updD hXw8 (Dj.symm hd2_3)
  refine WL.nilS ?_
  refine CW.ret ?_
  refine RQ.rc0 T.ag67 rfl (by first | exact Cells.up (by assumption) hB | exact Bx.cells (by assumption) | assumption) rfl ?_
  refine ⟨?_, hB⟩
  rfl
theorem c_laws_toRuleS {w : World} {va : Value} {xs : List R4} (ha : Rd ER w va xs) (hN : xs.length ≤ 1048576) : Calls Try.prog 54 #[va] w (Ret1 (fun v w' => Ext w w' ∧ ∃ v1 og_v1, v = v1 ∧ Osn 4 gR w' og_v1 v1 (xs) ∧ Lo w og_v1)) := by
  have hB : Ext w w := Ext.refl w
  have hla := ha.leI
  refine callsOf (vs := [_]) Try.func54 rfl Try.ntmps54 rfl rfl ?_
  refine CW.seq ?_
  refine CW.reg ?_
  refine WL.pure rfl rfl rfl (PV.assign rfl) ?_
  refine WL.nilS ?_
  refine CW.seq ?_
  refine CW.reg ?_
  refine WL.pure rfl rfl rfl (PV.move rfl) ?_
  refine WL.pure rfl rfl rfl ((by first | exact PV.len rfl (by assumption) T.sl22 | exact PV.lenOs rfl (by assumption) T.sl22 | exact PV.len rfl (NL.rd (by assumption)) T.sl22)) ?_
  refine WL.op rfl (OpK.makeN gR ((0, 0, 0, 0)) gR_ok rfl T.sl27 T.zv67 rfl rfl rfl (by constructor <;> omega) (fun v1 g1 w1 hXw1 ho1 hge1 => ?_))
  have hl1 := Lo.new hB hge1
  have hB := hB.trans hXw1
  refine WL.pure rfl rfl rfl (PV.assign rfl) ?_
  refine WL.nilS ?_
  refine CW.seq ?_
  refine CW.seq ?_
  refine CW.reg ?_
  refine WL.pure rfl rfl rfl (PV.assign rfl) ?_
  refine WL.nilS ?_
  refine CW.block ?_
  have hlt1 := ho1.ltO
  refine CW.loop (σk := [(0, _), (3, _)]) (fun ρ wz m => ∃ (k : Nat), ρ = [(4, .int .i64 (k : Nat))] ∧ m = xs.length - k ∧ UpdL [(some g1)] w1 wz ∧ Osn 4 gR wz (some g1) v1 (xs.take k ++ List.replicate (xs.length - k) ((0, 0, 0, 0) : R4)) ∧ (k ≤ xs.length)) (ρ₀ := [(4, _)]) (m₀ := _) ⟨rfl, rfl, rfl, trivial⟩ ⟨0, rfl, rfl, (UpdL.refl _ _), osnE ho1 (by first | rfl | (simp_all; done) | (simp_all; omega)), (by first | omega | rfl | (simp; done) | assumption | (simp_all; done))⟩ ?_
  rintro _ wl1 _ ⟨k, rfl, rfl, hU0, ho1, hk⟩
  have hk0_1 : OkB [(some g1)] w1 (some g1) := OkB.mem (by simp)
  have hB := hB.loop hU0 ⟨hl1, trivial⟩
  have hll : (xs.take k ++ List.replicate (xs.length - k) ((0, 0, 0, 0) : R4)).length = xs.length := (by simp; omega)
  refine CW.seq ?_
  refine CW.seq ?_
  refine CW.reg ?_
  refine WL.pure rfl rfl rfl (PV.move rfl) ?_
  refine WL.pure rfl rfl rfl (PV.move rfl) ?_
  refine WL.pure rfl rfl rfl ((by first | exact PV.len rfl (by assumption) T.sl22 | exact PV.lenOs rfl (by assumption) T.sl22 | exact PV.len rfl (NL.rd (by assumption)) T.sl22)) ?_
  refine WL.pure rfl rfl rfl (PV.lss rfl rfl) ?_
  refine WL.nilS ?_
  refine CW.cond rfl (fun hc1 => ?_) (fun hc1 => ?_)
  · skip
    try simp only [decide_eq_true_eq, decide_eq_false_iff_not, Bool.not_eq_true', Bool.not_eq_false', Bool.not_eq_eq_eq_not, Bool.not_true, Bool.not_false, Int.not_lt, Int.not_le, Classical.not_not, beq_iff_eq, beq_eq_false_iff_ne] at hc1
    refine CW.skipS ?_
    refine CW.seq ?_
    refine CW.block ?_
    refine CW.reg ?_
    refine WL.pure rfl rfl rfl (PV.move rfl) ?_
    refine WL.pure rfl rfl rfl (PV.move rfl) ?_
    refine WL.pure rfl rfl rfl (PV.move rfl) ?_
    refine WL.pure rfl rfl rfl (PV.move rfl) ?_
    first
      | refine WL.at (x := .tmp 16) (y := .tmp 17) (E := ER) ((0, 0, 0, 0)) rfl rfl (by assumption) (by first | omega | (simp; omega) | (simp_all; omega)) (fun p1 csp1 hpp1 hcp1 hq => ?_)
      | refine WL.atZ (x := .tmp 16) (y := .tmp 17) (E := ER) ((0, 0, 0, 0)) rfl rfl (by assumption) (by first | omega | (simp; omega) | (simp_all; omega)) (fun p1 csp1 hpp1 hzp1 hcp1 hq => ?_)
    cases hq
    refine WL.pure rfl rfl rfl ((by first | exact PV.indexAddr hpp1 rfl rfl T.sl22 | exact PV.indexAddr hpp1 rfl (by rw [← hzp1]; rfl) T.sl22)) ?_
    refine WL.pure rfl rfl rfl ((by first | exact PV.loadA T.ag112 rfl (by first | exact Cells.up (by assumption) hB | exact Bx.cells (by assumption) | assumption) (Ext.refl _) rfl | exact PV.loadP (ds := [_, _, _, _]) T.ag112 rfl (by first | exact Cells.up (by assumption) hB | exact Bx.cells (by assumption) | assumption) (Ext.refl _) rfl rfl)) ?_
    refine WL.op rfl (OpK.callR rfl T.cf87 rfl (c_laws_toRule) (fun w2 hXw2 => ?_))
    have hB := hB.trans hXw2
    have ho1 := ho1.up hXw2
    have hU0 := hU0.ext hXw2
    have hrdp2 := ho1.rdR
    first
      | refine WL.at (x := .tmp 14) (y := .tmp 15) (E := ER) ((0, 0, 0, 0)) rfl rfl hrdp2 (by first | omega | (simp; omega) | (simp_all; omega)) (fun p2 csp2 hpp2 hcp2 hq => ?_)
      | refine WL.atZ (x := .tmp 14) (y := .tmp 15) (E := ER) ((0, 0, 0, 0)) rfl rfl hrdp2 (by first | omega | (simp; omega) | (simp_all; omega)) (fun p2 csp2 hpp2 hzp2 hcp2 hq => ?_)
    cases hq
    refine WL.pure rfl rfl rfl ((by first | exact PV.indexAddr hpp2 rfl rfl T.sl27 | exact PV.indexAddr hpp2 rfl (by rw [← hzp2]; rfl) T.sl27)) ?_
    refine WL.op rfl (OpK.storeN (g := gR) _ T.sz67 rfl rfl hpp2 ho1 (fun w3 hXw3 ho1 => ?_))
    have hB := hB.updL hXw3 hl1
    have hU0 := hU0.step hXw3 hk0_1
    refine WL.nil ?_
    refine NQ.block ?_
    refine NQ.then ?_
    refine CW.reg ?_
    refine WL.pure rfl rfl rfl (PV.move rfl) ?_
    refine WL.pure rfl rfl rfl (PV.add rfl rfl (by constructor <;> omega)) ?_
    refine WL.pure rfl rfl rfl (PV.assign rfl) ?_
    refine WL.nil ?_
    refine NQ.next (ρ := [(4, _)]) ⟨rfl, rfl, rfl, trivial⟩ ?_
    exact ⟨_, ⟨k + 1, rfl, rfl, hU0, osnE ho1 (by exact set_fill (by omega) _ _), (by first | omega | assumption | (simp_all; done) | (simp_all; omega))⟩, by omega⟩
  try simp only [decide_eq_true_eq, decide_eq_false_iff_not, Bool.not_eq_true', Bool.not_eq_false', Bool.not_eq_eq_eq_not, Bool.not_true, Bool.not_false, Int.not_lt, Int.not_le, Classical.not_not, beq_iff_eq, beq_eq_false_iff_ne] at hc1
  refine CW.exit ?_
  refine XQ.then ?_
  refine XQ.then ?_
  refine XQ.here ?_
  refine NQ.then ?_
  refine CW.seq ?_
  refine CW.reg ?_
  refine WL.pure rfl rfl rfl (PV.move rfl) ?_
  refine WL.pure rfl rfl rfl (PV.assign rfl) ?_
  refine WL.nilS ?_
  refine CW.ret ?_
  refine RQ.r1 rfl ?_
  refine ⟨hB, v1, (some g1), ?_, osnE ho1 ?_, hl1⟩
  · skip
    rfl
  · skip
    exact fill_done (by omega) _
theorem c_laws_toGrammar {w : World} {a0 : Int} {a1 : Int} {va2 : Value} {xa2 : List R4}  (ha2 : Rd ER w va2 xa2) (hNa2 : xa2.length ≤ 1048576) : Calls Try.prog 17 #[.agg #[.int .i64 a0, .int .i64 a1, va2]] w (Ret1 (fun v w' => Ext w w' ∧ ∃ u2 og_u2, v = .agg #[.int .i64 a0, .int .i64 a1, u2] ∧ Osn 4 gR w' og_u2 u2 (xa2) ∧ Lo w og_u2)) := by
  have hB : Ext w w := Ext.refl w
  have hla2 := ha2.leI
  refine callsOf (vs := [_]) Try.func17 rfl Try.ntmps17 rfl rfl ?_
  refine CW.seq ?_
  refine CW.reg ?_
  refine WL.op rfl (OpK.box rfl rfl (by first | rfl | exact Rd.cells1 (by assumption) | exact Rd.cells1 (NL.rd (by assumption)) | exact Osl.cells1 (by assumption) | exact Osn.cells1 (by assumption)) (fun b1 w1 hXw1 hb1 hge1 => ?_))
  have hl1 := Lo.new hB hge1
  have hB := hB.trans hXw1
  refine WL.op rfl (OpK.alloc rfl T.zv29 rfl (fun b2 w2 hXw2 hb2 hge2 => ?_))
  have hl2 := Lo.new hB hge2
  have hd1_2 := Dj.new hb1.ltO hge2
  have hB := hB.trans hXw2
  have hb1 := hb1.up hXw2
  refine WL.nilS ?_
  refine CW.seq ?_
  refine CW.reg ?_
  refine WL.op rfl (OpK.alloc rfl T.zv29 rfl (fun b3 w3 hXw3 hb3 hge3 => ?_))
  have hl3 := Lo.new hB hge3
  have hd1_3 := Dj.new hb1.ltO hge3
  have hd2_3 := Dj.new hb2.ltO hge3
  have hB := hB.trans hXw3
  have hb1 := hb1.up hXw3
  have hb2 := hb2.up hXw3
  refine WL.nilS ?_
  refine CW.seq ?_
  refine CW.reg ?_
  refine WL.pure rfl rfl rfl ((by first | exact PV.fieldAddr T.fl24_0 rfl (by first | assumption | exact Bx.cells (by assumption)) | exact PV.fieldAddrP T.fl24_0 rfl rfl)) ?_
  refine WL.pure rfl rfl rfl ((by first | exact PV.load0 T.na2 rfl (by first | exact Cells.up (by assumption) hB | exact Bx.cells (by assumption) | assumption) (Ext.refl _) rfl | exact PV.load1 T.na2 rfl (by first | exact Cells.up (by assumption) hB | exact Bx.cells (by assumption) | assumption) (Ext.refl _) rfl)) ?_
  refine WL.pure rfl rfl rfl ((by first | exact PV.fieldAddr T.fl29_0 rfl (by first | assumption | exact Bx.cells (by assumption)) | exact PV.fieldAddrP T.fl29_0 rfl rfl)) ?_
  first
    | refine WL.op rfl (OpK.storeB T.sz2 rfl rfl (by first | rfl | exact Osl.oneCell (by assumption) | exact Osn.oneCell (by assumption) | exact Rd.oneCell (by assumption) | exact Rd.oneCell (NL.rd (by assumption)) | assumption) hb3 rfl (fun w4 hXw4 hb3 => ?_))
    | refine WL.op rfl (OpK.storeB0 T.sz2 rfl rfl (by first | rfl | exact Osl.oneCell (by assumption) | exact Osn.oneCell (by assumption) | exact Rd.oneCell (by assumption) | exact Rd.oneCell (NL.rd (by assumption)) | assumption) hb3 (fun w4 hXw4 hb3 => ?_))
  have hB := hB.updL hXw4 hl3
  have hb1 := hb1.updD hXw4 hd1_3
  have hb2 := hb2.updD hXw4 hd2_3
  refine WL.nilS ?_
  refine CW.seq ?_
  refine CW.reg ?_
  refine WL.pure rfl rfl rfl ((by first | exact PV.fieldAddr T.fl24_1 rfl (by first | assumption | exact Bx.cells (by assumption)) | exact PV.fieldAddrP T.fl24_1 rfl rfl)) ?_
  refine WL.pure rfl rfl rfl ((by first | exact PV.load0 T.na2 rfl (by first | exact Cells.up (by assumption) hB | exact Bx.cells (by assumption) | assumption) (Ext.refl _) rfl | exact PV.load1 T.na2 rfl (by first | exact Cells.up (by assumption) hB | exact Bx.cells (by assumption) | assumption) (Ext.refl _) rfl)) ?_
  refine WL.pure rfl rfl rfl ((by first | exact PV.fieldAddr T.fl29_1 rfl (by first | assumption | exact Bx.cells (by assumption)) | exact PV.fieldAddrP T.fl29_1 rfl rfl)) ?_
  first
    | refine WL.op rfl (OpK.storeB T.sz2 rfl rfl (by first | rfl | exact Osl.oneCell (by assumption) | exact Osn.oneCell (by assumption) | exact Rd.oneCell (by assumption) | exact Rd.oneCell (NL.rd (by assumption)) | assumption) hb3 rfl (fun w5 hXw5 hb3 => ?_))
    | refine WL.op rfl (OpK.storeB0 T.sz2 rfl rfl (by first | rfl | exact Osl.oneCell (by assumption) | exact Osn.oneCell (by assumption) | exact Rd.oneCell (by assumption) | exact Rd.oneCell (NL.rd (by assumption)) | assumption) hb3 (fun w5 hXw5 hb3 => ?_))
  have hB := hB.updL hXw5 hl3
  have hb1 := hb1.updD hXw5 hd1_3
  have hb2 := hb2.updD hXw5 hd2_3
  refine WL.nilS ?_
  refine CW.seq ?_
  refine CW.reg ?_
  refine WL.pure rfl rfl rfl ((by first | exact PV.fieldAddr T.fl24_2 rfl (by first | assumption | exact Bx.cells (by assumption)) | exact PV.fieldAddrP T.fl24_2 rfl rfl)) ?_
  refine WL.pure rfl rfl rfl ((by first | exact PV.load0 T.na22 rfl (by first | exact Cells.up (by assumption) hB | exact Bx.cells (by assumption) | assumption) (Ext.refl _) rfl | exact PV.load1 T.na22 rfl (by first | exact Cells.up (by assumption) hB | exact Bx.cells (by assumption) | assumption) (Ext.refl _) rfl)) ?_
  refine WL.op rfl (OpK.call rfl T.cf54 rfl (c_laws_toRuleS (by first | assumption | exact Rd.up (by assumption) hB | exact Osl.rd (by assumption) | exact Osn.rdR (by assumption) | exact NL.rd (by assumption)) (by first | assumption | omega | (simp only [marks_len, marksB_len, marksR_len]; omega))) (fun rv1 w6 hR => ?_))
  obtain ⟨hXw6, v4, og4, rfl, ho4, hq4⟩ := hR
  have hl4 := Lo.up hq4 hB
  have hd1_4 := Dj.lo hb1.ltO hq4
  have hd2_4 := Dj.lo hb2.ltO hq4
  have hd3_4 := Dj.lo hb3.ltO hq4
  have hB := hB.trans hXw6
  have hb1 := hb1.up hXw6
  have hb2 := hb2.up hXw6
  have hb3 := hb3.up hXw6
  refine WL.pure rfl rfl rfl ((by first | exact PV.fieldAddr T.fl29_2 rfl (by first | assumption | exact Bx.cells (by assumption)) | exact PV.fieldAddrP T.fl29_2 rfl rfl)) ?_
  first
    | refine WL.op rfl (OpK.storeB T.sz27 rfl rfl (by first | rfl | exact Osl.oneCell (by assumption) | exact Osn.oneCell (by assumption) | exact Rd.oneCell (by assumption) | exact Rd.oneCell (NL.rd (by assumption)) | assumption) hb3 rfl (fun w7 hXw7 hb3 => ?_))
    | refine WL.op rfl (OpK.storeB0 T.sz27 rfl rfl (by first | rfl | exact Osl.oneCell (by assumption) | exact Osn.oneCell (by assumption) | exact Rd.oneCell (by assumption) | exact Rd.oneCell (NL.rd (by assumption)) | assumption) hb3 (fun w7 hXw7 hb3 => ?_))
  have hB := hB.updL hXw7 hl3
  have hb1 := hb1.updD hXw7 hd1_3
  have hb2 := hb2.updD hXw7 hd2_3
  have ho4 := ho4.updD hXw7 (Dj.symm hd3_4)
  refine WL.nilS ?_
  refine CW.seq ?_
  refine CW.reg ?_
  refine WL.pure rfl rfl rfl ((by first | exact PV.loadA T.ag29 rfl (by first | exact Cells.up (by assumption) hB | exact Bx.cells (by assumption) | assumption) (Ext.refl _) rfl | exact PV.loadP (ds := [_, _, _]) T.ag29 rfl (by first | exact Cells.up (by assumption) hB | exact Bx.cells (by assumption) | assumption) (Ext.refl _) rfl rfl)) ?_
  refine WL.op rfl (OpK.storeA T.sz29 rfl rfl rfl rfl (by simp [Value.oneCell'] <;> first | done | (repeat' apply And.intro) <;> first | rfl | exact Osl.oneCell (by assumption) | exact Osn.oneCell (by assumption) | exact Rd.oneCell (by assumption) | exact Rd.oneCell (NL.rd (by assumption)) | assumption) hb2 (fun w8 hXw8 hb2 => ?_))
  have hB := hB.updL hXw8 hl2
  have hb1 := hb1.updD hXw8 hd1_2
  have hb3 := hb3.updD hXw8 (Dj.symm hd2_3)
  have ho4 := ho4.updD hXw8 (Dj.symm hd2_4)
  refine WL.nilS ?_
  refine CW.ret ?_
  refine RQ.rc0 T.ag29 rfl (by first | exact Cells.up (by assumption) hB | exact Bx.cells (by assumption) | assumption) rfl ?_
  refine ⟨hB, rv1, og4, ?_, osnE ho4 ?_, hl4⟩
  · skip
    rfl
  · skip
    rfl
theorem c_spec_l00In {w : World} {n lo hi : Int} : Calls Try.prog 89 #[.int .i64 n, .int .i64 lo, .int .i64 hi] w (Ret1 (RQt (.bool (decide (lo ≤ n ∧ n ≤ hi))) w)) := by
  have hB : Ext w w := Ext.refl w
  refine callsOf (vs := [_, _, _]) Try.func89 rfl Try.ntmps89 rfl rfl ?_
  refine CW.seq ?_
  refine CW.reg ?_
  refine WL.pure rfl rfl rfl (PV.assign rfl) ?_
  refine WL.nilS ?_
  refine CW.seq ?_
  refine CW.reg ?_
  refine WL.pure rfl rfl rfl (PV.move rfl) ?_
  refine WL.pure rfl rfl rfl (PV.move rfl) ?_
  refine WL.pure rfl rfl rfl (PV.geq rfl rfl) ?_
  refine WL.pure rfl rfl rfl (PV.move rfl) ?_
  refine WL.split (t := 10) rfl (fun hc1 => ?_) (fun hc1 => ?_)
  rotate_left
  · skip
    try simp only [decide_eq_true_eq, decide_eq_false_iff_not, Bool.not_eq_true', Bool.not_eq_false', Bool.not_eq_eq_eq_not, Bool.not_true, Bool.not_false, Int.not_lt, Int.not_le, Classical.not_not, beq_iff_eq, beq_eq_false_iff_ne] at hc1
    refine WL.skip rfl rfl rfl rfl rfl ?_
    refine WL.skip rfl rfl rfl rfl rfl ?_
    refine WL.skip rfl rfl rfl rfl rfl ?_
    refine WL.pure rfl rfl rfl (PV.pickF rfl rfl) ?_
    refine WL.pure rfl rfl rfl (PV.assign rfl) ?_
    refine WL.nilS ?_
    refine CW.ret ?_
    refine RQ.r1 rfl ?_
    refine ⟨?_, hB⟩
    first | rfl | exact bT (by omega) | exact bF (by omega) | exact bD (by omega) | exact iE (by omega) | (simp_all; done) | (simp_all; omega) | (simp_all; intros; omega)
  try simp only [decide_eq_true_eq, decide_eq_false_iff_not, Bool.not_eq_true', Bool.not_eq_false', Bool.not_eq_eq_eq_not, Bool.not_true, Bool.not_false, Int.not_lt, Int.not_le, Classical.not_not, beq_iff_eq, beq_eq_false_iff_ne] at hc1
  refine WL.pureG rfl rfl rfl rfl rfl (PV.move rfl) ?_
  refine WL.pureG rfl rfl rfl rfl rfl (PV.move rfl) ?_
  refine WL.pureG rfl rfl rfl rfl rfl (PV.leq rfl rfl) ?_
  refine WL.pure rfl rfl rfl (PV.pickT rfl rfl) ?_
  refine WL.pure rfl rfl rfl (PV.assign rfl) ?_
  refine WL.nilS ?_
  refine CW.ret ?_
  refine RQ.r1 rfl ?_
  refine ⟨?_, hB⟩
  first | rfl | exact bT (by omega) | exact bF (by omega) | exact bD (by omega) | exact iE (by omega) | (simp_all; done) | (simp_all; omega) | (simp_all; intros; omega)
theorem c_spec_l06Is {w : World} {pa : Addr} {a0 : Int} {a1 : Int} {va2 : Value} {xa2 : List R4}  (hba : Cells w pa [.int .i64 a0, .int .i64 a1, va2]) (ha2 : Rd ER w va2 xa2) : Calls Try.prog 57 #[.pointer (some pa)] w (Ret1 (RQt (.bool (decide (gramV a0 a1 xa2))) w)) := by
  have hB : Ext w w := Ext.refl w
  have hla2 := ha2.leI
  refine callsOf (vs := [_]) Try.func57 rfl Try.ntmps57 rfl rfl ?_
  refine CW.seq ?_
  refine CW.reg ?_
  refine WL.pure rfl rfl rfl (PV.assign rfl) ?_
  refine WL.nilS ?_
  refine CW.seq ?_
  refine CW.seq ?_
  refine CW.reg ?_
  refine WL.pure rfl rfl rfl (PV.move rfl) ?_
  refine WL.pure rfl rfl rfl (PV.nilCheck rfl) ?_
  refine WL.pure rfl rfl rfl ((by first | exact PV.fieldAddr T.fl29_0 rfl (by first | assumption | exact Bx.cells (by assumption)) | exact PV.fieldAddrP T.fl29_0 rfl rfl)) ?_
  refine WL.pure rfl rfl rfl ((by first | exact PV.load0 T.na2 rfl (by first | exact Cells.up (by assumption) hB | exact Bx.cells (by assumption) | assumption) (Ext.refl _) rfl | exact PV.load1 T.na2 rfl (by first | exact Cells.up (by assumption) hB | exact Bx.cells (by assumption) | assumption) (Ext.refl _) rfl)) ?_
  refine WL.op rfl (OpK.callR rfl T.cf89 rfl (c_spec_l00In) (fun w1 hXw1 => ?_))
  have hB := hB.trans hXw1
  refine WL.pure rfl rfl rfl (PV.not rfl) ?_
  refine WL.pure rfl rfl rfl (PV.move rfl) ?_
  refine WL.split (t := 11) rfl (fun hc1 => ?_) (fun hc1 => ?_)
  · skip
    try simp only [decide_eq_true_eq, decide_eq_false_iff_not, Bool.not_eq_true', Bool.not_eq_false', Bool.not_eq_eq_eq_not, Bool.not_true, Bool.not_false, Int.not_lt, Int.not_le, Classical.not_not, beq_iff_eq, beq_eq_false_iff_ne] at hc1
    refine WL.skip rfl rfl rfl rfl rfl ?_
    refine WL.skip rfl rfl rfl rfl rfl ?_
    refine WL.skip rfl rfl rfl rfl rfl ?_
    refine WL.skip rfl rfl rfl rfl rfl ?_
    refine WL.skip rfl rfl rfl rfl rfl ?_
    refine WL.skip rfl rfl rfl rfl rfl ?_
    refine WL.pure rfl rfl rfl (PV.pickT rfl rfl) ?_
    refine WL.pure rfl rfl rfl (PV.move rfl) ?_
    refine WL.skip rfl rfl rfl rfl rfl ?_
    refine WL.skip rfl rfl rfl rfl rfl ?_
    refine WL.skip rfl rfl rfl rfl rfl ?_
    refine WL.skip rfl rfl rfl rfl rfl ?_
    refine WL.skip rfl rfl rfl rfl rfl ?_
    refine WL.skip rfl rfl rfl rfl rfl ?_
    refine WL.pure rfl rfl rfl (PV.pickT rfl rfl) ?_
    refine WL.nilS ?_
    refine CW.condT rfl ?_
    refine CW.seq ?_
    refine CW.reg ?_
    refine WL.pure rfl rfl rfl (PV.assign rfl) ?_
    refine WL.nilS ?_
    refine CW.ret ?_
    refine RQ.then ?_
    refine RQ.r1 rfl ?_
    refine ⟨?_, hB⟩
    exact bF (by rintro ⟨h1, h2, h3, h4⟩; first | omega | (have h5 := h4 k (by omega); simp only [okR] at h5; omega))
  try simp only [decide_eq_true_eq, decide_eq_false_iff_not, Bool.not_eq_true', Bool.not_eq_false', Bool.not_eq_eq_eq_not, Bool.not_true, Bool.not_false, Int.not_lt, Int.not_le, Classical.not_not, beq_iff_eq, beq_eq_false_iff_ne] at hc1
  refine WL.pureG rfl rfl rfl rfl rfl (PV.move rfl) ?_
  refine WL.pureG rfl rfl rfl rfl rfl (PV.nilCheck rfl) ?_
  refine WL.pureG rfl rfl rfl rfl rfl ((by first | exact PV.fieldAddr T.fl29_1 rfl (by first | assumption | exact Bx.cells (by assumption)) | exact PV.fieldAddrP T.fl29_1 rfl rfl)) ?_
  refine WL.pureG rfl rfl rfl rfl rfl ((by first | exact PV.load0 T.na2 rfl (by first | exact Cells.up (by assumption) hB | exact Bx.cells (by assumption) | assumption) (Ext.refl _) rfl | exact PV.load1 T.na2 rfl (by first | exact Cells.up (by assumption) hB | exact Bx.cells (by assumption) | assumption) (Ext.refl _) rfl)) ?_
  refine WL.opG rfl rfl rfl (OpK.callR rfl T.cf89 rfl (c_spec_l00In) (fun w2 hXw2 => ?_))
  have hB := hB.trans hXw2
  refine WL.pureG rfl rfl rfl rfl rfl (PV.not rfl) ?_
  refine WL.pure rfl rfl rfl (PV.pickF rfl rfl) ?_
  refine WL.pure rfl rfl rfl (PV.move rfl) ?_
  refine WL.split (t := 19) rfl (fun hc2 => ?_) (fun hc2 => ?_)
  · skip
    try simp only [decide_eq_true_eq, decide_eq_false_iff_not, Bool.not_eq_true', Bool.not_eq_false', Bool.not_eq_eq_eq_not, Bool.not_true, Bool.not_false, Int.not_lt, Int.not_le, Classical.not_not, beq_iff_eq, beq_eq_false_iff_ne] at hc2
    refine WL.skip rfl rfl rfl rfl rfl ?_
    refine WL.skip rfl rfl rfl rfl rfl ?_
    refine WL.skip rfl rfl rfl rfl rfl ?_
    refine WL.skip rfl rfl rfl rfl rfl ?_
    refine WL.skip rfl rfl rfl rfl rfl ?_
    refine WL.skip rfl rfl rfl rfl rfl ?_
    refine WL.pure rfl rfl rfl (PV.pickT rfl rfl) ?_
    refine WL.nilS ?_
    refine CW.condT rfl ?_
    refine CW.seq ?_
    refine CW.reg ?_
    refine WL.pure rfl rfl rfl (PV.assign rfl) ?_
    refine WL.nilS ?_
    refine CW.ret ?_
    refine RQ.then ?_
    refine RQ.r1 rfl ?_
    refine ⟨?_, hB⟩
    exact bF (by rintro ⟨h1, h2, h3, h4⟩; first | omega | (have h5 := h4 k (by omega); simp only [okR] at h5; omega))
  try simp only [decide_eq_true_eq, decide_eq_false_iff_not, Bool.not_eq_true', Bool.not_eq_false', Bool.not_eq_eq_eq_not, Bool.not_true, Bool.not_false, Int.not_lt, Int.not_le, Classical.not_not, beq_iff_eq, beq_eq_false_iff_ne] at hc2
  refine WL.pureG rfl rfl rfl rfl rfl (PV.move rfl) ?_
  refine WL.pureG rfl rfl rfl rfl rfl (PV.nilCheck rfl) ?_
  refine WL.pureG rfl rfl rfl rfl rfl ((by first | exact PV.fieldAddr T.fl29_2 rfl (by first | assumption | exact Bx.cells (by assumption)) | exact PV.fieldAddrP T.fl29_2 rfl rfl)) ?_
  refine WL.pureG rfl rfl rfl rfl rfl ((by first | exact PV.load0 T.na27 rfl (by first | exact Cells.up (by assumption) hB | exact Bx.cells (by assumption) | assumption) (Ext.refl _) rfl | exact PV.load1 T.na27 rfl (by first | exact Cells.up (by assumption) hB | exact Bx.cells (by assumption) | assumption) (Ext.refl _) rfl)) ?_
  refine WL.pureG rfl rfl rfl rfl rfl ((by first | exact PV.len rfl (by assumption) T.sl27 | exact PV.lenOs rfl (by assumption) T.sl27 | exact PV.len rfl (NL.rd (by assumption)) T.sl27)) ?_
  refine WL.pureG rfl rfl rfl rfl rfl (PV.gtr rfl rfl) ?_
  refine WL.pure rfl rfl rfl (PV.pickF rfl rfl) ?_
  refine WL.nilS ?_
  refine CW.cond rfl (fun hc3 => ?_) (fun hc3 => ?_)
  · skip
    try simp only [decide_eq_true_eq, decide_eq_false_iff_not, Bool.not_eq_true', Bool.not_eq_false', Bool.not_eq_eq_eq_not, Bool.not_true, Bool.not_false, Int.not_lt, Int.not_le, Classical.not_not, beq_iff_eq, beq_eq_false_iff_ne] at hc3
    refine CW.seq ?_
    refine CW.reg ?_
    refine WL.pure rfl rfl rfl (PV.assign rfl) ?_
    refine WL.nilS ?_
    refine CW.ret ?_
    refine RQ.then ?_
    refine RQ.r1 rfl ?_
    refine ⟨?_, hB⟩
    exact bF (by rintro ⟨h1, h2, h3, h4⟩; first | omega | (have h5 := h4 k (by omega); simp only [okR] at h5; omega))
  try simp only [decide_eq_true_eq, decide_eq_false_iff_not, Bool.not_eq_true', Bool.not_eq_false', Bool.not_eq_eq_eq_not, Bool.not_true, Bool.not_false, Int.not_lt, Int.not_le, Classical.not_not, beq_iff_eq, beq_eq_false_iff_ne] at hc3
  refine CW.skipS ?_
  refine CW.seq ?_
  refine CW.seq ?_
  refine CW.reg ?_
  refine WL.pure rfl rfl rfl (PV.assign rfl) ?_
  refine WL.nilS ?_
  refine CW.block ?_
  refine CW.loop (σk := [(0, _)]) (fun ρ wz m => ∃ (k : Nat), ρ = [(3, .int .i64 (k : Nat))] ∧ m = xa2.length - k ∧ UpdL [] w2 wz ∧ (k ≤ xa2.length) ∧ (∀ q : Nat, q < k → okR a0 a1 (xa2.getD q (0, 0, 0, 0)))) (ρ₀ := [(3, _)]) (m₀ := _) ⟨rfl, rfl, trivial⟩ ⟨0, rfl, rfl, (UpdL.refl _ _), (by first | omega | rfl | (simp; done) | assumption | (simp_all; done)), (by intro q h1; exact absurd h1 (by omega))⟩ ?_
  rintro _ wl1 _ ⟨k, rfl, rfl, hU0, hk, hq⟩
  have hB := hB.loop hU0 trivial
  refine CW.seq ?_
  refine CW.seq ?_
  refine CW.reg ?_
  refine WL.pure rfl rfl rfl (PV.move rfl) ?_
  refine WL.pure rfl rfl rfl (PV.move rfl) ?_
  refine WL.pure rfl rfl rfl (PV.nilCheck rfl) ?_
  refine WL.pure rfl rfl rfl ((by first | exact PV.fieldAddr T.fl29_2 rfl (by first | assumption | exact Bx.cells (by assumption)) | exact PV.fieldAddrP T.fl29_2 rfl rfl)) ?_
  refine WL.pure rfl rfl rfl ((by first | exact PV.load0 T.na27 rfl (by first | exact Cells.up (by assumption) hB | exact Bx.cells (by assumption) | assumption) (Ext.refl _) rfl | exact PV.load1 T.na27 rfl (by first | exact Cells.up (by assumption) hB | exact Bx.cells (by assumption) | assumption) (Ext.refl _) rfl)) ?_
  refine WL.pure rfl rfl rfl ((by first | exact PV.len rfl (by assumption) T.sl27 | exact PV.lenOs rfl (by assumption) T.sl27 | exact PV.len rfl (NL.rd (by assumption)) T.sl27)) ?_
  refine WL.pure rfl rfl rfl (PV.lss rfl rfl) ?_
  refine WL.nilS ?_
  refine CW.cond rfl (fun hc4 => ?_) (fun hc4 => ?_)
  · skip
    try simp only [decide_eq_true_eq, decide_eq_false_iff_not, Bool.not_eq_true', Bool.not_eq_false', Bool.not_eq_eq_eq_not, Bool.not_true, Bool.not_false, Int.not_lt, Int.not_le, Classical.not_not, beq_iff_eq, beq_eq_false_iff_ne] at hc4
    refine CW.skipS ?_
    refine CW.seq ?_
    refine CW.block ?_
    refine CW.seq ?_
    refine CW.reg ?_
    refine WL.pure rfl rfl rfl (PV.move rfl) ?_
    refine WL.pure rfl rfl rfl (PV.nilCheck rfl) ?_
    refine WL.pure rfl rfl rfl ((by first | exact PV.fieldAddr T.fl29_2 rfl (by first | assumption | exact Bx.cells (by assumption)) | exact PV.fieldAddrP T.fl29_2 rfl rfl)) ?_
    refine WL.pure rfl rfl rfl ((by first | exact PV.load0 T.na27 rfl (by first | exact Cells.up (by assumption) hB | exact Bx.cells (by assumption) | assumption) (Ext.refl _) rfl | exact PV.load1 T.na27 rfl (by first | exact Cells.up (by assumption) hB | exact Bx.cells (by assumption) | assumption) (Ext.refl _) rfl)) ?_
    refine WL.pure rfl rfl rfl (PV.move rfl) ?_
    first
      | refine WL.at (x := .tmp 39) (y := .tmp 40) (E := ER) ((0, 0, 0, 0)) rfl rfl (by assumption) (by first | omega | (simp; omega) | (simp_all; omega)) (fun p1 csp1 hpp1 hcp1 hq => ?_)
      | refine WL.atZ (x := .tmp 39) (y := .tmp 40) (E := ER) ((0, 0, 0, 0)) rfl rfl (by assumption) (by first | omega | (simp; omega) | (simp_all; omega)) (fun p1 csp1 hpp1 hzp1 hcp1 hq => ?_)
    cases hq
    refine WL.pure rfl rfl rfl ((by first | exact PV.indexAddr hpp1 rfl rfl T.sl27 | exact PV.indexAddr hpp1 rfl (by rw [← hzp1]; rfl) T.sl27)) ?_
    refine WL.pure rfl rfl rfl ((by first | exact PV.loadA T.ag67 rfl (by first | exact Cells.up (by assumption) hB | exact Bx.cells (by assumption) | assumption) (Ext.refl _) rfl | exact PV.loadP (ds := [_, _, _, _]) T.ag67 rfl (by first | exact Cells.up (by assumption) hB | exact Bx.cells (by assumption) | assumption) (Ext.refl _) rfl rfl)) ?_
    refine WL.op rfl (OpK.alloc rfl T.zv67 rfl (fun b1 w3 hXw3 hb1 hge1 => ?_))
    have hl1 := Lo.new hB hge1
    have hk0_1 := OkN.new hU0 hge1
    have hg0_1 := OgR.new hU0.size hge1
    have hB := hB.trans hXw3
    have hU0 := hU0.ext hXw3
    refine WL.op rfl (OpK.storeA T.sz67 rfl rfl rfl rfl (by simp [Value.oneCell'] <;> first | done | (repeat' apply And.intro) <;> first | rfl | exact Osl.oneCell (by assumption) | exact Osn.oneCell (by assumption) | exact Rd.oneCell (by assumption) | exact Rd.oneCell (NL.rd (by assumption)) | assumption) hb1 (fun w4 hXw4 hb1 => ?_))
    have hB := hB.updL hXw4 hl1
    have hU0 := hU0.step hXw4 hk0_1
    refine WL.nilS ?_
    refine CW.seq ?_
    refine CW.seq ?_
    refine CW.draw T.mixed (by kernel_rfl) (fun _ _ _ _ _ h => h) (fun w8 w9 => Upd none w8 w9) 26 (.take 0 (.take 1 (.take 2 (.take 3 (.take 4 (.take 5 (.take 6 (.must 7 (.take 8 (.take 9 (.split (.take 10 (.take 11 (.take 12 (.take 13 (.take 14 (.take 15 (.take 16 (.take 17 (.take 18 (.take 19 (.take 20 (.take 21 (.take 22 (.take 23 (.take 24 (.take 25 .done)))))))))))))))) (.take 10 (.take 11 (.take 12 (.take 13 (.take 14 (.take 15 (.take 16 (.must 17 (.take 18 (.take 19 (.take 20 (.split (.take 21 (.take 22 (.take 23 (.take 24 (.take 25 .done))))) (.take 21 (.take 22 (.must 23 (.take 24 (.take 25 .done)))))))))))))))))))))))))))) (by kernel_rfl) (fun w5 hXd => ?_)
    have hB := hB.trans hXd
    have hb1 := hb1.up hXd
    have hU0 := hU0.ext hXd
    have hBr := hB
    have hS : Upd none w5 w5 := Ext.toUpd (Ext.refl _)
    refine HP.take rfl rfl rfl rfl hS (fun wS hS1 => (by first | exact PV.fieldAddr T.fl67_0 rfl (by first | assumption | exact Bx.cells (by assumption)) | exact PV.fieldAddrP T.fl67_0 rfl rfl)) ?_
    refine HP.take rfl rfl rfl rfl hS (fun wS hS1 => (by first | exact PV.load0 T.na2 rfl (by first | exact Cells.up (by assumption) (hBr.trans hS1) | exact Bx.cells (Bx.updD (by assumption) hS1 (Dj.nlR _)) | exact Cells.upd (by assumption) hS1 (by simp)) (Ext.refl _) rfl | exact PV.load1 T.na2 rfl (by first | exact Cells.up (by assumption) (hBr.trans hS1) | exact Bx.cells (Bx.updD (by assumption) hS1 (Dj.nlR _)) | exact Cells.upd (by assumption) hS1 (by simp)) (Ext.refl _) rfl)) ?_
    refine HP.take rfl rfl rfl rfl hS (fun wS hS1 => PV.move rfl) ?_
    refine HP.take rfl rfl rfl rfl hS (fun wS hS1 => PV.nilCheck rfl) ?_
    refine HP.take rfl rfl rfl rfl hS (fun wS hS1 => (by first | exact PV.fieldAddr T.fl29_0 rfl (by first | assumption | exact Bx.cells (by assumption)) | exact PV.fieldAddrP T.fl29_0 rfl rfl)) ?_
    refine HP.take rfl rfl rfl rfl hS (fun wS hS1 => (by first | exact PV.load0 T.na2 rfl (by first | exact Cells.up (by assumption) (hBr.trans hS1) | exact Bx.cells (Bx.updD (by assumption) hS1 (Dj.nlR _)) | exact Cells.upd (by assumption) hS1 (by simp)) (Ext.refl _) rfl | exact PV.load1 T.na2 rfl (by first | exact Cells.up (by assumption) (hBr.trans hS1) | exact Bx.cells (Bx.updD (by assumption) hS1 (Dj.nlR _)) | exact Cells.upd (by assumption) hS1 (by simp)) (Ext.refl _) rfl)) ?_
    refine HP.take rfl rfl rfl rfl hS (fun wS hS1 => PV.sub rfl rfl (by constructor <;> omega)) ?_
    refine HP.must rfl rfl (OpK.callR rfl T.cf89 rfl (c_spec_l00In) (fun w6 hXw6 => ?_))
    refine ⟨Upd.trans hS hXw6, ?_⟩
    have hS := Upd.trans hS hXw6
    have hB := hB.trans hXw6
    have hb1 := hb1.up hXw6
    have hU0 := hU0.ext hXw6
    refine HP.take rfl rfl rfl rfl hS (fun wS hS1 => PV.not rfl) ?_
    refine HP.take rfl rfl rfl rfl hS (fun wS hS1 => PV.move rfl) ?_
    refine HP.split (t := 52) rfl (fun hc5 => ?_) (fun hc5 => ?_)
    · skip
      try simp only [decide_eq_true_eq, decide_eq_false_iff_not, Bool.not_eq_true', Bool.not_eq_false', Bool.not_eq_eq_eq_not, Bool.not_true, Bool.not_false, Int.not_lt, Int.not_le, Classical.not_not, beq_iff_eq, beq_eq_false_iff_ne] at hc5
      refine HP.skip rfl rfl rfl rfl rfl rfl hS ?_
      refine HP.skip rfl rfl rfl rfl rfl rfl hS ?_
      refine HP.skip rfl rfl rfl rfl rfl rfl hS ?_
      refine HP.skip rfl rfl rfl rfl rfl rfl hS ?_
      refine HP.skip rfl rfl rfl rfl rfl rfl hS ?_
      refine HP.skip rfl rfl rfl rfl rfl rfl hS ?_
      refine HP.skip rfl rfl rfl rfl rfl rfl hS ?_
      refine HP.skip rfl rfl rfl rfl rfl rfl hS ?_
      refine HP.skip rfl rfl rfl rfl rfl rfl hS ?_
      refine HP.take rfl rfl rfl rfl hS (fun wS hS1 => PV.pickT rfl rfl) ?_
      refine HP.take rfl rfl rfl rfl hS (fun wS hS1 => PV.move rfl) ?_
      refine HP.skip rfl rfl rfl rfl rfl rfl hS ?_
      refine HP.skip rfl rfl rfl rfl rfl rfl hS ?_
      refine HP.skip rfl rfl rfl rfl rfl rfl hS ?_
      refine HP.skip rfl rfl rfl rfl rfl rfl hS ?_
      refine HP.take rfl rfl rfl rfl hS (fun wS hS1 => PV.pickT rfl rfl) ?_
      refine HP.doneS ?_
      refine CW.condT rfl ?_
      refine CW.seq ?_
      refine CW.reg ?_
      refine WL.pure rfl rfl rfl (PV.assign rfl) ?_
      refine WL.nilS ?_
      refine CW.ret ?_
      refine RQ.then ?_
      refine RQ.block ?_
      refine RQ.then ?_
      refine RQ.then ?_
      refine RQ.block ?_
      refine RQ.then ?_
      refine RQ.r1 rfl ?_
      refine ⟨?_, hB⟩
      exact bF (by rintro ⟨h1, h2, h3, h4⟩; first | omega | (have h5 := h4 k (by omega); simp only [okR] at h5; omega))
    try simp only [decide_eq_true_eq, decide_eq_false_iff_not, Bool.not_eq_true', Bool.not_eq_false', Bool.not_eq_eq_eq_not, Bool.not_true, Bool.not_false, Int.not_lt, Int.not_le, Classical.not_not, beq_iff_eq, beq_eq_false_iff_ne] at hc5
    refine HP.takeG rfl rfl rfl rfl rfl rfl hS (fun wS hS1 => (by first | exact PV.fieldAddr T.fl67_2 rfl (by first | assumption | exact Bx.cells (by assumption)) | exact PV.fieldAddrP T.fl67_2 rfl rfl)) ?_
    refine HP.takeG rfl rfl rfl rfl rfl rfl hS (fun wS hS1 => (by first | exact PV.load0 T.na2 rfl (by first | exact Cells.up (by assumption) (hBr.trans hS1) | exact Bx.cells (Bx.updD (by assumption) hS1 (Dj.nlR _)) | exact Cells.upd (by assumption) hS1 (by simp)) (Ext.refl _) rfl | exact PV.load1 T.na2 rfl (by first | exact Cells.up (by assumption) (hBr.trans hS1) | exact Bx.cells (Bx.updD (by assumption) hS1 (Dj.nlR _)) | exact Cells.upd (by assumption) hS1 (by simp)) (Ext.refl _) rfl)) ?_
    refine HP.takeG rfl rfl rfl rfl rfl rfl hS (fun wS hS1 => PV.move rfl) ?_
    refine HP.takeG rfl rfl rfl rfl rfl rfl hS (fun wS hS1 => PV.nilCheck rfl) ?_
    refine HP.takeG rfl rfl rfl rfl rfl rfl hS (fun wS hS1 => (by first | exact PV.fieldAddr T.fl29_0 rfl (by first | assumption | exact Bx.cells (by assumption)) | exact PV.fieldAddrP T.fl29_0 rfl rfl)) ?_
    refine HP.takeG rfl rfl rfl rfl rfl rfl hS (fun wS hS1 => (by first | exact PV.load0 T.na2 rfl (by first | exact Cells.up (by assumption) (hBr.trans hS1) | exact Bx.cells (Bx.updD (by assumption) hS1 (Dj.nlR _)) | exact Cells.upd (by assumption) hS1 (by simp)) (Ext.refl _) rfl | exact PV.load1 T.na2 rfl (by first | exact Cells.up (by assumption) (hBr.trans hS1) | exact Bx.cells (Bx.updD (by assumption) hS1 (Dj.nlR _)) | exact Cells.upd (by assumption) hS1 (by simp)) (Ext.refl _) rfl)) ?_
    refine HP.takeG rfl rfl rfl rfl rfl rfl hS (fun wS hS1 => PV.sub rfl rfl (by constructor <;> omega)) ?_
    refine HP.mustG rfl rfl rfl rfl (OpK.callR rfl T.cf89 rfl (c_spec_l00In) (fun w7 hXw7 => ?_))
    refine ⟨Upd.trans hS hXw7, ?_⟩
    have hS := Upd.trans hS hXw7
    have hB := hB.trans hXw7
    have hb1 := hb1.up hXw7
    have hU0 := hU0.ext hXw7
    refine HP.takeG rfl rfl rfl rfl rfl rfl hS (fun wS hS1 => PV.not rfl) ?_
    refine HP.take rfl rfl rfl rfl hS (fun wS hS1 => PV.pickF rfl rfl) ?_
    refine HP.take rfl rfl rfl rfl hS (fun wS hS1 => PV.move rfl) ?_
    refine HP.split (t := 63) rfl (fun hc6 => ?_) (fun hc6 => ?_)
    · skip
      try simp only [decide_eq_true_eq, decide_eq_false_iff_not, Bool.not_eq_true', Bool.not_eq_false', Bool.not_eq_eq_eq_not, Bool.not_true, Bool.not_false, Int.not_lt, Int.not_le, Classical.not_not, beq_iff_eq, beq_eq_false_iff_ne] at hc6
      refine HP.skip rfl rfl rfl rfl rfl rfl hS ?_
      refine HP.skip rfl rfl rfl rfl rfl rfl hS ?_
      refine HP.skip rfl rfl rfl rfl rfl rfl hS ?_
      refine HP.skip rfl rfl rfl rfl rfl rfl hS ?_
      refine HP.take rfl rfl rfl rfl hS (fun wS hS1 => PV.pickT rfl rfl) ?_
      refine HP.doneS ?_
      refine CW.condT rfl ?_
      refine CW.seq ?_
      refine CW.reg ?_
      refine WL.pure rfl rfl rfl (PV.assign rfl) ?_
      refine WL.nilS ?_
      refine CW.ret ?_
      refine RQ.then ?_
      refine RQ.block ?_
      refine RQ.then ?_
      refine RQ.then ?_
      refine RQ.block ?_
      refine RQ.then ?_
      refine RQ.r1 rfl ?_
      refine ⟨?_, hB⟩
      exact bF (by rintro ⟨h1, h2, h3, h4⟩; first | omega | (have h5 := h4 k (by omega); simp only [okR] at h5; omega))
    try simp only [decide_eq_true_eq, decide_eq_false_iff_not, Bool.not_eq_true', Bool.not_eq_false', Bool.not_eq_eq_eq_not, Bool.not_true, Bool.not_false, Int.not_lt, Int.not_le, Classical.not_not, beq_iff_eq, beq_eq_false_iff_ne] at hc6
    refine HP.takeG rfl rfl rfl rfl rfl rfl hS (fun wS hS1 => (by first | exact PV.fieldAddr T.fl67_3 rfl (by first | assumption | exact Bx.cells (by assumption)) | exact PV.fieldAddrP T.fl67_3 rfl rfl)) ?_
    refine HP.takeG rfl rfl rfl rfl rfl rfl hS (fun wS hS1 => (by first | exact PV.load0 T.na2 rfl (by first | exact Cells.up (by assumption) (hBr.trans hS1) | exact Bx.cells (Bx.updD (by assumption) hS1 (Dj.nlR _)) | exact Cells.upd (by assumption) hS1 (by simp)) (Ext.refl _) rfl | exact PV.load1 T.na2 rfl (by first | exact Cells.up (by assumption) (hBr.trans hS1) | exact Bx.cells (Bx.updD (by assumption) hS1 (Dj.nlR _)) | exact Cells.upd (by assumption) hS1 (by simp)) (Ext.refl _) rfl)) ?_
    refine HP.mustG rfl rfl rfl rfl (OpK.callR rfl T.cf89 rfl (c_spec_l00In) (fun w8 hXw8 => ?_))
    refine ⟨Upd.trans hS hXw8, ?_⟩
    have hS := Upd.trans hS hXw8
    have hB := hB.trans hXw8
    have hb1 := hb1.up hXw8
    have hU0 := hU0.ext hXw8
    refine HP.takeG rfl rfl rfl rfl rfl rfl hS (fun wS hS1 => PV.not rfl) ?_
    refine HP.take rfl rfl rfl rfl hS (fun wS hS1 => PV.pickF rfl rfl) ?_
    refine HP.doneS ?_
    refine CW.cond rfl (fun hc7 => ?_) (fun hc7 => ?_)
    · skip
      try simp only [decide_eq_true_eq, decide_eq_false_iff_not, Bool.not_eq_true', Bool.not_eq_false', Bool.not_eq_eq_eq_not, Bool.not_true, Bool.not_false, Int.not_lt, Int.not_le, Classical.not_not, beq_iff_eq, beq_eq_false_iff_ne] at hc7
      refine CW.seq ?_
      refine CW.reg ?_
      refine WL.pure rfl rfl rfl (PV.assign rfl) ?_
      refine WL.nilS ?_
      refine CW.ret ?_
      refine RQ.then ?_
      refine RQ.block ?_
      refine RQ.then ?_
      refine RQ.then ?_
      refine RQ.block ?_
      refine RQ.then ?_
      refine RQ.r1 rfl ?_
      refine ⟨?_, hB⟩
      exact bF (by rintro ⟨h1, h2, h3, h4⟩; first | omega | (have h5 := h4 k (by omega); simp only [okR] at h5; omega))
    try simp only [decide_eq_true_eq, decide_eq_false_iff_not, Bool.not_eq_true', Bool.not_eq_false', Bool.not_eq_eq_eq_not, Bool.not_true, Bool.not_false, Int.not_lt, Int.not_le, Classical.not_not, beq_iff_eq, beq_eq_false_iff_ne] at hc7
    refine CW.skipS ?_
    refine CW.seq ?_
    refine CW.draw T.mixed (by kernel_rfl) (fun _ _ _ _ _ h => h) (fun w8 w9 => Upd none w8 w9) 30 (.take 0 (.take 1 (.take 2 (.take 3 (.split (.take 4 (.take 5 (.take 6 (.take 7 (.take 8 (.take 9 (.take 10 (.must 11 (.take 12 (.take 13 (.take 14 (.split (.take 15 (.take 16 (.take 17 (.take 18 (.take 19 (.take 20 (.take 21 (.take 22 (.take 23 (.take 24 (.take 25 (.take 26 (.take 27 (.take 28 (.take 29 .done))))))))))))))) (.take 15 (.take 16 (.take 17 (.take 18 (.split (.take 19 (.take 20 (.take 21 (.take 22 (.take 23 (.take 24 (.take 25 (.must 26 (.take 27 (.take 28 (.take 29 .done))))))))))) (.take 19 (.take 20 (.take 21 (.take 22 (.take 23 (.take 24 (.take 25 (.take 26 (.take 27 (.take 28 (.take 29 .done)))))))))))))))))))))))))))) (.take 4 (.take 5 (.take 6 (.take 7 (.take 8 (.take 9 (.take 10 (.take 11 (.take 12 (.take 13 (.take 14 (.take 15 (.take 16 (.take 17 (.take 18 (.split (.take 19 (.take 20 (.take 21 (.take 22 (.take 23 (.take 24 (.take 25 (.must 26 (.take 27 (.take 28 (.take 29 .done))))))))))) (.take 19 (.take 20 (.take 21 (.take 22 (.take 23 (.take 24 (.take 25 (.take 26 (.take 27 (.take 28 (.take 29 .done)))))))))))))))))))))))))))))))) (by kernel_rfl) (fun w9 hXd => ?_)
    have hB := hB.trans hXd
    have hb1 := hb1.up hXd
    have hU0 := hU0.ext hXd
    have hBr := hB
    have hS : Upd none w9 w9 := Ext.toUpd (Ext.refl _)
    refine HP.take rfl rfl rfl rfl hS (fun wS hS1 => (by first | exact PV.fieldAddr T.fl67_2 rfl (by first | assumption | exact Bx.cells (by assumption)) | exact PV.fieldAddrP T.fl67_2 rfl rfl)) ?_
    refine HP.take rfl rfl rfl rfl hS (fun wS hS1 => (by first | exact PV.load0 T.na2 rfl (by first | exact Cells.up (by assumption) (hBr.trans hS1) | exact Bx.cells (Bx.updD (by assumption) hS1 (Dj.nlR _)) | exact Cells.upd (by assumption) hS1 (by simp)) (Ext.refl _) rfl | exact PV.load1 T.na2 rfl (by first | exact Cells.up (by assumption) (hBr.trans hS1) | exact Bx.cells (Bx.updD (by assumption) hS1 (Dj.nlR _)) | exact Cells.upd (by assumption) hS1 (by simp)) (Ext.refl _) rfl)) ?_
    refine HP.take rfl rfl rfl rfl hS (fun wS hS1 => PV.lss rfl rfl) ?_
    refine HP.take rfl rfl rfl rfl hS (fun wS hS1 => PV.move rfl) ?_
    refine HP.split (t := 72) rfl (fun hc8 => ?_) (fun hc8 => ?_)
    rotate_left
    · skip
      try simp only [decide_eq_true_eq, decide_eq_false_iff_not, Bool.not_eq_true', Bool.not_eq_false', Bool.not_eq_eq_eq_not, Bool.not_true, Bool.not_false, Int.not_lt, Int.not_le, Classical.not_not, beq_iff_eq, beq_eq_false_iff_ne] at hc8
      refine HP.skip rfl rfl rfl rfl rfl rfl hS ?_
      refine HP.skip rfl rfl rfl rfl rfl rfl hS ?_
      refine HP.skip rfl rfl rfl rfl rfl rfl hS ?_
      refine HP.skip rfl rfl rfl rfl rfl rfl hS ?_
      refine HP.skip rfl rfl rfl rfl rfl rfl hS ?_
      refine HP.skip rfl rfl rfl rfl rfl rfl hS ?_
      refine HP.skip rfl rfl rfl rfl rfl rfl hS ?_
      refine HP.skip rfl rfl rfl rfl rfl rfl hS ?_
      refine HP.skip rfl rfl rfl rfl rfl rfl hS ?_
      refine HP.take rfl rfl rfl rfl hS (fun wS hS1 => PV.pickF rfl rfl) ?_
      refine HP.take rfl rfl rfl rfl hS (fun wS hS1 => PV.move rfl) ?_
      refine HP.takeG rfl rfl rfl rfl rfl rfl hS (fun wS hS1 => (by first | exact PV.fieldAddr T.fl67_2 rfl (by first | assumption | exact Bx.cells (by assumption)) | exact PV.fieldAddrP T.fl67_2 rfl rfl)) ?_
      refine HP.takeG rfl rfl rfl rfl rfl rfl hS (fun wS hS1 => (by first | exact PV.load0 T.na2 rfl (by first | exact Cells.up (by assumption) (hBr.trans hS1) | exact Bx.cells (Bx.updD (by assumption) hS1 (Dj.nlR _)) | exact Cells.upd (by assumption) hS1 (by simp)) (Ext.refl _) rfl | exact PV.load1 T.na2 rfl (by first | exact Cells.up (by assumption) (hBr.trans hS1) | exact Bx.cells (Bx.updD (by assumption) hS1 (Dj.nlR _)) | exact Cells.upd (by assumption) hS1 (by simp)) (Ext.refl _) rfl)) ?_
      refine HP.takeG rfl rfl rfl rfl rfl rfl hS (fun wS hS1 => PV.geq rfl rfl) ?_
      refine HP.takeG rfl rfl rfl rfl rfl rfl hS (fun wS hS1 => PV.move rfl) ?_
      refine HP.split (t := 87) rfl (fun hc9 => ?_) (fun hc9 => ?_)
      rotate_left
      · skip
        try simp only [decide_eq_true_eq, decide_eq_false_iff_not, Bool.not_eq_true', Bool.not_eq_false', Bool.not_eq_eq_eq_not, Bool.not_true, Bool.not_false, Int.not_lt, Int.not_le, Classical.not_not, beq_iff_eq, beq_eq_false_iff_ne] at hc9
        refine HP.skip rfl rfl rfl rfl rfl rfl hS ?_
        refine HP.skip rfl rfl rfl rfl rfl rfl hS ?_
        refine HP.skip rfl rfl rfl rfl rfl rfl hS ?_
        refine HP.skip rfl rfl rfl rfl rfl rfl hS ?_
        refine HP.skip rfl rfl rfl rfl rfl rfl hS ?_
        refine HP.skip rfl rfl rfl rfl rfl rfl hS ?_
        refine HP.skip rfl rfl rfl rfl rfl rfl hS ?_
        refine HP.skip rfl rfl rfl rfl rfl rfl hS ?_
        refine HP.skip rfl rfl rfl rfl rfl rfl hS ?_
        refine HP.takeG rfl rfl rfl rfl rfl rfl hS (fun wS hS1 => PV.pickF rfl rfl) ?_
        refine HP.take rfl rfl rfl rfl hS (fun wS hS1 => PV.pickF rfl rfl) ?_
        refine HP.doneS ?_
        refine CW.condF rfl ?_
        refine CW.skip ?_
        refine NQ.block ?_
        refine NQ.then ?_
        refine CW.reg ?_
        refine WL.pure rfl rfl rfl (PV.move rfl) ?_
        refine WL.pure rfl rfl rfl (PV.add rfl rfl (by constructor <;> omega)) ?_
        refine WL.pure rfl rfl rfl (PV.assign rfl) ?_
        refine WL.nil ?_
        refine NQ.next (ρ := [(3, _)]) ⟨rfl, rfl, trivial⟩ ?_
        exact ⟨_, ⟨k + 1, rfl, rfl, hU0, (by first | omega | assumption | (simp_all; done) | (simp_all; omega)), (by intro q h1; by_cases h : q < k; exact hq q h; obtain rfl : q = k := (by omega); simp only [okR]; omega)⟩, by omega⟩
      try simp only [decide_eq_true_eq, decide_eq_false_iff_not, Bool.not_eq_true', Bool.not_eq_false', Bool.not_eq_eq_eq_not, Bool.not_true, Bool.not_false, Int.not_lt, Int.not_le, Classical.not_not, beq_iff_eq, beq_eq_false_iff_ne] at hc9
      refine HP.takeG rfl rfl rfl rfl rfl rfl hS (fun wS hS1 => (by first | exact PV.fieldAddr T.fl67_1 rfl (by first | assumption | exact Bx.cells (by assumption)) | exact PV.fieldAddrP T.fl67_1 rfl rfl)) ?_
      refine HP.takeG rfl rfl rfl rfl rfl rfl hS (fun wS hS1 => (by first | exact PV.load0 T.na2 rfl (by first | exact Cells.up (by assumption) (hBr.trans hS1) | exact Bx.cells (Bx.updD (by assumption) hS1 (Dj.nlR _)) | exact Cells.upd (by assumption) hS1 (by simp)) (Ext.refl _) rfl | exact PV.load1 T.na2 rfl (by first | exact Cells.up (by assumption) (hBr.trans hS1) | exact Bx.cells (Bx.updD (by assumption) hS1 (Dj.nlR _)) | exact Cells.upd (by assumption) hS1 (by simp)) (Ext.refl _) rfl)) ?_
      refine HP.takeG rfl rfl rfl rfl rfl rfl hS (fun wS hS1 => PV.move rfl) ?_
      refine HP.takeG rfl rfl rfl rfl rfl rfl hS (fun wS hS1 => PV.nilCheck rfl) ?_
      refine HP.takeG rfl rfl rfl rfl rfl rfl hS (fun wS hS1 => (by first | exact PV.fieldAddr T.fl29_0 rfl (by first | assumption | exact Bx.cells (by assumption)) | exact PV.fieldAddrP T.fl29_0 rfl rfl)) ?_
      refine HP.takeG rfl rfl rfl rfl rfl rfl hS (fun wS hS1 => (by first | exact PV.load0 T.na2 rfl (by first | exact Cells.up (by assumption) (hBr.trans hS1) | exact Bx.cells (Bx.updD (by assumption) hS1 (Dj.nlR _)) | exact Cells.upd (by assumption) hS1 (by simp)) (Ext.refl _) rfl | exact PV.load1 T.na2 rfl (by first | exact Cells.up (by assumption) (hBr.trans hS1) | exact Bx.cells (Bx.updD (by assumption) hS1 (Dj.nlR _)) | exact Cells.upd (by assumption) hS1 (by simp)) (Ext.refl _) rfl)) ?_
      refine HP.takeG rfl rfl rfl rfl rfl rfl hS (fun wS hS1 => PV.sub rfl rfl (by constructor <;> omega)) ?_
      refine HP.mustG rfl rfl rfl rfl (OpK.callR rfl T.cf89 rfl (c_spec_l00In) (fun w10 hXw10 => ?_))
      refine ⟨Upd.trans hS hXw10, ?_⟩
      have hS := Upd.trans hS hXw10
      have hB := hB.trans hXw10
      have hb1 := hb1.up hXw10
      have hU0 := hU0.ext hXw10
      refine HP.takeG rfl rfl rfl rfl rfl rfl hS (fun wS hS1 => PV.not rfl) ?_
      refine HP.takeG rfl rfl rfl rfl rfl rfl hS (fun wS hS1 => PV.pickT rfl rfl) ?_
      refine HP.take rfl rfl rfl rfl hS (fun wS hS1 => PV.pickF rfl rfl) ?_
      refine HP.doneS ?_
      refine CW.cond rfl (fun hc10 => ?_) (fun hc10 => ?_)
      · skip
        try simp only [decide_eq_true_eq, decide_eq_false_iff_not, Bool.not_eq_true', Bool.not_eq_false', Bool.not_eq_eq_eq_not, Bool.not_true, Bool.not_false, Int.not_lt, Int.not_le, Classical.not_not, beq_iff_eq, beq_eq_false_iff_ne] at hc10
        refine CW.seq ?_
        refine CW.reg ?_
        refine WL.pure rfl rfl rfl (PV.assign rfl) ?_
        refine WL.nilS ?_
        refine CW.ret ?_
        refine RQ.block ?_
        refine RQ.then ?_
        refine RQ.then ?_
        refine RQ.block ?_
        refine RQ.then ?_
        refine RQ.r1 rfl ?_
        refine ⟨?_, hB⟩
        exact bF (by rintro ⟨h1, h2, h3, h4⟩; first | omega | (have h5 := h4 k (by omega); simp only [okR] at h5; omega))
      try simp only [decide_eq_true_eq, decide_eq_false_iff_not, Bool.not_eq_true', Bool.not_eq_false', Bool.not_eq_eq_eq_not, Bool.not_true, Bool.not_false, Int.not_lt, Int.not_le, Classical.not_not, beq_iff_eq, beq_eq_false_iff_ne] at hc10
      refine CW.skip ?_
      refine NQ.block ?_
      refine NQ.then ?_
      refine CW.reg ?_
      refine WL.pure rfl rfl rfl (PV.move rfl) ?_
      refine WL.pure rfl rfl rfl (PV.add rfl rfl (by constructor <;> omega)) ?_
      refine WL.pure rfl rfl rfl (PV.assign rfl) ?_
      refine WL.nil ?_
      refine NQ.next (ρ := [(3, _)]) ⟨rfl, rfl, trivial⟩ ?_
      exact ⟨_, ⟨k + 1, rfl, rfl, hU0, (by first | omega | assumption | (simp_all; done) | (simp_all; omega)), (by intro q h1; by_cases h : q < k; exact hq q h; obtain rfl : q = k := (by omega); simp only [okR]; omega)⟩, by omega⟩
    try simp only [decide_eq_true_eq, decide_eq_false_iff_not, Bool.not_eq_true', Bool.not_eq_false', Bool.not_eq_eq_eq_not, Bool.not_true, Bool.not_false, Int.not_lt, Int.not_le, Classical.not_not, beq_iff_eq, beq_eq_false_iff_ne] at hc8
    refine HP.takeG rfl rfl rfl rfl rfl rfl hS (fun wS hS1 => (by first | exact PV.fieldAddr T.fl67_1 rfl (by first | assumption | exact Bx.cells (by assumption)) | exact PV.fieldAddrP T.fl67_1 rfl rfl)) ?_
    refine HP.takeG rfl rfl rfl rfl rfl rfl hS (fun wS hS1 => (by first | exact PV.load0 T.na2 rfl (by first | exact Cells.up (by assumption) (hBr.trans hS1) | exact Bx.cells (Bx.updD (by assumption) hS1 (Dj.nlR _)) | exact Cells.upd (by assumption) hS1 (by simp)) (Ext.refl _) rfl | exact PV.load1 T.na2 rfl (by first | exact Cells.up (by assumption) (hBr.trans hS1) | exact Bx.cells (Bx.updD (by assumption) hS1 (Dj.nlR _)) | exact Cells.upd (by assumption) hS1 (by simp)) (Ext.refl _) rfl)) ?_
    refine HP.takeG rfl rfl rfl rfl rfl rfl hS (fun wS hS1 => PV.move rfl) ?_
    refine HP.takeG rfl rfl rfl rfl rfl rfl hS (fun wS hS1 => PV.nilCheck rfl) ?_
    refine HP.takeG rfl rfl rfl rfl rfl rfl hS (fun wS hS1 => (by first | exact PV.fieldAddr T.fl29_1 rfl (by first | assumption | exact Bx.cells (by assumption)) | exact PV.fieldAddrP T.fl29_1 rfl rfl)) ?_
    refine HP.takeG rfl rfl rfl rfl rfl rfl hS (fun wS hS1 => (by first | exact PV.load0 T.na2 rfl (by first | exact Cells.up (by assumption) (hBr.trans hS1) | exact Bx.cells (Bx.updD (by assumption) hS1 (Dj.nlR _)) | exact Cells.upd (by assumption) hS1 (by simp)) (Ext.refl _) rfl | exact PV.load1 T.na2 rfl (by first | exact Cells.up (by assumption) (hBr.trans hS1) | exact Bx.cells (Bx.updD (by assumption) hS1 (Dj.nlR _)) | exact Cells.upd (by assumption) hS1 (by simp)) (Ext.refl _) rfl)) ?_
    refine HP.takeG rfl rfl rfl rfl rfl rfl hS (fun wS hS1 => PV.sub rfl rfl (by constructor <;> omega)) ?_
    refine HP.mustG rfl rfl rfl rfl (OpK.callR rfl T.cf89 rfl (c_spec_l00In) (fun w11 hXw11 => ?_))
    refine ⟨Upd.trans hS hXw11, ?_⟩
    have hS := Upd.trans hS hXw11
    have hB := hB.trans hXw11
    have hb1 := hb1.up hXw11
    have hU0 := hU0.ext hXw11
    refine HP.takeG rfl rfl rfl rfl rfl rfl hS (fun wS hS1 => PV.not rfl) ?_
    refine HP.take rfl rfl rfl rfl hS (fun wS hS1 => PV.pickT rfl rfl) ?_
    refine HP.take rfl rfl rfl rfl hS (fun wS hS1 => PV.move rfl) ?_
    refine HP.split (t := 83) rfl (fun hc11 => ?_) (fun hc11 => ?_)
    · skip
      try simp only [decide_eq_true_eq, decide_eq_false_iff_not, Bool.not_eq_true', Bool.not_eq_false', Bool.not_eq_eq_eq_not, Bool.not_true, Bool.not_false, Int.not_lt, Int.not_le, Classical.not_not, beq_iff_eq, beq_eq_false_iff_ne] at hc11
      refine HP.skip rfl rfl rfl rfl rfl rfl hS ?_
      refine HP.skip rfl rfl rfl rfl rfl rfl hS ?_
      refine HP.skip rfl rfl rfl rfl rfl rfl hS ?_
      refine HP.skip rfl rfl rfl rfl rfl rfl hS ?_
      refine HP.skipU rfl rfl rfl rfl rfl rfl hS ?_
      refine HP.skipU rfl rfl rfl rfl rfl rfl hS ?_
      refine HP.skipU rfl rfl rfl rfl rfl rfl hS ?_
      refine HP.skipU rfl rfl rfl rfl rfl rfl hS ?_
      refine HP.skipU rfl rfl rfl rfl rfl rfl hS ?_
      refine HP.skipU rfl rfl rfl rfl rfl rfl hS ?_
      refine HP.skipU rfl rfl rfl rfl rfl rfl hS ?_
      refine HP.skipU rfl rfl rfl rfl rfl rfl hS ?_
      refine HP.skipU rfl rfl rfl rfl rfl rfl hS ?_
      refine HP.skip rfl rfl rfl rfl rfl rfl hS ?_
      refine HP.take rfl rfl rfl rfl hS (fun wS hS1 => PV.pickT rfl rfl) ?_
      refine HP.doneS ?_
      refine CW.condT rfl ?_
      refine CW.seq ?_
      refine CW.reg ?_
      refine WL.pure rfl rfl rfl (PV.assign rfl) ?_
      refine WL.nilS ?_
      refine CW.ret ?_
      refine RQ.block ?_
      refine RQ.then ?_
      refine RQ.then ?_
      refine RQ.block ?_
      refine RQ.then ?_
      refine RQ.r1 rfl ?_
      refine ⟨?_, hB⟩
      exact bF (by rintro ⟨h1, h2, h3, h4⟩; first | omega | (have h5 := h4 k (by omega); simp only [okR] at h5; omega))
    try simp only [decide_eq_true_eq, decide_eq_false_iff_not, Bool.not_eq_true', Bool.not_eq_false', Bool.not_eq_eq_eq_not, Bool.not_true, Bool.not_false, Int.not_lt, Int.not_le, Classical.not_not, beq_iff_eq, beq_eq_false_iff_ne] at hc11
    refine HP.takeG rfl rfl rfl rfl rfl rfl hS (fun wS hS1 => (by first | exact PV.fieldAddr T.fl67_2 rfl (by first | assumption | exact Bx.cells (by assumption)) | exact PV.fieldAddrP T.fl67_2 rfl rfl)) ?_
    refine HP.takeG rfl rfl rfl rfl rfl rfl hS (fun wS hS1 => (by first | exact PV.load0 T.na2 rfl (by first | exact Cells.up (by assumption) (hBr.trans hS1) | exact Bx.cells (Bx.updD (by assumption) hS1 (Dj.nlR _)) | exact Cells.upd (by assumption) hS1 (by simp)) (Ext.refl _) rfl | exact PV.load1 T.na2 rfl (by first | exact Cells.up (by assumption) (hBr.trans hS1) | exact Bx.cells (Bx.updD (by assumption) hS1 (Dj.nlR _)) | exact Cells.upd (by assumption) hS1 (by simp)) (Ext.refl _) rfl)) ?_
    refine HP.takeG rfl rfl rfl rfl rfl rfl hS (fun wS hS1 => PV.geq rfl rfl) ?_
    refine HP.takeG rfl rfl rfl rfl rfl rfl hS (fun wS hS1 => PV.move rfl) ?_
    refine HP.split (t := 87) rfl (fun hc12 => ?_) (fun hc12 => ?_)
    rotate_left
    · skip
      try simp only [decide_eq_true_eq, decide_eq_false_iff_not, Bool.not_eq_true', Bool.not_eq_false', Bool.not_eq_eq_eq_not, Bool.not_true, Bool.not_false, Int.not_lt, Int.not_le, Classical.not_not, beq_iff_eq, beq_eq_false_iff_ne] at hc12
      refine HP.skip rfl rfl rfl rfl rfl rfl hS ?_
      refine HP.skip rfl rfl rfl rfl rfl rfl hS ?_
      refine HP.skip rfl rfl rfl rfl rfl rfl hS ?_
      refine HP.skip rfl rfl rfl rfl rfl rfl hS ?_
      refine HP.skip rfl rfl rfl rfl rfl rfl hS ?_
      refine HP.skip rfl rfl rfl rfl rfl rfl hS ?_
      refine HP.skip rfl rfl rfl rfl rfl rfl hS ?_
      refine HP.skip rfl rfl rfl rfl rfl rfl hS ?_
      refine HP.skip rfl rfl rfl rfl rfl rfl hS ?_
      refine HP.takeG rfl rfl rfl rfl rfl rfl hS (fun wS hS1 => PV.pickF rfl rfl) ?_
      refine HP.take rfl rfl rfl rfl hS (fun wS hS1 => PV.pickF rfl rfl) ?_
      refine HP.doneS ?_
      refine CW.condF rfl ?_
      refine CW.skip ?_
      refine NQ.block ?_
      refine NQ.then ?_
      refine CW.reg ?_
      refine WL.pure rfl rfl rfl (PV.move rfl) ?_
      refine WL.pure rfl rfl rfl (PV.add rfl rfl (by constructor <;> omega)) ?_
      refine WL.pure rfl rfl rfl (PV.assign rfl) ?_
      refine WL.nil ?_
      refine NQ.next (ρ := [(3, _)]) ⟨rfl, rfl, trivial⟩ ?_
      exact ⟨_, ⟨k + 1, rfl, rfl, hU0, (by first | omega | assumption | (simp_all; done) | (simp_all; omega)), (by intro q h1; by_cases h : q < k; exact hq q h; obtain rfl : q = k := (by omega); simp only [okR]; omega)⟩, by omega⟩
    try simp only [decide_eq_true_eq, decide_eq_false_iff_not, Bool.not_eq_true', Bool.not_eq_false', Bool.not_eq_eq_eq_not, Bool.not_true, Bool.not_false, Int.not_lt, Int.not_le, Classical.not_not, beq_iff_eq, beq_eq_false_iff_ne] at hc12
    refine HP.takeG rfl rfl rfl rfl rfl rfl hS (fun wS hS1 => (by first | exact PV.fieldAddr T.fl67_1 rfl (by first | assumption | exact Bx.cells (by assumption)) | exact PV.fieldAddrP T.fl67_1 rfl rfl)) ?_
    refine HP.takeG rfl rfl rfl rfl rfl rfl hS (fun wS hS1 => (by first | exact PV.load0 T.na2 rfl (by first | exact Cells.up (by assumption) (hBr.trans hS1) | exact Bx.cells (Bx.updD (by assumption) hS1 (Dj.nlR _)) | exact Cells.upd (by assumption) hS1 (by simp)) (Ext.refl _) rfl | exact PV.load1 T.na2 rfl (by first | exact Cells.up (by assumption) (hBr.trans hS1) | exact Bx.cells (Bx.updD (by assumption) hS1 (Dj.nlR _)) | exact Cells.upd (by assumption) hS1 (by simp)) (Ext.refl _) rfl)) ?_
    refine HP.takeG rfl rfl rfl rfl rfl rfl hS (fun wS hS1 => PV.move rfl) ?_
    refine HP.takeG rfl rfl rfl rfl rfl rfl hS (fun wS hS1 => PV.nilCheck rfl) ?_
    refine HP.takeG rfl rfl rfl rfl rfl rfl hS (fun wS hS1 => (by first | exact PV.fieldAddr T.fl29_0 rfl (by first | assumption | exact Bx.cells (by assumption)) | exact PV.fieldAddrP T.fl29_0 rfl rfl)) ?_
    refine HP.takeG rfl rfl rfl rfl rfl rfl hS (fun wS hS1 => (by first | exact PV.load0 T.na2 rfl (by first | exact Cells.up (by assumption) (hBr.trans hS1) | exact Bx.cells (Bx.updD (by assumption) hS1 (Dj.nlR _)) | exact Cells.upd (by assumption) hS1 (by simp)) (Ext.refl _) rfl | exact PV.load1 T.na2 rfl (by first | exact Cells.up (by assumption) (hBr.trans hS1) | exact Bx.cells (Bx.updD (by assumption) hS1 (Dj.nlR _)) | exact Cells.upd (by assumption) hS1 (by simp)) (Ext.refl _) rfl)) ?_
    refine HP.takeG rfl rfl rfl rfl rfl rfl hS (fun wS hS1 => PV.sub rfl rfl (by constructor <;> omega)) ?_
    refine HP.mustG rfl rfl rfl rfl (OpK.callR rfl T.cf89 rfl (c_spec_l00In) (fun w12 hXw12 => ?_))
    refine ⟨Upd.trans hS hXw12, ?_⟩
    have hS := Upd.trans hS hXw12
    have hB := hB.trans hXw12
    have hb1 := hb1.up hXw12
    have hU0 := hU0.ext hXw12
    refine HP.takeG rfl rfl rfl rfl rfl rfl hS (fun wS hS1 => PV.not rfl) ?_
    refine HP.takeG rfl rfl rfl rfl rfl rfl hS (fun wS hS1 => PV.pickT rfl rfl) ?_
    refine HP.take rfl rfl rfl rfl hS (fun wS hS1 => PV.pickF rfl rfl) ?_
    refine HP.doneS ?_
    refine CW.cond rfl (fun hc13 => ?_) (fun hc13 => ?_)
    · skip
      try simp only [decide_eq_true_eq, decide_eq_false_iff_not, Bool.not_eq_true', Bool.not_eq_false', Bool.not_eq_eq_eq_not, Bool.not_true, Bool.not_false, Int.not_lt, Int.not_le, Classical.not_not, beq_iff_eq, beq_eq_false_iff_ne] at hc13
      refine CW.seq ?_
      refine CW.reg ?_
      refine WL.pure rfl rfl rfl (PV.assign rfl) ?_
      refine WL.nilS ?_
      refine CW.ret ?_
      refine RQ.block ?_
      refine RQ.then ?_
      refine RQ.then ?_
      refine RQ.block ?_
      refine RQ.then ?_
      refine RQ.r1 rfl ?_
      refine ⟨?_, hB⟩
      exact bF (by rintro ⟨h1, h2, h3, h4⟩; first | omega | (have h5 := h4 k (by omega); simp only [okR] at h5; omega))
    try simp only [decide_eq_true_eq, decide_eq_false_iff_not, Bool.not_eq_true', Bool.not_eq_false', Bool.not_eq_eq_eq_not, Bool.not_true, Bool.not_false, Int.not_lt, Int.not_le, Classical.not_not, beq_iff_eq, beq_eq_false_iff_ne] at hc13
    refine CW.skip ?_
    refine NQ.block ?_
    refine NQ.then ?_
    refine CW.reg ?_
    refine WL.pure rfl rfl rfl (PV.move rfl) ?_
    refine WL.pure rfl rfl rfl (PV.add rfl rfl (by constructor <;> omega)) ?_
    refine WL.pure rfl rfl rfl (PV.assign rfl) ?_
    refine WL.nil ?_
    refine NQ.next (ρ := [(3, _)]) ⟨rfl, rfl, trivial⟩ ?_
    exact ⟨_, ⟨k + 1, rfl, rfl, hU0, (by first | omega | assumption | (simp_all; done) | (simp_all; omega)), (by intro q h1; by_cases h : q < k; exact hq q h; obtain rfl : q = k := (by omega); simp only [okR]; omega)⟩, by omega⟩
  try simp only [decide_eq_true_eq, decide_eq_false_iff_not, Bool.not_eq_true', Bool.not_eq_false', Bool.not_eq_eq_eq_not, Bool.not_true, Bool.not_false, Int.not_lt, Int.not_le, Classical.not_not, beq_iff_eq, beq_eq_false_iff_ne] at hc4
  refine CW.exit ?_
  refine XQ.then ?_
  refine XQ.then ?_
  refine XQ.here ?_
  refine NQ.then ?_
  refine CW.seq ?_
  refine CW.reg ?_
  refine WL.pure rfl rfl rfl (PV.assign rfl) ?_
  refine WL.nilS ?_
  refine CW.ret ?_
  refine RQ.r1 rfl ?_
  refine ⟨?_, hB⟩
  exact bT ⟨by omega, by omega, by omega, fun q h => hq q (by omega)⟩
theorem c_spec_l02None {w : World} {N : Int} (hN : 0 ≤ N ∧ N ≤ 1048576) : Calls Try.prog 99 #[.int .i64 N] w (Ret1 (fun v w' => Ext w w' ∧ ∃ v1 og_v1, v = v1 ∧ Osl VI w' og_v1 v1 (List.replicate N.toNat (-1 : Int)) ∧ Lo w og_v1)) := by
  have hB : Ext w w := Ext.refl w
  refine callsOf (vs := [_]) Try.func99 rfl Try.ntmps99 rfl rfl ?_
  refine CW.seq ?_
  refine CW.reg ?_
  refine WL.pure rfl rfl rfl (PV.assign rfl) ?_
  refine WL.nilS ?_
  refine CW.seq ?_
  refine CW.reg ?_
  refine WL.op rfl (OpK.buildS VI (os := []) [] rfl T.sl38 rfl rfl T.zv2 rfl (by intro z _; rfl) rfl (fun v1 g1 w1 hXw1 ho1 hge1 => ?_))
  have hl1 := Lo.new hB hge1
  have hB := hB.trans hXw1
  refine WL.pure rfl rfl rfl (PV.assign rfl) ?_
  refine WL.nilS ?_
  refine CW.seq ?_
  refine CW.block ?_
  have hlt1 := ho1.ltO
  refine CW.loop (σk := []) (fun ρ wz m => ∃ (v2 : Value) (og2 : Option Nat) (k : Nat), ρ = [(0, .int .i64 (N - (k : Nat))), (3, v2)] ∧ m = N.toNat - k ∧ UpdL [(some g1)] w1 wz ∧ Osl VI wz og2 v2 (List.replicate k (-1 : Int)) ∧ OgR w1 (some g1) og2 ∧ ((k : Int) ≤ N)) (ρ₀ := [(0, _), (3, _)]) (m₀ := _) ⟨rfl, rfl, trivial⟩ ⟨v1, (some g1), 0, (by simp), rfl, (UpdL.refl _ _), osE ho1 (by rfl), OgR.refl _ _, (by first | omega | rfl | (simp; done) | assumption | (simp_all; done))⟩ ?_
  rintro _ wl1 _ ⟨v2, og2, k, rfl, rfl, hU0, ho2, ha2, hk⟩
  have hl2 := Lo.ogr hl1 hB ha2
  have hg0_2 := ha2
  have hk0_2 : OkB [(some g1)] w1 og2 := OkB.ogr (OkB.mem (by simp)) (Nat.le_refl _) ha2
  have hB := hB.loop hU0 ⟨hl1, trivial⟩
  refine CW.seq ?_
  refine CW.seq ?_
  refine CW.reg ?_
  refine WL.pure rfl rfl rfl (PV.move rfl) ?_
  refine WL.pure rfl rfl rfl (PV.gtr rfl rfl) ?_
  refine WL.nilS ?_
  refine CW.cond rfl (fun hc1 => ?_) (fun hc1 => ?_)
  · skip
    try simp only [decide_eq_true_eq, decide_eq_false_iff_not, Bool.not_eq_true', Bool.not_eq_false', Bool.not_eq_eq_eq_not, Bool.not_true, Bool.not_false, Int.not_lt, Int.not_le, Classical.not_not, beq_iff_eq, beq_eq_false_iff_ne] at hc1
    refine CW.skipS ?_
    refine CW.seq ?_
    refine CW.block ?_
    refine CW.reg ?_
    refine WL.pure rfl rfl rfl (PV.move rfl) ?_
    refine WL.op rfl (OpK.buildS VI (os := [.const (.int .i64 (-1))]) [_] rfl T.sl38 rfl rfl T.zv2 rfl (by intro z _; rfl) rfl (fun v3 g3 w2 hXw2 ho3 hge3 => ?_))
    have hl3 := Lo.new hB hge3
    have hd2_3 := Dj.new ho2.ltO hge3
    have hk0_3 := OkN.new hU0 hge3
    have hg0_3 := OgR.new hU0.size hge3
    have hB := hB.trans hXw2
    have ho2 := ho2.up hXw2
    have hU0 := hU0.ext hXw2
    refine WL.op rfl (OpK.appendS (f := VI) rfl T.sl38 T.zv2 rfl rfl ho2 rfl (Osl.src ho3 (fun _ => rfl)) (by first | (simp only [List.length_cons, List.length_nil]; omega) | (simp_all; omega)) (fun v4 og4 w3 hXw3 ho4 hap4 => ?_))
    have hl4 := Lo.app hl2 hB hap4
    have hd3_4 := Dj.app (Dj.symm hd2_3) ho3.ltO hap4
    have hk0_4 := OkN.app hU0 hk0_2 hap4
    have hg0_4 := OgR.app hg0_2 hU0.size hap4
    have hB := hB.updL hXw3 hl2
    have ho3 := ho3.updD hXw3 (Dj.symm hd2_3)
    have hU0 := hU0.step hXw3 hk0_2
    refine WL.pure rfl rfl rfl (PV.assign rfl) ?_
    refine WL.nil ?_
    refine NQ.block ?_
    refine NQ.then ?_
    refine CW.reg ?_
    refine WL.pure rfl rfl rfl (PV.move rfl) ?_
    refine WL.pure rfl rfl rfl (PV.sub rfl rfl (by constructor <;> omega)) ?_
    refine WL.pure rfl rfl rfl (PV.assign rfl) ?_
    refine WL.nil ?_
    refine NQ.next (ρ := [(0, _), (3, _)]) ⟨rfl, rfl, trivial⟩ ?_
    exact ⟨_, ⟨v4, og4, k + 1, (by simp; omega), rfl, hU0, osE ho4 (by exact rep_put _ _), (by first | exact hg0_4 | exact OgR.weak hg0_4), (by first | omega | assumption | (simp_all; done) | (simp_all; omega))⟩, by omega⟩
  try simp only [decide_eq_true_eq, decide_eq_false_iff_not, Bool.not_eq_true', Bool.not_eq_false', Bool.not_eq_eq_eq_not, Bool.not_true, Bool.not_false, Int.not_lt, Int.not_le, Classical.not_not, beq_iff_eq, beq_eq_false_iff_ne] at hc1
  refine CW.exit ?_
  refine XQ.then ?_
  refine XQ.then ?_
  refine XQ.here ?_
  refine NQ.then ?_
  refine CW.seq ?_
  refine CW.reg ?_
  refine WL.pure rfl rfl rfl (PV.move rfl) ?_
  refine WL.pure rfl rfl rfl (PV.assign rfl) ?_
  refine WL.nilS ?_
  refine CW.ret ?_
  refine RQ.r1 rfl ?_
  refine ⟨hB, v2, og2, ?_, osE ho2 ?_, hl2⟩
  · skip
    rfl
  · skip
    rw [show k = N.toNat from (by omega)]
theorem c_spec_l06Given {w : World} {pa : Addr} {a0 : Int} {a1 : Int} {va2 : Value} {xa2 : List R4}  (hba : Cells w pa [.int .i64 a0, .int .i64 a1, va2]) (ha2 : Rd ER w va2 xa2) (hg : gramV a0 a1 xa2) : Calls Try.prog 82 #[.pointer (some pa)] w (Ret1 (fun v w' => Ext w w' ∧ ∃ u1 og_u1 u2 og_u2, v = .tuple #[u1, u2] ∧ Osl VI w' og_u1 u1 ((allC a0 xa2).1) ∧ Lo w og_u1 ∧ Osl VI w' og_u2 u2 ((allC a0 xa2).2) ∧ Lo w og_u2 ∧ Dj og_u1 og_u2)) := by
  have hB : Ext w w := Ext.refl w
  have hla2 := ha2.leI; have hg1 := hg.1; have hg2 := hg.2.1; have hg3 := hg.2.2.1
  refine callsOf (vs := [_]) Try.func82 rfl Try.ntmps82 rfl rfl ?_
  refine CW.seq ?_
  refine CW.reg ?_
  refine WL.pure rfl rfl rfl (PV.assign rfl) ?_
  refine WL.pure rfl rfl rfl (PV.assign rfl) ?_
  refine WL.nilS ?_
  refine CW.seq ?_
  refine CW.reg ?_
  refine WL.pure rfl rfl rfl (PV.move rfl) ?_
  refine WL.pure rfl rfl rfl (PV.nilCheck rfl) ?_
  refine WL.pure rfl rfl rfl ((by first | exact PV.fieldAddr T.fl29_0 rfl (by first | assumption | exact Bx.cells (by assumption)) | exact PV.fieldAddrP T.fl29_0 rfl rfl)) ?_
  refine WL.pure rfl rfl rfl ((by first | exact PV.load0 T.na2 rfl (by first | exact Cells.up (by assumption) hB | exact Bx.cells (by assumption) | assumption) (Ext.refl _) rfl | exact PV.load1 T.na2 rfl (by first | exact Cells.up (by assumption) hB | exact Bx.cells (by assumption) | assumption) (Ext.refl _) rfl)) ?_
  refine WL.op rfl (OpK.call rfl T.cf99 rfl (c_spec_l02None (by first | assumption | omega | (simp only [marks_len, marksB_len, marksR_len]; omega))) (fun rv1 w1 hR => ?_))
  obtain ⟨hXw1, v1, og1, rfl, ho1, hq1⟩ := hR
  have hl1 := Lo.up hq1 hB
  have hB := hB.trans hXw1
  refine WL.pure rfl rfl rfl (PV.assign rfl) ?_
  refine WL.nilS ?_
  refine CW.seq ?_
  refine CW.reg ?_
  refine WL.pure rfl rfl rfl (PV.move rfl) ?_
  refine WL.pure rfl rfl rfl (PV.nilCheck rfl) ?_
  refine WL.pure rfl rfl rfl ((by first | exact PV.fieldAddr T.fl29_0 rfl (by first | assumption | exact Bx.cells (by assumption)) | exact PV.fieldAddrP T.fl29_0 rfl rfl)) ?_
  refine WL.pure rfl rfl rfl ((by first | exact PV.load0 T.na2 rfl (by first | exact Cells.up (by assumption) hB | exact Bx.cells (by assumption) | assumption) (Ext.refl _) rfl | exact PV.load1 T.na2 rfl (by first | exact Cells.up (by assumption) hB | exact Bx.cells (by assumption) | assumption) (Ext.refl _) rfl)) ?_
  refine WL.op rfl (OpK.call rfl T.cf99 rfl (c_spec_l02None (by first | assumption | omega | (simp only [marks_len, marksB_len, marksR_len]; omega))) (fun rv2 w2 hR => ?_))
  obtain ⟨hXw2, v2, og2, rfl, ho2, hq2⟩ := hR
  have hl2 := Lo.up hq2 hB
  have hd1_2 := Dj.lo ho1.ltO hq2
  have hB := hB.trans hXw2
  have ho1 := ho1.up hXw2
  refine WL.pure rfl rfl rfl (PV.assign rfl) ?_
  refine WL.nilS ?_
  refine CW.block ?_
  have hlt1 := ho1.ltO
  have hlt2 := ho2.ltO
  refine CW.loop (σk := [(0, _), (4, _), (5, _)]) (fun ρ wz m => ∃ (t : Nat), ρ = [] ∧ m = a0.toNat + 1 - t ∧ UpdL [og1, og2] w2 wz ∧ Osl VI wz og1 rv1 ((givC a0 xa2 t).1) ∧ Osl VI wz og2 rv2 ((givC a0 xa2 t).2) ∧ (InvC a0 t (givC a0 xa2 t))) (ρ₀ := []) (m₀ := _) ⟨rfl, rfl, rfl, trivial⟩ ⟨0, rfl, rfl, (UpdL.refl _ _), osE ho1 (by rfl), osE ho2 (by rfl), (by exact InvC.zero _ _)⟩ ?_
  rintro _ wl1 _ ⟨t, rfl, rfl, hU0, ho1, ho2, hI⟩
  have hk0_1 : OkB [og1, og2] w2 og1 := OkB.mem (by simp)
  have hk0_2 : OkB [og1, og2] w2 og2 := OkB.mem (by simp)
  have hB := hB.loop hU0 ⟨hl1, hl2, trivial⟩
  have hle := hI.le; have hrg := hI.rng (by omega); have hlo1 := hI.lo1; have hsm := hI.same; have hL1 := hI.l1; have hL2 := hI.l2
  refine CW.block ?_
  refine CW.seq ?_
  refine CW.reg ?_
  refine WL.pure rfl rfl rfl (PV.assign rfl) ?_
  refine WL.nilS ?_
  refine CW.seq ?_
  refine CW.reg ?_
  refine WL.pure rfl rfl rfl (PV.assign rfl) ?_
  refine WL.nilS ?_
  refine CW.seq ?_
  refine CW.seq ?_
  refine CW.reg ?_
  refine WL.pure rfl rfl rfl (PV.assign rfl) ?_
  refine WL.nilS ?_
  refine CW.block ?_
  refine CW.loop (σk := [(0, _), (4, _), (5, _)]) (fun ρ wz m => ∃ (k : Nat) (bb ll : Int), ρ = [(6, .int .i64 bb), (7, .int .i64 ll), (8, .int .i64 (k : Nat))] ∧ m = xa2.length - k ∧ UpdL [] wl1 wz ∧ (k ≤ xa2.length) ∧ (SelI 0 (givC a0 xa2 t).2 xa2 k bb ll) ∧ (-1 ≤ bb ∧ bb < xa2.length) ∧ (bb < 0 → ll = 0)) (ρ₀ := [(6, _), (7, _), (8, _)]) (m₀ := _) ⟨rfl, rfl, rfl, rfl, rfl, rfl, trivial⟩ ⟨0, -1, 0, rfl, rfl, (UpdL.refl _ _), (by first | omega | rfl | (simp; done) | assumption | (simp_all; done)), (by exact SelI.zero _ _ _), (by omega), (by first | omega | rfl | (simp; done) | assumption | (simp_all; done))⟩ ?_
  rintro _ wl2 _ ⟨k, bb, ll, rfl, rfl, hU1, hk, hs, hbb, hbz⟩
  have hU0 := hU0.trans hU1 trivial
  have ho1 := ho1.loop hU1 trivial
  have ho2 := ho2.loop hU1 trivial
  have hB := hB.loop hU1 trivial
  refine CW.seq ?_
  refine CW.seq ?_
  refine CW.reg ?_
  refine WL.pure rfl rfl rfl (PV.move rfl) ?_
  refine WL.pure rfl rfl rfl (PV.move rfl) ?_
  refine WL.pure rfl rfl rfl (PV.nilCheck rfl) ?_
  refine WL.pure rfl rfl rfl ((by first | exact PV.fieldAddr T.fl29_2 rfl (by first | assumption | exact Bx.cells (by assumption)) | exact PV.fieldAddrP T.fl29_2 rfl rfl)) ?_
  refine WL.pure rfl rfl rfl ((by first | exact PV.load0 T.na27 rfl (by first | exact Cells.up (by assumption) hB | exact Bx.cells (by assumption) | assumption) (Ext.refl _) rfl | exact PV.load1 T.na27 rfl (by first | exact Cells.up (by assumption) hB | exact Bx.cells (by assumption) | assumption) (Ext.refl _) rfl)) ?_
  refine WL.pure rfl rfl rfl ((by first | exact PV.len rfl (by assumption) T.sl27 | exact PV.lenOs rfl (by assumption) T.sl27 | exact PV.len rfl (NL.rd (by assumption)) T.sl27)) ?_
  refine WL.pure rfl rfl rfl (PV.lss rfl rfl) ?_
  refine WL.nilS ?_
  refine CW.cond rfl (fun hc1 => ?_) (fun hc1 => ?_)
  · skip
    try simp only [decide_eq_true_eq, decide_eq_false_iff_not, Bool.not_eq_true', Bool.not_eq_false', Bool.not_eq_eq_eq_not, Bool.not_true, Bool.not_false, Int.not_lt, Int.not_le, Classical.not_not, beq_iff_eq, beq_eq_false_iff_ne] at hc1
    refine CW.skipS ?_
    refine CW.seq ?_
    refine CW.block ?_
    refine CW.seq ?_
    refine CW.reg ?_
    refine WL.pure rfl rfl rfl (PV.move rfl) ?_
    refine WL.pure rfl rfl rfl (PV.nilCheck rfl) ?_
    refine WL.pure rfl rfl rfl ((by first | exact PV.fieldAddr T.fl29_2 rfl (by first | assumption | exact Bx.cells (by assumption)) | exact PV.fieldAddrP T.fl29_2 rfl rfl)) ?_
    refine WL.pure rfl rfl rfl ((by first | exact PV.load0 T.na27 rfl (by first | exact Cells.up (by assumption) hB | exact Bx.cells (by assumption) | assumption) (Ext.refl _) rfl | exact PV.load1 T.na27 rfl (by first | exact Cells.up (by assumption) hB | exact Bx.cells (by assumption) | assumption) (Ext.refl _) rfl)) ?_
    refine WL.pure rfl rfl rfl (PV.move rfl) ?_
    first
      | refine WL.at (x := .tmp 34) (y := .tmp 35) (E := ER) ((0, 0, 0, 0)) rfl rfl (by assumption) (by first | omega | (simp; omega) | (simp_all; omega)) (fun p1 csp1 hpp1 hcp1 hq => ?_)
      | refine WL.atZ (x := .tmp 34) (y := .tmp 35) (E := ER) ((0, 0, 0, 0)) rfl rfl (by assumption) (by first | omega | (simp; omega) | (simp_all; omega)) (fun p1 csp1 hpp1 hzp1 hcp1 hq => ?_)
    cases hq
    refine WL.pure rfl rfl rfl ((by first | exact PV.indexAddr hpp1 rfl rfl T.sl27 | exact PV.indexAddr hpp1 rfl (by rw [← hzp1]; rfl) T.sl27)) ?_
    refine WL.pure rfl rfl rfl ((by first | exact PV.loadA T.ag67 rfl (by first | exact Cells.up (by assumption) hB | exact Bx.cells (by assumption) | assumption) (Ext.refl _) rfl | exact PV.loadP (ds := [_, _, _, _]) T.ag67 rfl (by first | exact Cells.up (by assumption) hB | exact Bx.cells (by assumption) | assumption) (Ext.refl _) rfl rfl)) ?_
    refine WL.op rfl (OpK.alloc rfl T.zv67 rfl (fun b5 w3 hXw3 hb5 hge5 => ?_))
    have hl5 := Lo.new hB hge5
    have hd1_5 := Dj.new ho1.ltO hge5
    have hd2_5 := Dj.new ho2.ltO hge5
    have hk0_5 := OkN.new hU0 hge5
    have hg0_5 := OgR.new hU0.size hge5
    have hk1_5 := OkN.new hU1 hge5
    have hg1_5 := OgR.new hU1.size hge5
    have hB := hB.trans hXw3
    have ho1 := ho1.up hXw3
    have ho2 := ho2.up hXw3
    have hU0 := hU0.ext hXw3
    have hU1 := hU1.ext hXw3
    refine WL.op rfl (OpK.storeA T.sz67 rfl rfl rfl rfl (by simp [Value.oneCell'] <;> first | done | (repeat' apply And.intro) <;> first | rfl | exact Osl.oneCell (by assumption) | exact Osn.oneCell (by assumption) | exact Rd.oneCell (by assumption) | exact Rd.oneCell (NL.rd (by assumption)) | assumption) hb5 (fun w4 hXw4 hb5 => ?_))
    have hB := hB.updL hXw4 hl5
    have ho1 := ho1.updD hXw4 hd1_5
    have ho2 := ho2.updD hXw4 hd2_5
    have hU0 := hU0.step hXw4 hk0_5
    have hU1 := hU1.step hXw4 hk1_5
    refine WL.nilS ?_
    refine CW.seq ?_
    refine CW.seq ?_
    refine CW.reg ?_
    have hok := hg.2.2.2 k (by omega); have ok1 := hok.1; have ok2 := hok.2.1; have ok3 := hok.2.2.1; have ok4 := hok.2.2.2.1; have ok5 := hok.2.2.2.2; have hs1 := hsm (xa2.getD k (0, 0, 0, 0)).1.toNat (by omega); have hr1 := hrg (xa2.getD k (0, 0, 0, 0)).2.1.toNat; have hr2 := hrg (xa2.getD k (0, 0, 0, 0)).2.2.1.toNat; have hs2 : 0 ≤ (xa2.getD k (0, 0, 0, 0)).2.2.1 → (((givC a0 xa2 t).1.getD (xa2.getD k (0, 0, 0, 0)).2.1.toNat 0 < 0 ↔ (givC a0 xa2 t).2.getD (xa2.getD k (0, 0, 0, 0)).2.1.toNat 0 < 0) ∧ ((givC a0 xa2 t).1.getD (xa2.getD k (0, 0, 0, 0)).2.2.1.toNat 0 < 0 ↔ (givC a0 xa2 t).2.getD (xa2.getD k (0, 0, 0, 0)).2.2.1.toNat 0 < 0)) := fun h => ⟨hsm _ (by omega), hsm _ (by omega)⟩
    refine WL.pure rfl rfl rfl (PV.move rfl) ?_
    refine WL.pure rfl rfl rfl ((by first | exact PV.fieldAddr T.fl67_0 rfl (by first | assumption | exact Bx.cells (by assumption)) | exact PV.fieldAddrP T.fl67_0 rfl rfl)) ?_
    refine WL.pure rfl rfl rfl ((by first | exact PV.load0 T.na2 rfl (by first | exact Cells.up (by assumption) hB | exact Bx.cells (by assumption) | assumption) (Ext.refl _) rfl | exact PV.load1 T.na2 rfl (by first | exact Cells.up (by assumption) hB | exact Bx.cells (by assumption) | assumption) (Ext.refl _) rfl)) ?_
    first
      | refine WL.atO (x := .tmp 38) (y := .tmp 40) (f := VI) (0) rfl rfl ho1 (by omega) (fun p2 hpp2 hcp2 => ?_)
      | refine WL.atOZ (x := .tmp 38) (y := .tmp 40) (f := VI) (0) rfl rfl ho1 (by omega) (fun p2 hpp2 hzp2 hcp2 => ?_)
    refine WL.pure rfl rfl rfl ((by first | exact PV.indexAddr hpp2 rfl rfl T.sl38 | exact PV.indexAddr hpp2 rfl (by rw [← hzp2]; rfl) T.sl38)) ?_
    refine WL.pure rfl rfl rfl ((by first | exact PV.load0 T.na2 rfl (by first | exact Cells.up (by assumption) hB | exact Bx.cells (by assumption) | assumption) (Ext.refl _) rfl | exact PV.load1 T.na2 rfl (by first | exact Cells.up (by assumption) hB | exact Bx.cells (by assumption) | assumption) (Ext.refl _) rfl)) ?_
    refine WL.pure rfl rfl rfl (PV.geq rfl rfl) ?_
    refine WL.pure rfl rfl rfl (PV.move rfl) ?_
    refine WL.split (t := 44) rfl (fun hc2 => ?_) (fun hc2 => ?_)
    · skip
      try simp only [decide_eq_true_eq, decide_eq_false_iff_not, Bool.not_eq_true', Bool.not_eq_false', Bool.not_eq_eq_eq_not, Bool.not_true, Bool.not_false, Int.not_lt, Int.not_le, Classical.not_not, beq_iff_eq, beq_eq_false_iff_ne] at hc2
      refine WL.skip rfl rfl rfl rfl rfl ?_
      refine WL.skip rfl rfl rfl rfl rfl ?_
      refine WL.skip rfl rfl rfl rfl rfl ?_
      refine WL.skip rfl rfl rfl rfl rfl ?_
      refine WL.skipU rfl rfl rfl rfl rfl ?_
      refine WL.skipU rfl rfl rfl rfl rfl ?_
      refine WL.skipU rfl rfl rfl rfl rfl ?_
      refine WL.skipU rfl rfl rfl rfl rfl ?_
      refine WL.skipU rfl rfl rfl rfl rfl ?_
      refine WL.skipU rfl rfl rfl rfl rfl ?_
      refine WL.skipU rfl rfl rfl rfl rfl ?_
      refine WL.skipU rfl rfl rfl rfl rfl ?_
      refine WL.skipU rfl rfl rfl rfl rfl ?_
      refine WL.skipU rfl rfl rfl rfl rfl ?_
      refine WL.skipU rfl rfl rfl rfl rfl ?_
      refine WL.skipU rfl rfl rfl rfl rfl ?_
      refine WL.skipU rfl rfl rfl rfl rfl ?_
      refine WL.skipU rfl rfl rfl rfl rfl ?_
      refine WL.skip rfl rfl rfl rfl rfl ?_
      refine WL.pure rfl rfl rfl (PV.pickT rfl rfl) ?_
      refine WL.nilS ?_
      refine CW.condT rfl ?_
      refine CW.exit ?_
      refine XQ.then ?_
      refine XQ.here ?_
      refine NQ.then ?_
      refine CW.reg ?_
      refine WL.pure rfl rfl rfl (PV.move rfl) ?_
      refine WL.pure rfl rfl rfl (PV.add rfl rfl (by constructor <;> omega)) ?_
      refine WL.pure rfl rfl rfl (PV.assign rfl) ?_
      refine WL.nil ?_
      refine NQ.next (ρ := [(6, _), (7, _), (8, _)]) ⟨rfl, rfl, rfl, rfl, rfl, rfl, trivial⟩ ?_
      exact ⟨_, ⟨k + 1, bb, ll, rfl, rfl, hU1, (by first | omega | assumption | (simp_all; done) | (simp_all; omega)), (by first | exact hs.no (by rintro ⟨c1, c2⟩; first | omega | (have c3 := c2 (by omega); omega)) | exact hs.keep (by omega) (by unfold valC; first | (rw [if_pos (by omega)]; omega) | (rw [if_neg (by omega)]; omega)) | exact hs.take ⟨by omega, fun c => by omega⟩ (by unfold valC; first | (rw [if_pos (by omega)]; done) | (rw [if_neg (by omega)]; done)) (by omega)), (by omega), (by omega)⟩, by omega⟩
    try simp only [decide_eq_true_eq, decide_eq_false_iff_not, Bool.not_eq_true', Bool.not_eq_false', Bool.not_eq_eq_eq_not, Bool.not_true, Bool.not_false, Int.not_lt, Int.not_le, Classical.not_not, beq_iff_eq, beq_eq_false_iff_ne] at hc2
    refine WL.pureG rfl rfl rfl rfl rfl ((by first | exact PV.fieldAddr T.fl67_2 rfl (by first | assumption | exact Bx.cells (by assumption)) | exact PV.fieldAddrP T.fl67_2 rfl rfl)) ?_
    refine WL.pureG rfl rfl rfl rfl rfl ((by first | exact PV.load0 T.na2 rfl (by first | exact Cells.up (by assumption) hB | exact Bx.cells (by assumption) | assumption) (Ext.refl _) rfl | exact PV.load1 T.na2 rfl (by first | exact Cells.up (by assumption) hB | exact Bx.cells (by assumption) | assumption) (Ext.refl _) rfl)) ?_
    refine WL.pureG rfl rfl rfl rfl rfl (PV.geq rfl rfl) ?_
    refine WL.pureG rfl rfl rfl rfl rfl (PV.move rfl) ?_
    refine WL.split (t := 48) rfl (fun hc3 => ?_) (fun hc3 => ?_)
    rotate_left
    · skip
      try simp only [decide_eq_true_eq, decide_eq_false_iff_not, Bool.not_eq_true', Bool.not_eq_false', Bool.not_eq_eq_eq_not, Bool.not_true, Bool.not_false, Int.not_lt, Int.not_le, Classical.not_not, beq_iff_eq, beq_eq_false_iff_ne] at hc3
      refine WL.skip rfl rfl rfl rfl rfl ?_
      refine WL.skip rfl rfl rfl rfl rfl ?_
      refine WL.skip rfl rfl rfl rfl rfl ?_
      refine WL.skip rfl rfl rfl rfl rfl ?_
      refine WL.skip rfl rfl rfl rfl rfl ?_
      refine WL.skip rfl rfl rfl rfl rfl ?_
      refine WL.skip rfl rfl rfl rfl rfl ?_
      refine WL.skipU rfl rfl rfl rfl rfl ?_
      refine WL.skipU rfl rfl rfl rfl rfl ?_
      refine WL.skipU rfl rfl rfl rfl rfl ?_
      refine WL.skipU rfl rfl rfl rfl rfl ?_
      refine WL.skipU rfl rfl rfl rfl rfl ?_
      refine WL.skipU rfl rfl rfl rfl rfl ?_
      refine WL.skip rfl rfl rfl rfl rfl ?_
      refine WL.pureG rfl rfl rfl rfl rfl (PV.pickF rfl rfl) ?_
      refine WL.pure rfl rfl rfl (PV.pickF rfl rfl) ?_
      refine WL.nilS ?_
      refine CW.condF rfl ?_
      refine CW.skipS ?_
      refine CW.seq ?_
      refine CW.reg ?_
      refine WL.pure rfl rfl rfl ((by first | exact PV.fieldAddr T.fl67_3 rfl (by first | assumption | exact Bx.cells (by assumption)) | exact PV.fieldAddrP T.fl67_3 rfl rfl)) ?_
      refine WL.pure rfl rfl rfl ((by first | exact PV.load0 T.na2 rfl (by first | exact Cells.up (by assumption) hB | exact Bx.cells (by assumption) | assumption) (Ext.refl _) rfl | exact PV.load1 T.na2 rfl (by first | exact Cells.up (by assumption) hB | exact Bx.cells (by assumption) | assumption) (Ext.refl _) rfl)) ?_
      refine WL.pure rfl rfl rfl (PV.assign rfl) ?_
      refine WL.nilS ?_
      refine CW.seq ?_
      refine CW.seq ?_
      refine CW.reg ?_
      refine WL.pure rfl rfl rfl ((by first | exact PV.fieldAddr T.fl67_2 rfl (by first | assumption | exact Bx.cells (by assumption)) | exact PV.fieldAddrP T.fl67_2 rfl rfl)) ?_
      refine WL.pure rfl rfl rfl ((by first | exact PV.load0 T.na2 rfl (by first | exact Cells.up (by assumption) hB | exact Bx.cells (by assumption) | assumption) (Ext.refl _) rfl | exact PV.load1 T.na2 rfl (by first | exact Cells.up (by assumption) hB | exact Bx.cells (by assumption) | assumption) (Ext.refl _) rfl)) ?_
      refine WL.pure rfl rfl rfl (PV.geq rfl rfl) ?_
      refine WL.nilS ?_
      refine CW.cond rfl (fun hc4 => ?_) (fun hc4 => ?_)
      · skip
        try simp only [decide_eq_true_eq, decide_eq_false_iff_not, Bool.not_eq_true', Bool.not_eq_false', Bool.not_eq_eq_eq_not, Bool.not_true, Bool.not_false, Int.not_lt, Int.not_le, Classical.not_not, beq_iff_eq, beq_eq_false_iff_ne] at hc4
        refine CW.draw T.mixed (by kernel_rfl) (fun _ _ _ _ _ h => h) (fun w8 w9 => Upd none w8 w9) 14 (.take 0 (.take 1 (.take 2 (.take 3 (.take 4 (.take 5 (.take 6 (.take 7 (.take 8 (.take 9 (.take 10 (.take 11 (.take 12 (.take 13 .done)))))))))))))) (by kernel_rfl) (fun w5 hXd => ?_)
        have hB := hB.trans hXd
        have ho1 := ho1.up hXd
        have ho2 := ho2.up hXd
        have hb5 := hb5.up hXd
        have hU0 := hU0.ext hXd
        have hU1 := hU1.ext hXd
        have hBr := hB
        have hS : Upd none w5 w5 := Ext.toUpd (Ext.refl _)
        refine HP.take rfl rfl rfl rfl hS (fun wS hS1 => PV.move rfl) ?_
        refine HP.take rfl rfl rfl rfl hS (fun wS hS1 => PV.move rfl) ?_
        refine HP.take rfl rfl rfl rfl hS (fun wS hS1 => (by first | exact PV.fieldAddr T.fl67_1 rfl (by first | assumption | exact Bx.cells (by assumption)) | exact PV.fieldAddrP T.fl67_1 rfl rfl)) ?_
        refine HP.take rfl rfl rfl rfl hS (fun wS hS1 => (by first | exact PV.load0 T.na2 rfl (by first | exact Cells.up (by assumption) (hBr.trans hS1) | exact Bx.cells (Bx.updD (by assumption) hS1 (Dj.nlR _)) | exact Cells.upd (by assumption) hS1 (by simp)) (Ext.refl _) rfl | exact PV.load1 T.na2 rfl (by first | exact Cells.up (by assumption) (hBr.trans hS1) | exact Bx.cells (Bx.updD (by assumption) hS1 (Dj.nlR _)) | exact Cells.upd (by assumption) hS1 (by simp)) (Ext.refl _) rfl)) ?_
        first
          | refine HP.atO (wb := w5) (x := .tmp 71) (y := .tmp 73) (f := VI) (0) rfl rfl (by assumption) (by omega) (fun p3 hpp3 hcp3 => ?_)
          | refine HP.atOZ (wb := w5) (x := .tmp 71) (y := .tmp 73) (f := VI) (0) rfl rfl (by assumption) (by omega) (fun p3 hpp3 hzp3 hcp3 => ?_)
        refine HP.take rfl rfl rfl rfl hS (fun wS hS1 => (by first | exact PV.indexAddr hpp3 rfl rfl T.sl38 | exact PV.indexAddr hpp3 rfl (by rw [← hzp3]; rfl) T.sl38)) ?_
        refine HP.take rfl rfl rfl rfl hS (fun wS hS1 => (by first | exact PV.load0 T.na2 rfl (by first | exact Cells.up (by assumption) (hBr.trans hS1) | exact Bx.cells (Bx.updD (by assumption) hS1 (Dj.nlR _)) | exact Cells.upd (by assumption) hS1 (by simp)) (Ext.refl _) rfl | exact PV.load1 T.na2 rfl (by first | exact Cells.up (by assumption) (hBr.trans hS1) | exact Bx.cells (Bx.updD (by assumption) hS1 (Dj.nlR _)) | exact Cells.upd (by assumption) hS1 (by simp)) (Ext.refl _) rfl)) ?_
        refine HP.take rfl rfl rfl rfl hS (fun wS hS1 => PV.move rfl) ?_
        refine HP.take rfl rfl rfl rfl hS (fun wS hS1 => (by first | exact PV.fieldAddr T.fl67_2 rfl (by first | assumption | exact Bx.cells (by assumption)) | exact PV.fieldAddrP T.fl67_2 rfl rfl)) ?_
        refine HP.take rfl rfl rfl rfl hS (fun wS hS1 => (by first | exact PV.load0 T.na2 rfl (by first | exact Cells.up (by assumption) (hBr.trans hS1) | exact Bx.cells (Bx.updD (by assumption) hS1 (Dj.nlR _)) | exact Cells.upd (by assumption) hS1 (by simp)) (Ext.refl _) rfl | exact PV.load1 T.na2 rfl (by first | exact Cells.up (by assumption) (hBr.trans hS1) | exact Bx.cells (Bx.updD (by assumption) hS1 (Dj.nlR _)) | exact Cells.upd (by assumption) hS1 (by simp)) (Ext.refl _) rfl)) ?_
        first
          | refine HP.atO (wb := w5) (x := .tmp 76) (y := .tmp 78) (f := VI) (0) rfl rfl (by assumption) (by omega) (fun p4 hpp4 hcp4 => ?_)
          | refine HP.atOZ (wb := w5) (x := .tmp 76) (y := .tmp 78) (f := VI) (0) rfl rfl (by assumption) (by omega) (fun p4 hpp4 hzp4 hcp4 => ?_)
        refine HP.take rfl rfl rfl rfl hS (fun wS hS1 => (by first | exact PV.indexAddr hpp4 rfl rfl T.sl38 | exact PV.indexAddr hpp4 rfl (by rw [← hzp4]; rfl) T.sl38)) ?_
        refine HP.take rfl rfl rfl rfl hS (fun wS hS1 => (by first | exact PV.load0 T.na2 rfl (by first | exact Cells.up (by assumption) (hBr.trans hS1) | exact Bx.cells (Bx.updD (by assumption) hS1 (Dj.nlR _)) | exact Cells.upd (by assumption) hS1 (by simp)) (Ext.refl _) rfl | exact PV.load1 T.na2 rfl (by first | exact Cells.up (by assumption) (hBr.trans hS1) | exact Bx.cells (Bx.updD (by assumption) hS1 (Dj.nlR _)) | exact Cells.upd (by assumption) hS1 (by simp)) (Ext.refl _) rfl)) ?_
        refine HP.take rfl rfl rfl rfl hS (fun wS hS1 => PV.add rfl rfl (by constructor <;> omega)) ?_
        refine HP.take rfl rfl rfl rfl hS (fun wS hS1 => PV.add rfl rfl (by constructor <;> omega)) ?_
        refine HP.take rfl rfl rfl rfl hS (fun wS hS1 => PV.assign rfl) ?_
        refine HP.doneS ?_
        refine CW.seq ?_
        refine CW.reg ?_
        refine WL.pure rfl rfl rfl (PV.move rfl) ?_
        refine WL.pure rfl rfl rfl (PV.lss rfl rfl) ?_
        refine WL.pure rfl rfl rfl (PV.move rfl) ?_
        refine WL.split (t := 85) rfl (fun hc5 => ?_) (fun hc5 => ?_)
        · skip
          try simp only [decide_eq_true_eq, decide_eq_false_iff_not, Bool.not_eq_true', Bool.not_eq_false', Bool.not_eq_eq_eq_not, Bool.not_true, Bool.not_false, Int.not_lt, Int.not_le, Classical.not_not, beq_iff_eq, beq_eq_false_iff_ne] at hc5
          refine WL.skip rfl rfl rfl rfl rfl ?_
          refine WL.skip rfl rfl rfl rfl rfl ?_
          refine WL.skip rfl rfl rfl rfl rfl ?_
          refine WL.pure rfl rfl rfl (PV.pickT rfl rfl) ?_
          refine WL.nilS ?_
          refine CW.condT rfl ?_
          refine CW.seq ?_
          refine CW.reg ?_
          refine WL.pure rfl rfl rfl (PV.move rfl) ?_
          refine WL.pure rfl rfl rfl (PV.assign rfl) ?_
          refine WL.nilS ?_
          refine CW.reg ?_
          refine WL.pure rfl rfl rfl (PV.move rfl) ?_
          refine WL.pure rfl rfl rfl (PV.assign rfl) ?_
          refine WL.nil ?_
          refine NQ.block ?_
          refine NQ.then ?_
          refine CW.reg ?_
          refine WL.pure rfl rfl rfl (PV.move rfl) ?_
          refine WL.pure rfl rfl rfl (PV.add rfl rfl (by constructor <;> omega)) ?_
          refine WL.pure rfl rfl rfl (PV.assign rfl) ?_
          refine WL.nil ?_
          refine NQ.next (ρ := [(6, _), (7, _), (8, _)]) ⟨rfl, rfl, rfl, rfl, rfl, rfl, trivial⟩ ?_
          exact ⟨_, ⟨k + 1, k, _, rfl, rfl, hU1, (by first | omega | assumption | (simp_all; done) | (simp_all; omega)), (by first | exact hs.no (by rintro ⟨c1, c2⟩; first | omega | (have c3 := c2 (by omega); omega)) | exact hs.keep (by omega) (by unfold valC; first | (rw [if_pos (by omega)]; omega) | (rw [if_neg (by omega)]; omega)) | exact hs.take ⟨by omega, fun c => by omega⟩ (by unfold valC; first | (rw [if_pos (by omega)]; done) | (rw [if_neg (by omega)]; done)) (by omega)), (by omega), (by omega)⟩, by omega⟩
        try simp only [decide_eq_true_eq, decide_eq_false_iff_not, Bool.not_eq_true', Bool.not_eq_false', Bool.not_eq_eq_eq_not, Bool.not_true, Bool.not_false, Int.not_lt, Int.not_le, Classical.not_not, beq_iff_eq, beq_eq_false_iff_ne] at hc5
        refine WL.pureG rfl rfl rfl rfl rfl (PV.move rfl) ?_
        refine WL.pureG rfl rfl rfl rfl rfl (PV.move rfl) ?_
        refine WL.pureG rfl rfl rfl rfl rfl (PV.lss rfl rfl) ?_
        refine WL.pure rfl rfl rfl (PV.pickF rfl rfl) ?_
        refine WL.nilS ?_
        refine CW.cond rfl (fun hc6 => ?_) (fun hc6 => ?_)
        · skip
          try simp only [decide_eq_true_eq, decide_eq_false_iff_not, Bool.not_eq_true', Bool.not_eq_false', Bool.not_eq_eq_eq_not, Bool.not_true, Bool.not_false, Int.not_lt, Int.not_le, Classical.not_not, beq_iff_eq, beq_eq_false_iff_ne] at hc6
          refine CW.seq ?_
          refine CW.reg ?_
          refine WL.pure rfl rfl rfl (PV.move rfl) ?_
          refine WL.pure rfl rfl rfl (PV.assign rfl) ?_
          refine WL.nilS ?_
          refine CW.reg ?_
          refine WL.pure rfl rfl rfl (PV.move rfl) ?_
          refine WL.pure rfl rfl rfl (PV.assign rfl) ?_
          refine WL.nil ?_
          refine NQ.block ?_
          refine NQ.then ?_
          refine CW.reg ?_
          refine WL.pure rfl rfl rfl (PV.move rfl) ?_
          refine WL.pure rfl rfl rfl (PV.add rfl rfl (by constructor <;> omega)) ?_
          refine WL.pure rfl rfl rfl (PV.assign rfl) ?_
          refine WL.nil ?_
          refine NQ.next (ρ := [(6, _), (7, _), (8, _)]) ⟨rfl, rfl, rfl, rfl, rfl, rfl, trivial⟩ ?_
          exact ⟨_, ⟨k + 1, k, _, rfl, rfl, hU1, (by first | omega | assumption | (simp_all; done) | (simp_all; omega)), (by first | exact hs.no (by rintro ⟨c1, c2⟩; first | omega | (have c3 := c2 (by omega); omega)) | exact hs.keep (by omega) (by unfold valC; first | (rw [if_pos (by omega)]; omega) | (rw [if_neg (by omega)]; omega)) | exact hs.take ⟨by omega, fun c => by omega⟩ (by unfold valC; first | (rw [if_pos (by omega)]; done) | (rw [if_neg (by omega)]; done)) (by omega)), (by omega), (by omega)⟩, by omega⟩
        try simp only [decide_eq_true_eq, decide_eq_false_iff_not, Bool.not_eq_true', Bool.not_eq_false', Bool.not_eq_eq_eq_not, Bool.not_true, Bool.not_false, Int.not_lt, Int.not_le, Classical.not_not, beq_iff_eq, beq_eq_false_iff_ne] at hc6
        refine CW.skip ?_
        refine NQ.block ?_
        refine NQ.then ?_
        refine CW.reg ?_
        refine WL.pure rfl rfl rfl (PV.move rfl) ?_
        refine WL.pure rfl rfl rfl (PV.add rfl rfl (by constructor <;> omega)) ?_
        refine WL.pure rfl rfl rfl (PV.assign rfl) ?_
        refine WL.nil ?_
        refine NQ.next (ρ := [(6, _), (7, _), (8, _)]) ⟨rfl, rfl, rfl, rfl, rfl, rfl, trivial⟩ ?_
        exact ⟨_, ⟨k + 1, bb, ll, rfl, rfl, hU1, (by first | omega | assumption | (simp_all; done) | (simp_all; omega)), (by first | exact hs.no (by rintro ⟨c1, c2⟩; first | omega | (have c3 := c2 (by omega); omega)) | exact hs.keep (by omega) (by unfold valC; first | (rw [if_pos (by omega)]; omega) | (rw [if_neg (by omega)]; omega)) | exact hs.take ⟨by omega, fun c => by omega⟩ (by unfold valC; first | (rw [if_pos (by omega)]; done) | (rw [if_neg (by omega)]; done)) (by omega)), (by omega), (by omega)⟩, by omega⟩
      try simp only [decide_eq_true_eq, decide_eq_false_iff_not, Bool.not_eq_true', Bool.not_eq_false', Bool.not_eq_eq_eq_not, Bool.not_true, Bool.not_false, Int.not_lt, Int.not_le, Classical.not_not, beq_iff_eq, beq_eq_false_iff_ne] at hc4
      refine CW.skipS ?_
      refine CW.seq ?_
      refine CW.reg ?_
      refine WL.pure rfl rfl rfl (PV.move rfl) ?_
      refine WL.pure rfl rfl rfl (PV.lss rfl rfl) ?_
      refine WL.pure rfl rfl rfl (PV.move rfl) ?_
      refine WL.split (t := 85) rfl (fun hc7 => ?_) (fun hc7 => ?_)
      · skip
        try simp only [decide_eq_true_eq, decide_eq_false_iff_not, Bool.not_eq_true', Bool.not_eq_false', Bool.not_eq_eq_eq_not, Bool.not_true, Bool.not_false, Int.not_lt, Int.not_le, Classical.not_not, beq_iff_eq, beq_eq_false_iff_ne] at hc7
        refine WL.skip rfl rfl rfl rfl rfl ?_
        refine WL.skip rfl rfl rfl rfl rfl ?_
        refine WL.skip rfl rfl rfl rfl rfl ?_
        refine WL.pure rfl rfl rfl (PV.pickT rfl rfl) ?_
        refine WL.nilS ?_
        refine CW.condT rfl ?_
        refine CW.seq ?_
        refine CW.reg ?_
        refine WL.pure rfl rfl rfl (PV.move rfl) ?_
        refine WL.pure rfl rfl rfl (PV.assign rfl) ?_
        refine WL.nilS ?_
        refine CW.reg ?_
        refine WL.pure rfl rfl rfl (PV.move rfl) ?_
        refine WL.pure rfl rfl rfl (PV.assign rfl) ?_
        refine WL.nil ?_
        refine NQ.block ?_
        refine NQ.then ?_
        refine CW.reg ?_
        refine WL.pure rfl rfl rfl (PV.move rfl) ?_
        refine WL.pure rfl rfl rfl (PV.add rfl rfl (by constructor <;> omega)) ?_
        refine WL.pure rfl rfl rfl (PV.assign rfl) ?_
        refine WL.nil ?_
        refine NQ.next (ρ := [(6, _), (7, _), (8, _)]) ⟨rfl, rfl, rfl, rfl, rfl, rfl, trivial⟩ ?_
        exact ⟨_, ⟨k + 1, k, _, rfl, rfl, hU1, (by first | omega | assumption | (simp_all; done) | (simp_all; omega)), (by first | exact hs.no (by rintro ⟨c1, c2⟩; first | omega | (have c3 := c2 (by omega); omega)) | exact hs.keep (by omega) (by unfold valC; first | (rw [if_pos (by omega)]; omega) | (rw [if_neg (by omega)]; omega)) | exact hs.take ⟨by omega, fun c => by omega⟩ (by unfold valC; first | (rw [if_pos (by omega)]; done) | (rw [if_neg (by omega)]; done)) (by omega)), (by omega), (by omega)⟩, by omega⟩
      try simp only [decide_eq_true_eq, decide_eq_false_iff_not, Bool.not_eq_true', Bool.not_eq_false', Bool.not_eq_eq_eq_not, Bool.not_true, Bool.not_false, Int.not_lt, Int.not_le, Classical.not_not, beq_iff_eq, beq_eq_false_iff_ne] at hc7
      refine WL.pureG rfl rfl rfl rfl rfl (PV.move rfl) ?_
      refine WL.pureG rfl rfl rfl rfl rfl (PV.move rfl) ?_
      refine WL.pureG rfl rfl rfl rfl rfl (PV.lss rfl rfl) ?_
      refine WL.pure rfl rfl rfl (PV.pickF rfl rfl) ?_
      refine WL.nilS ?_
      refine CW.cond rfl (fun hc8 => ?_) (fun hc8 => ?_)
      · skip
        try simp only [decide_eq_true_eq, decide_eq_false_iff_not, Bool.not_eq_true', Bool.not_eq_false', Bool.not_eq_eq_eq_not, Bool.not_true, Bool.not_false, Int.not_lt, Int.not_le, Classical.not_not, beq_iff_eq, beq_eq_false_iff_ne] at hc8
        refine CW.seq ?_
        refine CW.reg ?_
        refine WL.pure rfl rfl rfl (PV.move rfl) ?_
        refine WL.pure rfl rfl rfl (PV.assign rfl) ?_
        refine WL.nilS ?_
        refine CW.reg ?_
        refine WL.pure rfl rfl rfl (PV.move rfl) ?_
        refine WL.pure rfl rfl rfl (PV.assign rfl) ?_
        refine WL.nil ?_
        refine NQ.block ?_
        refine NQ.then ?_
        refine CW.reg ?_
        refine WL.pure rfl rfl rfl (PV.move rfl) ?_
        refine WL.pure rfl rfl rfl (PV.add rfl rfl (by constructor <;> omega)) ?_
        refine WL.pure rfl rfl rfl (PV.assign rfl) ?_
        refine WL.nil ?_
        refine NQ.next (ρ := [(6, _), (7, _), (8, _)]) ⟨rfl, rfl, rfl, rfl, rfl, rfl, trivial⟩ ?_
        exact ⟨_, ⟨k + 1, k, _, rfl, rfl, hU1, (by first | omega | assumption | (simp_all; done) | (simp_all; omega)), (by first | exact hs.no (by rintro ⟨c1, c2⟩; first | omega | (have c3 := c2 (by omega); omega)) | exact hs.keep (by omega) (by unfold valC; first | (rw [if_pos (by omega)]; omega) | (rw [if_neg (by omega)]; omega)) | exact hs.take ⟨by omega, fun c => by omega⟩ (by unfold valC; first | (rw [if_pos (by omega)]; done) | (rw [if_neg (by omega)]; done)) (by omega)), (by omega), (by omega)⟩, by omega⟩
      try simp only [decide_eq_true_eq, decide_eq_false_iff_not, Bool.not_eq_true', Bool.not_eq_false', Bool.not_eq_eq_eq_not, Bool.not_true, Bool.not_false, Int.not_lt, Int.not_le, Classical.not_not, beq_iff_eq, beq_eq_false_iff_ne] at hc8
      refine CW.skip ?_
      refine NQ.block ?_
      refine NQ.then ?_
      refine CW.reg ?_
      refine WL.pure rfl rfl rfl (PV.move rfl) ?_
      refine WL.pure rfl rfl rfl (PV.add rfl rfl (by constructor <;> omega)) ?_
      refine WL.pure rfl rfl rfl (PV.assign rfl) ?_
      refine WL.nil ?_
      refine NQ.next (ρ := [(6, _), (7, _), (8, _)]) ⟨rfl, rfl, rfl, rfl, rfl, rfl, trivial⟩ ?_
      exact ⟨_, ⟨k + 1, bb, ll, rfl, rfl, hU1, (by first | omega | assumption | (simp_all; done) | (simp_all; omega)), (by first | exact hs.no (by rintro ⟨c1, c2⟩; first | omega | (have c3 := c2 (by omega); omega)) | exact hs.keep (by omega) (by unfold valC; first | (rw [if_pos (by omega)]; omega) | (rw [if_neg (by omega)]; omega)) | exact hs.take ⟨by omega, fun c => by omega⟩ (by unfold valC; first | (rw [if_pos (by omega)]; done) | (rw [if_neg (by omega)]; done)) (by omega)), (by omega), (by omega)⟩, by omega⟩
    try simp only [decide_eq_true_eq, decide_eq_false_iff_not, Bool.not_eq_true', Bool.not_eq_false', Bool.not_eq_eq_eq_not, Bool.not_true, Bool.not_false, Int.not_lt, Int.not_le, Classical.not_not, beq_iff_eq, beq_eq_false_iff_ne] at hc3
    refine WL.pureG rfl rfl rfl rfl rfl (PV.move rfl) ?_
    refine WL.pureG rfl rfl rfl rfl rfl ((by first | exact PV.fieldAddr T.fl67_1 rfl (by first | assumption | exact Bx.cells (by assumption)) | exact PV.fieldAddrP T.fl67_1 rfl rfl)) ?_
    refine WL.pureG rfl rfl rfl rfl rfl ((by first | exact PV.load0 T.na2 rfl (by first | exact Cells.up (by assumption) hB | exact Bx.cells (by assumption) | assumption) (Ext.refl _) rfl | exact PV.load1 T.na2 rfl (by first | exact Cells.up (by assumption) hB | exact Bx.cells (by assumption) | assumption) (Ext.refl _) rfl)) ?_
    first
      | refine WL.atO (x := .tmp 49) (y := .tmp 51) (f := VI) (0) rfl rfl ho1 (by omega) (fun p5 hpp5 hcp5 => ?_)
      | refine WL.atOZ (x := .tmp 49) (y := .tmp 51) (f := VI) (0) rfl rfl ho1 (by omega) (fun p5 hpp5 hzp5 hcp5 => ?_)
    refine WL.pureG rfl rfl rfl rfl rfl ((by first | exact PV.indexAddr hpp5 rfl rfl T.sl38 | exact PV.indexAddr hpp5 rfl (by rw [← hzp5]; rfl) T.sl38)) ?_
    refine WL.pureG rfl rfl rfl rfl rfl ((by first | exact PV.load0 T.na2 rfl (by first | exact Cells.up (by assumption) hB | exact Bx.cells (by assumption) | assumption) (Ext.refl _) rfl | exact PV.load1 T.na2 rfl (by first | exact Cells.up (by assumption) hB | exact Bx.cells (by assumption) | assumption) (Ext.refl _) rfl)) ?_
    refine WL.pureG rfl rfl rfl rfl rfl (PV.lss rfl rfl) ?_
    refine WL.pureG rfl rfl rfl rfl rfl (PV.move rfl) ?_
    refine WL.split (t := 55) rfl (fun hc9 => ?_) (fun hc9 => ?_)
    · skip
      try simp only [decide_eq_true_eq, decide_eq_false_iff_not, Bool.not_eq_true', Bool.not_eq_false', Bool.not_eq_eq_eq_not, Bool.not_true, Bool.not_false, Int.not_lt, Int.not_le, Classical.not_not, beq_iff_eq, beq_eq_false_iff_ne] at hc9
      refine WL.skip rfl rfl rfl rfl rfl ?_
      refine WL.skip rfl rfl rfl rfl rfl ?_
      refine WL.skip rfl rfl rfl rfl rfl ?_
      refine WL.skip rfl rfl rfl rfl rfl ?_
      refine WL.skip rfl rfl rfl rfl rfl ?_
      refine WL.skip rfl rfl rfl rfl rfl ?_
      refine WL.pureG rfl rfl rfl rfl rfl (PV.pickT rfl rfl) ?_
      refine WL.pureG rfl rfl rfl rfl rfl (PV.pickT rfl rfl) ?_
      refine WL.pure rfl rfl rfl (PV.pickF rfl rfl) ?_
      refine WL.nilS ?_
      refine CW.condT rfl ?_
      refine CW.exit ?_
      refine XQ.then ?_
      refine XQ.here ?_
      refine NQ.then ?_
      refine CW.reg ?_
      refine WL.pure rfl rfl rfl (PV.move rfl) ?_
      refine WL.pure rfl rfl rfl (PV.add rfl rfl (by constructor <;> omega)) ?_
      refine WL.pure rfl rfl rfl (PV.assign rfl) ?_
      refine WL.nil ?_
      refine NQ.next (ρ := [(6, _), (7, _), (8, _)]) ⟨rfl, rfl, rfl, rfl, rfl, rfl, trivial⟩ ?_
      exact ⟨_, ⟨k + 1, bb, ll, rfl, rfl, hU1, (by first | omega | assumption | (simp_all; done) | (simp_all; omega)), (by first | exact hs.no (by rintro ⟨c1, c2⟩; first | omega | (have c3 := c2 (by omega); omega)) | exact hs.keep (by omega) (by unfold valC; first | (rw [if_pos (by omega)]; omega) | (rw [if_neg (by omega)]; omega)) | exact hs.take ⟨by omega, fun c => by omega⟩ (by unfold valC; first | (rw [if_pos (by omega)]; done) | (rw [if_neg (by omega)]; done)) (by omega)), (by omega), (by omega)⟩, by omega⟩
    try simp only [decide_eq_true_eq, decide_eq_false_iff_not, Bool.not_eq_true', Bool.not_eq_false', Bool.not_eq_eq_eq_not, Bool.not_true, Bool.not_false, Int.not_lt, Int.not_le, Classical.not_not, beq_iff_eq, beq_eq_false_iff_ne] at hc9
    refine WL.pureG rfl rfl rfl rfl rfl (PV.move rfl) ?_
    refine WL.pureG rfl rfl rfl rfl rfl ((by first | exact PV.fieldAddr T.fl67_2 rfl (by first | assumption | exact Bx.cells (by assumption)) | exact PV.fieldAddrP T.fl67_2 rfl rfl)) ?_
    refine WL.pureG rfl rfl rfl rfl rfl ((by first | exact PV.load0 T.na2 rfl (by first | exact Cells.up (by assumption) hB | exact Bx.cells (by assumption) | assumption) (Ext.refl _) rfl | exact PV.load1 T.na2 rfl (by first | exact Cells.up (by assumption) hB | exact Bx.cells (by assumption) | assumption) (Ext.refl _) rfl)) ?_
    first
      | refine WL.atO (x := .tmp 56) (y := .tmp 58) (f := VI) (0) rfl rfl ho1 (by omega) (fun p6 hpp6 hcp6 => ?_)
      | refine WL.atOZ (x := .tmp 56) (y := .tmp 58) (f := VI) (0) rfl rfl ho1 (by omega) (fun p6 hpp6 hzp6 hcp6 => ?_)
    refine WL.pureG rfl rfl rfl rfl rfl ((by first | exact PV.indexAddr hpp6 rfl rfl T.sl38 | exact PV.indexAddr hpp6 rfl (by rw [← hzp6]; rfl) T.sl38)) ?_
    refine WL.pureG rfl rfl rfl rfl rfl ((by first | exact PV.load0 T.na2 rfl (by first | exact Cells.up (by assumption) hB | exact Bx.cells (by assumption) | assumption) (Ext.refl _) rfl | exact PV.load1 T.na2 rfl (by first | exact Cells.up (by assumption) hB | exact Bx.cells (by assumption) | assumption) (Ext.refl _) rfl)) ?_
    refine WL.pureG rfl rfl rfl rfl rfl (PV.lss rfl rfl) ?_
    refine WL.pureG rfl rfl rfl rfl rfl (PV.pickF rfl rfl) ?_
    refine WL.pureG rfl rfl rfl rfl rfl (PV.pickT rfl rfl) ?_
    refine WL.pure rfl rfl rfl (PV.pickF rfl rfl) ?_
    refine WL.nilS ?_
    refine CW.cond rfl (fun hc10 => ?_) (fun hc10 => ?_)
    · skip
      try simp only [decide_eq_true_eq, decide_eq_false_iff_not, Bool.not_eq_true', Bool.not_eq_false', Bool.not_eq_eq_eq_not, Bool.not_true, Bool.not_false, Int.not_lt, Int.not_le, Classical.not_not, beq_iff_eq, beq_eq_false_iff_ne] at hc10
      refine CW.exit ?_
      refine XQ.then ?_
      refine XQ.here ?_
      refine NQ.then ?_
      refine CW.reg ?_
      refine WL.pure rfl rfl rfl (PV.move rfl) ?_
      refine WL.pure rfl rfl rfl (PV.add rfl rfl (by constructor <;> omega)) ?_
      refine WL.pure rfl rfl rfl (PV.assign rfl) ?_
      refine WL.nil ?_
      refine NQ.next (ρ := [(6, _), (7, _), (8, _)]) ⟨rfl, rfl, rfl, rfl, rfl, rfl, trivial⟩ ?_
      exact ⟨_, ⟨k + 1, bb, ll, rfl, rfl, hU1, (by first | omega | assumption | (simp_all; done) | (simp_all; omega)), (by first | exact hs.no (by rintro ⟨c1, c2⟩; first | omega | (have c3 := c2 (by omega); omega)) | exact hs.keep (by omega) (by unfold valC; first | (rw [if_pos (by omega)]; omega) | (rw [if_neg (by omega)]; omega)) | exact hs.take ⟨by omega, fun c => by omega⟩ (by unfold valC; first | (rw [if_pos (by omega)]; done) | (rw [if_neg (by omega)]; done)) (by omega)), (by omega), (by omega)⟩, by omega⟩
    try simp only [decide_eq_true_eq, decide_eq_false_iff_not, Bool.not_eq_true', Bool.not_eq_false', Bool.not_eq_eq_eq_not, Bool.not_true, Bool.not_false, Int.not_lt, Int.not_le, Classical.not_not, beq_iff_eq, beq_eq_false_iff_ne] at hc10
    refine CW.skipS ?_
    refine CW.seq ?_
    refine CW.reg ?_
    refine WL.pure rfl rfl rfl ((by first | exact PV.fieldAddr T.fl67_3 rfl (by first | assumption | exact Bx.cells (by assumption)) | exact PV.fieldAddrP T.fl67_3 rfl rfl)) ?_
    refine WL.pure rfl rfl rfl ((by first | exact PV.load0 T.na2 rfl (by first | exact Cells.up (by assumption) hB | exact Bx.cells (by assumption) | assumption) (Ext.refl _) rfl | exact PV.load1 T.na2 rfl (by first | exact Cells.up (by assumption) hB | exact Bx.cells (by assumption) | assumption) (Ext.refl _) rfl)) ?_
    refine WL.pure rfl rfl rfl (PV.assign rfl) ?_
    refine WL.nilS ?_
    refine CW.seq ?_
    refine CW.seq ?_
    refine CW.reg ?_
    refine WL.pure rfl rfl rfl ((by first | exact PV.fieldAddr T.fl67_2 rfl (by first | assumption | exact Bx.cells (by assumption)) | exact PV.fieldAddrP T.fl67_2 rfl rfl)) ?_
    refine WL.pure rfl rfl rfl ((by first | exact PV.load0 T.na2 rfl (by first | exact Cells.up (by assumption) hB | exact Bx.cells (by assumption) | assumption) (Ext.refl _) rfl | exact PV.load1 T.na2 rfl (by first | exact Cells.up (by assumption) hB | exact Bx.cells (by assumption) | assumption) (Ext.refl _) rfl)) ?_
    refine WL.pure rfl rfl rfl (PV.geq rfl rfl) ?_
    refine WL.nilS ?_
    refine CW.cond rfl (fun hc11 => ?_) (fun hc11 => ?_)
    · skip
      try simp only [decide_eq_true_eq, decide_eq_false_iff_not, Bool.not_eq_true', Bool.not_eq_false', Bool.not_eq_eq_eq_not, Bool.not_true, Bool.not_false, Int.not_lt, Int.not_le, Classical.not_not, beq_iff_eq, beq_eq_false_iff_ne] at hc11
      refine CW.draw T.mixed (by kernel_rfl) (fun _ _ _ _ _ h => h) (fun w8 w9 => Upd none w8 w9) 14 (.take 0 (.take 1 (.take 2 (.take 3 (.take 4 (.take 5 (.take 6 (.take 7 (.take 8 (.take 9 (.take 10 (.take 11 (.take 12 (.take 13 .done)))))))))))))) (by kernel_rfl) (fun w6 hXd => ?_)
      have hB := hB.trans hXd
      have ho1 := ho1.up hXd
      have ho2 := ho2.up hXd
      have hb5 := hb5.up hXd
      have hU0 := hU0.ext hXd
      have hU1 := hU1.ext hXd
      have hBr := hB
      have hS : Upd none w6 w6 := Ext.toUpd (Ext.refl _)
      refine HP.take rfl rfl rfl rfl hS (fun wS hS1 => PV.move rfl) ?_
      refine HP.take rfl rfl rfl rfl hS (fun wS hS1 => PV.move rfl) ?_
      refine HP.take rfl rfl rfl rfl hS (fun wS hS1 => (by first | exact PV.fieldAddr T.fl67_1 rfl (by first | assumption | exact Bx.cells (by assumption)) | exact PV.fieldAddrP T.fl67_1 rfl rfl)) ?_
      refine HP.take rfl rfl rfl rfl hS (fun wS hS1 => (by first | exact PV.load0 T.na2 rfl (by first | exact Cells.up (by assumption) (hBr.trans hS1) | exact Bx.cells (Bx.updD (by assumption) hS1 (Dj.nlR _)) | exact Cells.upd (by assumption) hS1 (by simp)) (Ext.refl _) rfl | exact PV.load1 T.na2 rfl (by first | exact Cells.up (by assumption) (hBr.trans hS1) | exact Bx.cells (Bx.updD (by assumption) hS1 (Dj.nlR _)) | exact Cells.upd (by assumption) hS1 (by simp)) (Ext.refl _) rfl)) ?_
      first
        | refine HP.atO (wb := w6) (x := .tmp 71) (y := .tmp 73) (f := VI) (0) rfl rfl (by assumption) (by omega) (fun p7 hpp7 hcp7 => ?_)
        | refine HP.atOZ (wb := w6) (x := .tmp 71) (y := .tmp 73) (f := VI) (0) rfl rfl (by assumption) (by omega) (fun p7 hpp7 hzp7 hcp7 => ?_)
      refine HP.take rfl rfl rfl rfl hS (fun wS hS1 => (by first | exact PV.indexAddr hpp7 rfl rfl T.sl38 | exact PV.indexAddr hpp7 rfl (by rw [← hzp7]; rfl) T.sl38)) ?_
      refine HP.take rfl rfl rfl rfl hS (fun wS hS1 => (by first | exact PV.load0 T.na2 rfl (by first | exact Cells.up (by assumption) (hBr.trans hS1) | exact Bx.cells (Bx.updD (by assumption) hS1 (Dj.nlR _)) | exact Cells.upd (by assumption) hS1 (by simp)) (Ext.refl _) rfl | exact PV.load1 T.na2 rfl (by first | exact Cells.up (by assumption) (hBr.trans hS1) | exact Bx.cells (Bx.updD (by assumption) hS1 (Dj.nlR _)) | exact Cells.upd (by assumption) hS1 (by simp)) (Ext.refl _) rfl)) ?_
      refine HP.take rfl rfl rfl rfl hS (fun wS hS1 => PV.move rfl) ?_
      refine HP.take rfl rfl rfl rfl hS (fun wS hS1 => (by first | exact PV.fieldAddr T.fl67_2 rfl (by first | assumption | exact Bx.cells (by assumption)) | exact PV.fieldAddrP T.fl67_2 rfl rfl)) ?_
      refine HP.take rfl rfl rfl rfl hS (fun wS hS1 => (by first | exact PV.load0 T.na2 rfl (by first | exact Cells.up (by assumption) (hBr.trans hS1) | exact Bx.cells (Bx.updD (by assumption) hS1 (Dj.nlR _)) | exact Cells.upd (by assumption) hS1 (by simp)) (Ext.refl _) rfl | exact PV.load1 T.na2 rfl (by first | exact Cells.up (by assumption) (hBr.trans hS1) | exact Bx.cells (Bx.updD (by assumption) hS1 (Dj.nlR _)) | exact Cells.upd (by assumption) hS1 (by simp)) (Ext.refl _) rfl)) ?_
      first
        | refine HP.atO (wb := w6) (x := .tmp 76) (y := .tmp 78) (f := VI) (0) rfl rfl (by assumption) (by omega) (fun p8 hpp8 hcp8 => ?_)
        | refine HP.atOZ (wb := w6) (x := .tmp 76) (y := .tmp 78) (f := VI) (0) rfl rfl (by assumption) (by omega) (fun p8 hpp8 hzp8 hcp8 => ?_)
      refine HP.take rfl rfl rfl rfl hS (fun wS hS1 => (by first | exact PV.indexAddr hpp8 rfl rfl T.sl38 | exact PV.indexAddr hpp8 rfl (by rw [← hzp8]; rfl) T.sl38)) ?_
      refine HP.take rfl rfl rfl rfl hS (fun wS hS1 => (by first | exact PV.load0 T.na2 rfl (by first | exact Cells.up (by assumption) (hBr.trans hS1) | exact Bx.cells (Bx.updD (by assumption) hS1 (Dj.nlR _)) | exact Cells.upd (by assumption) hS1 (by simp)) (Ext.refl _) rfl | exact PV.load1 T.na2 rfl (by first | exact Cells.up (by assumption) (hBr.trans hS1) | exact Bx.cells (Bx.updD (by assumption) hS1 (Dj.nlR _)) | exact Cells.upd (by assumption) hS1 (by simp)) (Ext.refl _) rfl)) ?_
      refine HP.take rfl rfl rfl rfl hS (fun wS hS1 => PV.add rfl rfl (by constructor <;> omega)) ?_
      refine HP.take rfl rfl rfl rfl hS (fun wS hS1 => PV.add rfl rfl (by constructor <;> omega)) ?_
      refine HP.take rfl rfl rfl rfl hS (fun wS hS1 => PV.assign rfl) ?_
      refine HP.doneS ?_
      refine CW.seq ?_
      refine CW.reg ?_
      refine WL.pure rfl rfl rfl (PV.move rfl) ?_
      refine WL.pure rfl rfl rfl (PV.lss rfl rfl) ?_
      refine WL.pure rfl rfl rfl (PV.move rfl) ?_
      refine WL.split (t := 85) rfl (fun hc12 => ?_) (fun hc12 => ?_)
      · skip
        try simp only [decide_eq_true_eq, decide_eq_false_iff_not, Bool.not_eq_true', Bool.not_eq_false', Bool.not_eq_eq_eq_not, Bool.not_true, Bool.not_false, Int.not_lt, Int.not_le, Classical.not_not, beq_iff_eq, beq_eq_false_iff_ne] at hc12
        refine WL.skip rfl rfl rfl rfl rfl ?_
        refine WL.skip rfl rfl rfl rfl rfl ?_
        refine WL.skip rfl rfl rfl rfl rfl ?_
        refine WL.pure rfl rfl rfl (PV.pickT rfl rfl) ?_
        refine WL.nilS ?_
        refine CW.condT rfl ?_
        refine CW.seq ?_
        refine CW.reg ?_
        refine WL.pure rfl rfl rfl (PV.move rfl) ?_
        refine WL.pure rfl rfl rfl (PV.assign rfl) ?_
        refine WL.nilS ?_
        refine CW.reg ?_
        refine WL.pure rfl rfl rfl (PV.move rfl) ?_
        refine WL.pure rfl rfl rfl (PV.assign rfl) ?_
        refine WL.nil ?_
        refine NQ.block ?_
        refine NQ.then ?_
        refine CW.reg ?_
        refine WL.pure rfl rfl rfl (PV.move rfl) ?_
        refine WL.pure rfl rfl rfl (PV.add rfl rfl (by constructor <;> omega)) ?_
        refine WL.pure rfl rfl rfl (PV.assign rfl) ?_
        refine WL.nil ?_
        refine NQ.next (ρ := [(6, _), (7, _), (8, _)]) ⟨rfl, rfl, rfl, rfl, rfl, rfl, trivial⟩ ?_
        exact ⟨_, ⟨k + 1, k, _, rfl, rfl, hU1, (by first | omega | assumption | (simp_all; done) | (simp_all; omega)), (by first | exact hs.no (by rintro ⟨c1, c2⟩; first | omega | (have c3 := c2 (by omega); omega)) | exact hs.keep (by omega) (by unfold valC; first | (rw [if_pos (by omega)]; omega) | (rw [if_neg (by omega)]; omega)) | exact hs.take ⟨by omega, fun c => by omega⟩ (by unfold valC; first | (rw [if_pos (by omega)]; done) | (rw [if_neg (by omega)]; done)) (by omega)), (by omega), (by omega)⟩, by omega⟩
      try simp only [decide_eq_true_eq, decide_eq_false_iff_not, Bool.not_eq_true', Bool.not_eq_false', Bool.not_eq_eq_eq_not, Bool.not_true, Bool.not_false, Int.not_lt, Int.not_le, Classical.not_not, beq_iff_eq, beq_eq_false_iff_ne] at hc12
      refine WL.pureG rfl rfl rfl rfl rfl (PV.move rfl) ?_
      refine WL.pureG rfl rfl rfl rfl rfl (PV.move rfl) ?_
      refine WL.pureG rfl rfl rfl rfl rfl (PV.lss rfl rfl) ?_
      refine WL.pure rfl rfl rfl (PV.pickF rfl rfl) ?_
      refine WL.nilS ?_
      refine CW.cond rfl (fun hc13 => ?_) (fun hc13 => ?_)
      · skip
        try simp only [decide_eq_true_eq, decide_eq_false_iff_not, Bool.not_eq_true', Bool.not_eq_false', Bool.not_eq_eq_eq_not, Bool.not_true, Bool.not_false, Int.not_lt, Int.not_le, Classical.not_not, beq_iff_eq, beq_eq_false_iff_ne] at hc13
        refine CW.seq ?_
        refine CW.reg ?_
        refine WL.pure rfl rfl rfl (PV.move rfl) ?_
        refine WL.pure rfl rfl rfl (PV.assign rfl) ?_
        refine WL.nilS ?_
        refine CW.reg ?_
        refine WL.pure rfl rfl rfl (PV.move rfl) ?_
        refine WL.pure rfl rfl rfl (PV.assign rfl) ?_
        refine WL.nil ?_
        refine NQ.block ?_
        refine NQ.then ?_
        refine CW.reg ?_
        refine WL.pure rfl rfl rfl (PV.move rfl) ?_
        refine WL.pure rfl rfl rfl (PV.add rfl rfl (by constructor <;> omega)) ?_
        refine WL.pure rfl rfl rfl (PV.assign rfl) ?_
        refine WL.nil ?_
        refine NQ.next (ρ := [(6, _), (7, _), (8, _)]) ⟨rfl, rfl, rfl, rfl, rfl, rfl, trivial⟩ ?_
        exact ⟨_, ⟨k + 1, k, _, rfl, rfl, hU1, (by first | omega | assumption | (simp_all; done) | (simp_all; omega)), (by first | exact hs.no (by rintro ⟨c1, c2⟩; first | omega | (have c3 := c2 (by omega); omega)) | exact hs.keep (by omega) (by unfold valC; first | (rw [if_pos (by omega)]; omega) | (rw [if_neg (by omega)]; omega)) | exact hs.take ⟨by omega, fun c => by omega⟩ (by unfold valC; first | (rw [if_pos (by omega)]; done) | (rw [if_neg (by omega)]; done)) (by omega)), (by omega), (by omega)⟩, by omega⟩
      try simp only [decide_eq_true_eq, decide_eq_false_iff_not, Bool.not_eq_true', Bool.not_eq_false', Bool.not_eq_eq_eq_not, Bool.not_true, Bool.not_false, Int.not_lt, Int.not_le, Classical.not_not, beq_iff_eq, beq_eq_false_iff_ne] at hc13
      refine CW.skip ?_
      refine NQ.block ?_
      refine NQ.then ?_
      refine CW.reg ?_
      refine WL.pure rfl rfl rfl (PV.move rfl) ?_
      refine WL.pure rfl rfl rfl (PV.add rfl rfl (by constructor <;> omega)) ?_
      refine WL.pure rfl rfl rfl (PV.assign rfl) ?_
      refine WL.nil ?_
      refine NQ.next (ρ := [(6, _), (7, _), (8, _)]) ⟨rfl, rfl, rfl, rfl, rfl, rfl, trivial⟩ ?_
      exact ⟨_, ⟨k + 1, bb, ll, rfl, rfl, hU1, (by first | omega | assumption | (simp_all; done) | (simp_all; omega)), (by first | exact hs.no (by rintro ⟨c1, c2⟩; first | omega | (have c3 := c2 (by omega); omega)) | exact hs.keep (by omega) (by unfold valC; first | (rw [if_pos (by omega)]; omega) | (rw [if_neg (by omega)]; omega)) | exact hs.take ⟨by omega, fun c => by omega⟩ (by unfold valC; first | (rw [if_pos (by omega)]; done) | (rw [if_neg (by omega)]; done)) (by omega)), (by omega), (by omega)⟩, by omega⟩
    try simp only [decide_eq_true_eq, decide_eq_false_iff_not, Bool.not_eq_true', Bool.not_eq_false', Bool.not_eq_eq_eq_not, Bool.not_true, Bool.not_false, Int.not_lt, Int.not_le, Classical.not_not, beq_iff_eq, beq_eq_false_iff_ne] at hc11
    refine CW.skipS ?_
    refine CW.seq ?_
    refine CW.reg ?_
    refine WL.pure rfl rfl rfl (PV.move rfl) ?_
    refine WL.pure rfl rfl rfl (PV.lss rfl rfl) ?_
    refine WL.pure rfl rfl rfl (PV.move rfl) ?_
    refine WL.split (t := 85) rfl (fun hc14 => ?_) (fun hc14 => ?_)
    · skip
      try simp only [decide_eq_true_eq, decide_eq_false_iff_not, Bool.not_eq_true', Bool.not_eq_false', Bool.not_eq_eq_eq_not, Bool.not_true, Bool.not_false, Int.not_lt, Int.not_le, Classical.not_not, beq_iff_eq, beq_eq_false_iff_ne] at hc14
      refine WL.skip rfl rfl rfl rfl rfl ?_
      refine WL.skip rfl rfl rfl rfl rfl ?_
      refine WL.skip rfl rfl rfl rfl rfl ?_
      refine WL.pure rfl rfl rfl (PV.pickT rfl rfl) ?_
      refine WL.nilS ?_
      refine CW.condT rfl ?_
      refine CW.seq ?_
      refine CW.reg ?_
      refine WL.pure rfl rfl rfl (PV.move rfl) ?_
      refine WL.pure rfl rfl rfl (PV.assign rfl) ?_
      refine WL.nilS ?_
      refine CW.reg ?_
      refine WL.pure rfl rfl rfl (PV.move rfl) ?_
      refine WL.pure rfl rfl rfl (PV.assign rfl) ?_
      refine WL.nil ?_
      refine NQ.block ?_
      refine NQ.then ?_
      refine CW.reg ?_
      refine WL.pure rfl rfl rfl (PV.move rfl) ?_
      refine WL.pure rfl rfl rfl (PV.add rfl rfl (by constructor <;> omega)) ?_
      refine WL.pure rfl rfl rfl (PV.assign rfl) ?_
      refine WL.nil ?_
      refine NQ.next (ρ := [(6, _), (7, _), (8, _)]) ⟨rfl, rfl, rfl, rfl, rfl, rfl, trivial⟩ ?_
      exact ⟨_, ⟨k + 1, k, _, rfl, rfl, hU1, (by first | omega | assumption | (simp_all; done) | (simp_all; omega)), (by first | exact hs.no (by rintro ⟨c1, c2⟩; first | omega | (have c3 := c2 (by omega); omega)) | exact hs.keep (by omega) (by unfold valC; first | (rw [if_pos (by omega)]; omega) | (rw [if_neg (by omega)]; omega)) | exact hs.take ⟨by omega, fun c => by omega⟩ (by unfold valC; first | (rw [if_pos (by omega)]; done) | (rw [if_neg (by omega)]; done)) (by omega)), (by omega), (by omega)⟩, by omega⟩
    try simp only [decide_eq_true_eq, decide_eq_false_iff_not, Bool.not_eq_true', Bool.not_eq_false', Bool.not_eq_eq_eq_not, Bool.not_true, Bool.not_false, Int.not_lt, Int.not_le, Classical.not_not, beq_iff_eq, beq_eq_false_iff_ne] at hc14
    refine WL.pureG rfl rfl rfl rfl rfl (PV.move rfl) ?_
    refine WL.pureG rfl rfl rfl rfl rfl (PV.move rfl) ?_
    refine WL.pureG rfl rfl rfl rfl rfl (PV.lss rfl rfl) ?_
    refine WL.pure rfl rfl rfl (PV.pickF rfl rfl) ?_
    refine WL.nilS ?_
    refine CW.cond rfl (fun hc15 => ?_) (fun hc15 => ?_)
    · skip
      try simp only [decide_eq_true_eq, decide_eq_false_iff_not, Bool.not_eq_true', Bool.not_eq_false', Bool.not_eq_eq_eq_not, Bool.not_true, Bool.not_false, Int.not_lt, Int.not_le, Classical.not_not, beq_iff_eq, beq_eq_false_iff_ne] at hc15
      refine CW.seq ?_
      refine CW.reg ?_
      refine WL.pure rfl rfl rfl (PV.move rfl) ?_
      refine WL.pure rfl rfl rfl (PV.assign rfl) ?_
      refine WL.nilS ?_
      refine CW.reg ?_
      refine WL.pure rfl rfl rfl (PV.move rfl) ?_
      refine WL.pure rfl rfl rfl (PV.assign rfl) ?_
      refine WL.nil ?_
      refine NQ.block ?_
      refine NQ.then ?_
      refine CW.reg ?_
      refine WL.pure rfl rfl rfl (PV.move rfl) ?_
      refine WL.pure rfl rfl rfl (PV.add rfl rfl (by constructor <;> omega)) ?_
      refine WL.pure rfl rfl rfl (PV.assign rfl) ?_
      refine WL.nil ?_
      refine NQ.next (ρ := [(6, _), (7, _), (8, _)]) ⟨rfl, rfl, rfl, rfl, rfl, rfl, trivial⟩ ?_
      exact ⟨_, ⟨k + 1, k, _, rfl, rfl, hU1, (by first | omega | assumption | (simp_all; done) | (simp_all; omega)), (by first | exact hs.no (by rintro ⟨c1, c2⟩; first | omega | (have c3 := c2 (by omega); omega)) | exact hs.keep (by omega) (by unfold valC; first | (rw [if_pos (by omega)]; omega) | (rw [if_neg (by omega)]; omega)) | exact hs.take ⟨by omega, fun c => by omega⟩ (by unfold valC; first | (rw [if_pos (by omega)]; done) | (rw [if_neg (by omega)]; done)) (by omega)), (by omega), (by omega)⟩, by omega⟩
    try simp only [decide_eq_true_eq, decide_eq_false_iff_not, Bool.not_eq_true', Bool.not_eq_false', Bool.not_eq_eq_eq_not, Bool.not_true, Bool.not_false, Int.not_lt, Int.not_le, Classical.not_not, beq_iff_eq, beq_eq_false_iff_ne] at hc15
    refine CW.skip ?_
    refine NQ.block ?_
    refine NQ.then ?_
    refine CW.reg ?_
    refine WL.pure rfl rfl rfl (PV.move rfl) ?_
    refine WL.pure rfl rfl rfl (PV.add rfl rfl (by constructor <;> omega)) ?_
    refine WL.pure rfl rfl rfl (PV.assign rfl) ?_
    refine WL.nil ?_
    refine NQ.next (ρ := [(6, _), (7, _), (8, _)]) ⟨rfl, rfl, rfl, rfl, rfl, rfl, trivial⟩ ?_
    exact ⟨_, ⟨k + 1, bb, ll, rfl, rfl, hU1, (by first | omega | assumption | (simp_all; done) | (simp_all; omega)), (by first | exact hs.no (by rintro ⟨c1, c2⟩; first | omega | (have c3 := c2 (by omega); omega)) | exact hs.keep (by omega) (by unfold valC; first | (rw [if_pos (by omega)]; omega) | (rw [if_neg (by omega)]; omega)) | exact hs.take ⟨by omega, fun c => by omega⟩ (by unfold valC; first | (rw [if_pos (by omega)]; done) | (rw [if_neg (by omega)]; done)) (by omega)), (by omega), (by omega)⟩, by omega⟩
  try simp only [decide_eq_true_eq, decide_eq_false_iff_not, Bool.not_eq_true', Bool.not_eq_false', Bool.not_eq_eq_eq_not, Bool.not_true, Bool.not_false, Int.not_lt, Int.not_le, Classical.not_not, beq_iff_eq, beq_eq_false_iff_ne] at hc1
  refine CW.exit ?_
  refine XQ.then ?_
  refine XQ.then ?_
  refine XQ.here ?_
  refine NQ.then ?_
  refine CW.seq ?_
  refine CW.seq ?_
  refine CW.reg ?_
  obtain rfl : k = xa2.length := (by omega); have hsel := hs
  refine WL.pure rfl rfl rfl (PV.move rfl) ?_
  refine WL.pure rfl rfl rfl (PV.lss rfl rfl) ?_
  refine WL.nilS ?_
  refine CW.cond rfl (fun hc16 => ?_) (fun hc16 => ?_)
  · skip
    try simp only [decide_eq_true_eq, decide_eq_false_iff_not, Bool.not_eq_true', Bool.not_eq_false', Bool.not_eq_eq_eq_not, Bool.not_true, Bool.not_false, Int.not_lt, Int.not_le, Classical.not_not, beq_iff_eq, beq_eq_false_iff_ne] at hc16
    refine CW.seq ?_
    refine CW.reg ?_
    refine WL.pure rfl rfl rfl (PV.move rfl) ?_
    refine WL.pure rfl rfl rfl (PV.move rfl) ?_
    refine WL.pure rfl rfl rfl (PV.assign rfl) ?_
    refine WL.pure rfl rfl rfl (PV.assign rfl) ?_
    refine WL.nilS ?_
    refine CW.ret ?_
    refine RQ.then ?_
    refine RQ.block ?_
    refine RQ.then ?_
    refine RQ.block ?_
    refine RQ.r2 rfl rfl ?_
    refine ⟨hB, rv1, og1, rv2, og2, ?_, osE ho1 ?_, hl1, osE ho2 ?_, hl2, hd1_2⟩
    · skip
      rfl
    · skip
      rw [givC_done hI hsel (by omega)]
    · skip
      rw [givC_done hI hsel (by omega)]
  try simp only [decide_eq_true_eq, decide_eq_false_iff_not, Bool.not_eq_true', Bool.not_eq_false', Bool.not_eq_eq_eq_not, Bool.not_true, Bool.not_false, Int.not_lt, Int.not_le, Classical.not_not, beq_iff_eq, beq_eq_false_iff_ne] at hc16
  refine CW.skipS ?_
  refine CW.seq ?_
  refine CW.reg ?_
  have hrb := hs.rng (by omega); have hokb := hg.2.2.2 bb.toNat (by omega); have hokb1 := hokb.1
  refine WL.pure rfl rfl rfl (PV.move rfl) ?_
  refine WL.pure rfl rfl rfl (PV.nilCheck rfl) ?_
  refine WL.pure rfl rfl rfl ((by first | exact PV.fieldAddr T.fl29_2 rfl (by first | assumption | exact Bx.cells (by assumption)) | exact PV.fieldAddrP T.fl29_2 rfl rfl)) ?_
  refine WL.pure rfl rfl rfl ((by first | exact PV.load0 T.na27 rfl (by first | exact Cells.up (by assumption) hB | exact Bx.cells (by assumption) | assumption) (Ext.refl _) rfl | exact PV.load1 T.na27 rfl (by first | exact Cells.up (by assumption) hB | exact Bx.cells (by assumption) | assumption) (Ext.refl _) rfl)) ?_
  refine WL.pure rfl rfl rfl (PV.move rfl) ?_
  first
    | refine WL.at (x := .tmp 99) (y := .tmp 100) (E := ER) ((0, 0, 0, 0)) rfl rfl (by assumption) (by omega) (fun p9 csp9 hpp9 hcp9 hq => ?_)
    | refine WL.atZ (x := .tmp 99) (y := .tmp 100) (E := ER) ((0, 0, 0, 0)) rfl rfl (by assumption) (by omega) (fun p9 csp9 hpp9 hzp9 hcp9 hq => ?_)
  cases hq
  refine WL.pure rfl rfl rfl ((by first | exact PV.indexAddr hpp9 rfl rfl T.sl27 | exact PV.indexAddr hpp9 rfl (by rw [← hzp9]; rfl) T.sl27)) ?_
  refine WL.pure rfl rfl rfl ((by first | exact PV.fieldAddr T.fl67_0 rfl (by first | assumption | exact Bx.cells (by assumption)) | exact PV.fieldAddrP T.fl67_0 rfl rfl)) ?_
  refine WL.pure rfl rfl rfl ((by first | exact PV.load0 T.na2 rfl (by first | exact Cells.up (by assumption) hB | exact Bx.cells (by assumption) | assumption) (Ext.refl _) rfl | exact PV.load1 T.na2 rfl (by first | exact Cells.up (by assumption) hB | exact Bx.cells (by assumption) | assumption) (Ext.refl _) rfl)) ?_
  refine WL.pure rfl rfl rfl (PV.assign rfl) ?_
  refine WL.nilS ?_
  refine CW.seq ?_
  refine CW.reg ?_
  refine WL.pure rfl rfl rfl (PV.move rfl) ?_
  refine WL.pure rfl rfl rfl (PV.move rfl) ?_
  refine WL.pure rfl rfl rfl (PV.move rfl) ?_
  first
    | refine WL.atO (x := .tmp 104) (y := .tmp 105) (f := VI) (0) rfl rfl ho1 (by omega) (fun p10 hpp10 hcp10 => ?_)
    | refine WL.atOZ (x := .tmp 104) (y := .tmp 105) (f := VI) (0) rfl rfl ho1 (by omega) (fun p10 hpp10 hzp10 hcp10 => ?_)
  refine WL.pure rfl rfl rfl ((by first | exact PV.indexAddr hpp10 rfl rfl T.sl38 | exact PV.indexAddr hpp10 rfl (by rw [← hzp10]; rfl) T.sl38)) ?_
  refine WL.op rfl (OpK.storeS VI T.sz2 rfl rfl rfl hpp10 ho1 (fun w7 hXw7 ho1 => ?_))
  have hB := hB.updL hXw7 hl1
  have ho2 := ho2.updD hXw7 (Dj.symm hd1_2)
  have hU0 := hU0.step hXw7 hk0_1
  refine WL.nilS ?_
  refine CW.reg ?_
  refine WL.pure rfl rfl rfl (PV.move rfl) ?_
  refine WL.pure rfl rfl rfl (PV.move rfl) ?_
  refine WL.pure rfl rfl rfl (PV.move rfl) ?_
  first
    | refine WL.atO (x := .tmp 108) (y := .tmp 109) (f := VI) (0) rfl rfl ho2 (by omega) (fun p11 hpp11 hcp11 => ?_)
    | refine WL.atOZ (x := .tmp 108) (y := .tmp 109) (f := VI) (0) rfl rfl ho2 (by omega) (fun p11 hpp11 hzp11 hcp11 => ?_)
  refine WL.pure rfl rfl rfl ((by first | exact PV.indexAddr hpp11 rfl rfl T.sl38 | exact PV.indexAddr hpp11 rfl (by rw [← hzp11]; rfl) T.sl38)) ?_
  refine WL.op rfl (OpK.storeS VI T.sz2 rfl rfl rfl hpp11 ho2 (fun w8 hXw8 ho2 => ?_))
  have hB := hB.updL hXw8 hl2
  have ho1 := ho1.updD hXw8 hd1_2
  have hU0 := hU0.step hXw8 hk0_2
  refine WL.nil ?_
  refine NQ.block ?_
  refine NQ.next (ρ := []) ⟨rfl, rfl, rfl, trivial⟩ ?_
  exact ⟨_, ⟨t + 1, rfl, rfl, hU0, osE ho1 (by exact (givC_step hsel (by omega)).1), osE ho2 (by exact (givC_step hsel (by omega)).2), (by exact hI.next hg hsel (by omega))⟩, by (have hle2 := (hI.next hg hsel (by omega)).le; omega)⟩
theorem c_spec_l06Made_n : ∀ (m : Nat) {w : World} {b : World} {og : Option Nat} {vo vr : Value} {xs ru : List Int} {d : Nat → Nat} {x : Int} {pg : Addr} {a0 : Int} {a1 : Int} {va2 : Value} {xa2 : List R4}  (hB0 : Ext b w) (ht_vo : Osl VI w og vo (xs)) (htl_vo : Lo b og) (htb_pg : Bx w pg [.int .i64 a0, .int .i64 a1, va2]) (htbd_pg_vo : Dj (some pg.block) og) (ha2 : Rd ER b va2 xa2) (hr : Rd EI b vr ru) (hd : DagC a0 xa2 ru d) (hn : 0 ≤ a0 ∧ a0 ≤ 8) (hx : 0 ≤ x ∧ x < a0) (hx2 : 0 ≤ ru.getD x.toNat 0) (hxl : xs.length ≤ 13), (d x.toNat) < m → Calls Try.prog 84 #[.pointer (some pg), vr, .int .i64 x, vo] w (Ret1 (fun v w' => UpdL [og] w w' ∧ ∃ u og_u, v = u ∧ Osl VI w' og_u u ((xs ++ (wordW xa2 ru x)).take 13) ∧ OgR w og og_u)) := by
  intro m
  induction m with
  | zero => intro _ _ _ _ _ _ _ _ _ _ _ _ _ _ _ _ _ _ _ _ _ _ _ _ _ _ hm; exact absurd hm (Nat.not_lt_zero _)
  | succ m ih =>
  intro w b og vo vr xs ru d x pg a0 a1 va2 xa2 hB0 ht_vo htl_vo htb_pg htbd_pg_vo ha2 hr hd hn hx hx2 hxl hm
  have hB := hB0
  have hkk := hd.ok x hx.1 hx.2 hx2; simp only [ruR] at hkk; have hdl := hd.len; have hdx := hd.le x.toNat; have hpw := Nat.one_le_two_pow (n := d x.toNat)
  refine callsOf (vs := [_, _, _, _]) Try.func84 rfl Try.ntmps84 rfl rfl ?_
  have hUB : UpdL [og] w w := UpdL.refl _ _
  have ho1 := ht_vo
  have hl1 := htl_vo
  have hkB_1 : OkB [og] w og := OkB.mem (by simp)
  have hgB_1 := OgR.refl w og
  have hb2 := htb_pg
  have hd1_2 : Dj og (some pg.block) := by first | assumption | exact Dj.symm (by assumption)
  refine CW.seq ?_
  refine CW.reg ?_
  refine WL.pure rfl rfl rfl (PV.assign rfl) ?_
  refine WL.nilS ?_
  refine CW.seq ?_
  refine CW.seq ?_
  refine CW.reg ?_
  refine WL.pure rfl rfl rfl (PV.move rfl) ?_
  refine WL.pure rfl rfl rfl ((PV.lenOs rfl ho1 T.sl38)) ?_
  refine WL.pure rfl rfl rfl (PV.gtr rfl rfl) ?_
  refine WL.nilS ?_
  refine CW.cond rfl (fun hc1 => ?_) (fun hc1 => ?_)
  · skip
    try simp only [decide_eq_true_eq, decide_eq_false_iff_not, Bool.not_eq_true', Bool.not_eq_false', Bool.not_eq_eq_eq_not, Bool.not_true, Bool.not_false, Int.not_lt, Int.not_le, Classical.not_not, beq_iff_eq, beq_eq_false_iff_ne] at hc1
    refine CW.seq ?_
    refine CW.reg ?_
    refine WL.pure rfl rfl rfl (PV.move rfl) ?_
    refine WL.pure rfl rfl rfl (PV.assign rfl) ?_
    refine WL.nilS ?_
    refine CW.ret ?_
    refine RQ.then ?_
    refine RQ.r1 rfl ?_
    refine ⟨hUB, vo, og, ?_, osE ho1 ?_, hgB_1⟩
    · skip
      first | rfl | exact bT (by omega) | exact bF (by omega) | exact bD (by omega) | exact iE (by omega) | (simp_all; done) | (simp_all; omega) | (simp_all; intros; omega)
    · skip
      first | exact cutW_full (by omega) (by omega) | (rw [wordW_leaf (by assumption)]; exact cutW_leaf (by omega)) | (rw [wordW_node hd hn.2 hx.1 hx.2 hx2 (by simp only [ruR]; omega)]; exact cutW_two _ _ _)
  try simp only [decide_eq_true_eq, decide_eq_false_iff_not, Bool.not_eq_true', Bool.not_eq_false', Bool.not_eq_eq_eq_not, Bool.not_true, Bool.not_false, Int.not_lt, Int.not_le, Classical.not_not, beq_iff_eq, beq_eq_false_iff_ne] at hc1
  refine CW.skipS ?_
  refine CW.seq ?_
  refine CW.draw T.mixed (by kernel_rfl) (fun _ _ _ _ _ h => h) (fun w8 w9 => Upd none w8 w9) 12 (.take 0 (.take 1 (.take 2 (.take 3 (.take 4 (.take 5 (.take 6 (.take 7 (.take 8 (.take 9 (.must 10 (.must 11 .done)))))))))))) (by kernel_rfl) (fun w1 hXd => ?_)
  have hB := hB.trans hXd
  have ho1 := ho1.up hXd
  have hb2 := hb2.up hXd
  have hUB := hUB.ext hXd
  have hBr := hB
  have hS : Upd none w1 w1 := Ext.toUpd (Ext.refl _)
  refine HP.take rfl rfl rfl rfl hS (fun wS hS1 => PV.move rfl) ?_
  refine HP.take rfl rfl rfl rfl hS (fun wS hS1 => PV.nilCheck rfl) ?_
  refine HP.take rfl rfl rfl rfl hS (fun wS hS1 => (by first | exact PV.fieldAddr T.fl29_2 rfl (by first | assumption | exact Bx.cells (by assumption)) | exact PV.fieldAddrP T.fl29_2 rfl rfl)) ?_
  refine HP.take rfl rfl rfl rfl hS (fun wS hS1 => (by first | exact PV.load0 T.na27 rfl (by first | exact Cells.up (by assumption) (hBr.trans hS1) | exact Bx.cells (Bx.updD (by assumption) hS1 (Dj.nlR _)) | exact Cells.upd (by assumption) hS1 (by simp)) (Ext.refl _) rfl | exact PV.load1 T.na27 rfl (by first | exact Cells.up (by assumption) (hBr.trans hS1) | exact Bx.cells (Bx.updD (by assumption) hS1 (Dj.nlR _)) | exact Cells.upd (by assumption) hS1 (by simp)) (Ext.refl _) rfl)) ?_
  refine HP.take rfl rfl rfl rfl hS (fun wS hS1 => PV.move rfl) ?_
  refine HP.take rfl rfl rfl rfl hS (fun wS hS1 => PV.move rfl) ?_
  first
    | refine HP.at (x := .tmp 18) (y := .tmp 19) (E := EI) (0) rfl rfl (by assumption) (by omega) (fun p1 csp1 hpp1 hcp1 hq => ?_)
    | refine HP.atZ (x := .tmp 18) (y := .tmp 19) (E := EI) (0) rfl rfl (by assumption) (by omega) (fun p1 csp1 hpp1 hzp1 hcp1 hq => ?_)
  cases hq
  refine HP.take rfl rfl rfl rfl hS (fun wS hS1 => (by first | exact PV.indexAddr hpp1 rfl rfl T.sl38 | exact PV.indexAddr hpp1 rfl (by rw [← hzp1]; rfl) T.sl38)) ?_
  refine HP.take rfl rfl rfl rfl hS (fun wS hS1 => (by first | exact PV.load0 T.na2 rfl (by first | exact Cells.up (by assumption) (hBr.trans hS1) | exact Bx.cells (Bx.updD (by assumption) hS1 (Dj.nlR _)) | exact Cells.upd (by assumption) hS1 (by simp)) (Ext.refl _) rfl | exact PV.load1 T.na2 rfl (by first | exact Cells.up (by assumption) (hBr.trans hS1) | exact Bx.cells (Bx.updD (by assumption) hS1 (Dj.nlR _)) | exact Cells.upd (by assumption) hS1 (by simp)) (Ext.refl _) rfl)) ?_
  first
    | refine HP.at (x := .tmp 17) (y := .tmp 21) (E := ER) ((0, 0, 0, 0)) rfl rfl (by assumption) (by omega) (fun p2 csp2 hpp2 hcp2 hq => ?_)
    | refine HP.atZ (x := .tmp 17) (y := .tmp 21) (E := ER) ((0, 0, 0, 0)) rfl rfl (by assumption) (by omega) (fun p2 csp2 hpp2 hzp2 hcp2 hq => ?_)
  cases hq
  refine HP.take rfl rfl rfl rfl hS (fun wS hS1 => (by first | exact PV.indexAddr hpp2 rfl rfl T.sl27 | exact PV.indexAddr hpp2 rfl (by rw [← hzp2]; rfl) T.sl27)) ?_
  refine HP.take rfl rfl rfl rfl hS (fun wS hS1 => (by first | exact PV.loadA T.ag67 rfl (by first | exact Cells.up (by assumption) (hBr.trans hS1) | exact Bx.cells (Bx.updD (by assumption) hS1 (Dj.nlR _)) | exact Cells.upd (by assumption) hS1 (by simp)) (Ext.refl _) rfl | exact PV.loadP (ds := [_, _, _, _]) T.ag67 rfl (by first | exact Cells.up (by assumption) (hBr.trans hS1) | exact Bx.cells (Bx.updD (by assumption) hS1 (Dj.nlR _)) | exact Cells.upd (by assumption) hS1 (by simp)) (Ext.refl _) rfl rfl)) ?_
  refine HP.must rfl rfl (OpK.alloc rfl T.zv67 rfl (fun b3 w2 hXw2 hb3 hge3 => ?_))
  have hl3 := Lo.new hB hge3
  have hv3 := Lo.new hS hge3
  have hd1_3 := Dj.new ho1.ltO hge3
  have hd2_3 := Dj.new hb2.ltO hge3
  have hkB_3 := OkN.new hUB hge3
  have hgB_3 := OgR.new hUB.size hge3
  refine ⟨Upd.trans hS hXw2, ?_⟩
  have hS := Upd.trans hS hXw2
  have hB := hB.trans hXw2
  have ho1 := ho1.up hXw2
  have hb2 := hb2.up hXw2
  have hUB := hUB.ext hXw2
  refine HP.must rfl rfl (OpK.storeA T.sz67 rfl rfl rfl rfl (by simp [Value.oneCell'] <;> first | done | (repeat' apply And.intro) <;> first | rfl | exact Osl.oneCell (by assumption) | exact Osn.oneCell (by assumption) | exact Rd.oneCell (by assumption) | exact Rd.oneCell (NL.rd (by assumption)) | assumption) hb3 (fun w3 hXw3 hb3 => ?_))
  refine ⟨Ext.updL hS hXw3 hv3, ?_⟩
  have hS := Ext.updL hS hXw3 hv3
  have hB := hB.updL hXw3 hl3
  have ho1 := ho1.updD hXw3 hd1_3
  have hb2 := hb2.updD hXw3 hd2_3
  have hUB := hUB.step hXw3 hkB_3
  refine HP.doneS ?_
  refine CW.seq ?_
  refine CW.seq ?_
  refine CW.reg ?_
  refine WL.pure rfl rfl rfl ((by first | exact PV.fieldAddr T.fl67_2 rfl (by first | assumption | exact Bx.cells (by assumption)) | exact PV.fieldAddrP T.fl67_2 rfl rfl)) ?_
  refine WL.pure rfl rfl rfl ((by first | exact PV.load0 T.na2 rfl (by first | exact Cells.up (by assumption) hB | exact Bx.cells (by assumption) | assumption) (Ext.refl _) rfl | exact PV.load1 T.na2 rfl (by first | exact Cells.up (by assumption) hB | exact Bx.cells (by assumption) | assumption) (Ext.refl _) rfl)) ?_
  refine WL.pure rfl rfl rfl (PV.lss rfl rfl) ?_
  refine WL.nilS ?_
  refine CW.cond rfl (fun hc2 => ?_) (fun hc2 => ?_)
  · skip
    try simp only [decide_eq_true_eq, decide_eq_false_iff_not, Bool.not_eq_true', Bool.not_eq_false', Bool.not_eq_eq_eq_not, Bool.not_true, Bool.not_false, Int.not_lt, Int.not_le, Classical.not_not, beq_iff_eq, beq_eq_false_iff_ne] at hc2
    refine CW.seq ?_
    refine CW.reg ?_
    refine WL.pure rfl rfl rfl (PV.move rfl) ?_
    refine WL.pure rfl rfl rfl ((by first | exact PV.fieldAddr T.fl67_1 rfl (by first | assumption | exact Bx.cells (by assumption)) | exact PV.fieldAddrP T.fl67_1 rfl rfl)) ?_
    refine WL.pure rfl rfl rfl ((by first | exact PV.load0 T.na2 rfl (by first | exact Cells.up (by assumption) hB | exact Bx.cells (by assumption) | assumption) (Ext.refl _) rfl | exact PV.load1 T.na2 rfl (by first | exact Cells.up (by assumption) hB | exact Bx.cells (by assumption) | assumption) (Ext.refl _) rfl)) ?_
    refine WL.op rfl (OpK.buildS VI (os := [.tmp 29]) [_] rfl T.sl38 rfl rfl T.zv2 rfl (by intro z _; rfl) rfl (fun v4 g4 w4 hXw4 ho4 hge4 => ?_))
    have hl4 := Lo.new hB hge4
    have hd1_4 := Dj.new ho1.ltO hge4
    have hd2_4 := Dj.new hb2.ltO hge4
    have hd3_4 := Dj.new hb3.ltO hge4
    have hkB_4 := OkN.new hUB hge4
    have hgB_4 := OgR.new hUB.size hge4
    have hB := hB.trans hXw4
    have ho1 := ho1.up hXw4
    have hb2 := hb2.up hXw4
    have hb3 := hb3.up hXw4
    have hUB := hUB.ext hXw4
    refine WL.op rfl (OpK.appendS (f := VI) rfl T.sl38 T.zv2 rfl rfl ho1 rfl (Osl.src ho4 (fun _ => rfl)) (by first | (simp only [List.length_cons, List.length_nil]; omega) | (simp only [List.length_cons, List.length_nil]; omega)) (fun v5 og5 w5 hXw5 ho5 hap5 => ?_))
    have hl5 := Lo.app hl1 hB hap5
    have hd2_5 := Dj.app (Dj.symm hd1_2) hb2.ltO hap5
    have hd3_5 := Dj.app (Dj.symm hd1_3) hb3.ltO hap5
    have hd4_5 := Dj.app (Dj.symm hd1_4) ho4.ltO hap5
    have hkB_5 := OkN.app hUB hkB_1 hap5
    have hgB_5 := OgR.app hgB_1 hUB.size hap5
    have hB := hB.updL hXw5 hl1
    have hb2 := hb2.updD hXw5 (Dj.symm hd1_2)
    have hb3 := hb3.updD hXw5 (Dj.symm hd1_3)
    have ho4 := ho4.updD hXw5 (Dj.symm hd1_4)
    have hUB := hUB.step hXw5 hkB_1
    refine WL.pure rfl rfl rfl (PV.assign rfl) ?_
    refine WL.nilS ?_
    refine CW.ret ?_
    refine RQ.then ?_
    refine RQ.r1 rfl ?_
    refine ⟨hUB, v5, og5, ?_, osE ho5 ?_, hgB_5⟩
    · skip
      first | rfl | exact bT (by omega) | exact bF (by omega) | exact bD (by omega) | exact iE (by omega) | (simp_all; done) | (simp_all; omega) | (simp_all; intros; omega)
    · skip
      first | exact cutW_full (by omega) (by omega) | (rw [wordW_leaf (by assumption)]; exact cutW_leaf (by omega)) | (rw [wordW_node hd hn.2 hx.1 hx.2 hx2 (by simp only [ruR]; omega)]; exact cutW_two _ _ _)
  try simp only [decide_eq_true_eq, decide_eq_false_iff_not, Bool.not_eq_true', Bool.not_eq_false', Bool.not_eq_eq_eq_not, Bool.not_true, Bool.not_false, Int.not_lt, Int.not_le, Classical.not_not, beq_iff_eq, beq_eq_false_iff_ne] at hc2
  refine CW.skipS ?_
  refine CW.seq ?_
  refine CW.draw T.mixed (by kernel_rfl) (fun _ _ _ _ _ h => h) (fun w8 w9 => Upd og w8 w9) 12 (.take 0 (.take 1 (.take 2 (.take 3 (.take 4 (.take 5 (.take 6 (.take 7 (.take 8 (.must 9 (.must 10 (.take 11 .done)))))))))))) (by kernel_rfl) (fun w6 hXd => ?_)
  have hB := hB.trans hXd
  have ho1 := ho1.up hXd
  have hb2 := hb2.up hXd
  have hb3 := hb3.up hXd
  have hUB := hUB.ext hXd
  have hBr := hB
  have hS : Upd og w6 w6 := Ext.toUpd (Ext.refl _)
  have hUR : UpdL [og] w6 w6 := UpdL.refl _ _
  have hkR_1 : OkB [og] w6 og := OkB.mem (by simp)
  have hgR_1 := OgR.refl w6 og
  obtain ⟨⟨f1, f2, f3, f4⟩, g1, g2, g3⟩ := hkk.2.2 (by omega)
  refine HP.take rfl rfl rfl rfl hS (fun wS hS1 => PV.move rfl) ?_
  refine HP.take rfl rfl rfl rfl hS (fun wS hS1 => PV.move rfl) ?_
  refine HP.take rfl rfl rfl rfl hS (fun wS hS1 => (by first | exact PV.fieldAddr T.fl67_2 rfl (by first | assumption | exact Bx.cells (by assumption)) | exact PV.fieldAddrP T.fl67_2 rfl rfl)) ?_
  refine HP.take rfl rfl rfl rfl hS (fun wS hS1 => (by first | exact PV.load0 T.na2 rfl (by first | exact Cells.up (by assumption) (hBr.updL hS1 hl1) | exact Bx.cells (Bx.updD (by assumption) hS1 (by first | assumption | exact Dj.symm (by assumption))) | exact Cells.upd (by assumption) hS1 (by simp)) (Ext.refl _) rfl | exact PV.load1 T.na2 rfl (by first | exact Cells.up (by assumption) (hBr.updL hS1 hl1) | exact Bx.cells (Bx.updD (by assumption) hS1 (by first | assumption | exact Dj.symm (by assumption))) | exact Cells.upd (by assumption) hS1 (by simp)) (Ext.refl _) rfl)) ?_
  refine HP.take rfl rfl rfl rfl hS (fun wS hS1 => PV.move rfl) ?_
  refine HP.take rfl rfl rfl rfl hS (fun wS hS1 => PV.move rfl) ?_
  refine HP.take rfl rfl rfl rfl hS (fun wS hS1 => (by first | exact PV.fieldAddr T.fl67_1 rfl (by first | assumption | exact Bx.cells (by assumption)) | exact PV.fieldAddrP T.fl67_1 rfl rfl)) ?_
  refine HP.take rfl rfl rfl rfl hS (fun wS hS1 => (by first | exact PV.load0 T.na2 rfl (by first | exact Cells.up (by assumption) (hBr.updL hS1 hl1) | exact Bx.cells (Bx.updD (by assumption) hS1 (by first | assumption | exact Dj.symm (by assumption))) | exact Cells.upd (by assumption) hS1 (by simp)) (Ext.refl _) rfl | exact PV.load1 T.na2 rfl (by first | exact Cells.up (by assumption) (hBr.updL hS1 hl1) | exact Bx.cells (Bx.updD (by assumption) hS1 (by first | assumption | exact Dj.symm (by assumption))) | exact Cells.upd (by assumption) hS1 (by simp)) (Ext.refl _) rfl)) ?_
  refine HP.take rfl rfl rfl rfl hS (fun wS hS1 => PV.move rfl) ?_
  refine HP.must rfl rfl (OpK.call rfl T.cf84 rfl (ih hB (by first | assumption | exact Dj.symm (by assumption)) (by first | assumption | exact Lo.nl _) (by first | assumption | exact Lo.nl _) (by first | assumption | exact Dj.symm (by assumption)) (by first | assumption | exact Rd.up (by assumption) hB | exact Osl.rd (by assumption) | exact Osn.rdR (by assumption) | exact NL.rd (by assumption)) (by first | assumption | exact Rd.up (by assumption) hB | exact Osl.rd (by assumption) | exact Osn.rdR (by assumption) | exact NL.rd (by assumption)) (by first | assumption | omega | (simp only [marks_len, marksB_len, marksR_len]; omega)) (by first | assumption | omega | (simp only [marks_len, marksB_len, marksR_len]; omega)) (by first | assumption | omega | (simp only [marks_len, marksB_len, marksR_len]; omega)) (by first | assumption | omega | (simp only [marks_len, marksB_len, marksR_len]; omega)) (by first | (rw [List.length_take]; omega) | omega) (by omega)) (fun rv1 w7 hR => ?_))
  have hlt1 := ho1.ltO
  have hlt2 := hb2.ltO
  have hlt3 := hb3.ltO
  obtain ⟨hUC6, v7, og7, rfl, ho7, hr7⟩ := hR
  have hl7 := Lo.ogr hl1 hB hr7
  have hd2_7 := Dj.ogr (Dj.symm hd1_2) hlt2 hr7
  have hd3_7 := Dj.ogr (Dj.symm hd1_3) hlt3 hr7
  have hkB_7 := OkB.ogr hkB_1 hUB.size hr7
  have hgB_7 := OgR.trans hgB_1 hUB.size hr7
  have hkR_7 := OkB.ogr hkR_1 hUR.size hr7
  have hgR_7 := OgR.trans hgR_1 hUR.size hr7
  have hUB := hUB.trans hUC6 ⟨hkB_1, trivial⟩
  have hUR := hUR.trans hUC6 ⟨hkR_1, trivial⟩
  have hb2 := hb2.loop hUC6 ⟨(Dj.symm hd1_2), trivial⟩
  have hb3 := hb3.loop hUC6 ⟨(Dj.symm hd1_3), trivial⟩
  have hB := hB.loop hUC6 ⟨hl1, trivial⟩
  refine ⟨hUR.toUpd1, ?_⟩
  have hS := hUR.toUpd1
  refine HP.must rfl rfl (OpK.call rfl T.cf84 rfl (ih hB (by first | assumption | exact Dj.symm (by assumption)) (by first | assumption | exact Lo.nl _) (by first | assumption | exact Lo.nl _) (by first | assumption | exact Dj.symm (by assumption)) (by first | assumption | exact Rd.up (by assumption) hB | exact Osl.rd (by assumption) | exact Osn.rdR (by assumption) | exact NL.rd (by assumption)) (by first | assumption | exact Rd.up (by assumption) hB | exact Osl.rd (by assumption) | exact Osn.rdR (by assumption) | exact NL.rd (by assumption)) (by first | assumption | omega | (simp only [marks_len, marksB_len, marksR_len]; omega)) (by first | assumption | omega | (simp only [marks_len, marksB_len, marksR_len]; omega)) (by first | assumption | omega | (simp only [marks_len, marksB_len, marksR_len]; omega)) (by first | assumption | omega | (simp only [marks_len, marksB_len, marksR_len]; omega)) (by first | (rw [List.length_take]; omega) | omega) (by omega)) (fun rv2 w8 hR => ?_))
  have hlt2 := hb2.ltO
  have hlt3 := hb3.ltO
  have hlt7 := ho7.ltO
  obtain ⟨hUC8, v9, og9, rfl, ho9, hr9⟩ := hR
  have hl9 := Lo.ogr hl7 hB hr9
  have hd2_9 := Dj.ogr hd2_7 hlt2 hr9
  have hd3_9 := Dj.ogr hd3_7 hlt3 hr9
  have hkB_9 := OkB.ogr hkB_7 hUB.size hr9
  have hgB_9 := OgR.trans hgB_7 hUB.size hr9
  have hkR_9 := OkB.ogr hkR_7 hUR.size hr9
  have hgR_9 := OgR.trans hgR_7 hUR.size hr9
  have hUB := hUB.trans hUC8 ⟨hkB_7, trivial⟩
  have hUR := hUR.trans hUC8 ⟨hkR_7, trivial⟩
  have hb2 := hb2.loop hUC8 ⟨hd2_7, trivial⟩
  have hb3 := hb3.loop hUC8 ⟨hd3_7, trivial⟩
  have hB := hB.loop hUC8 ⟨hl7, trivial⟩
  refine ⟨hUR.toUpd1, ?_⟩
  have hS := hUR.toUpd1
  refine HP.take rfl rfl rfl rfl hS (fun wS hS1 => PV.assign rfl) ?_
  refine HP.doneS ?_
  refine CW.ret ?_
  refine RQ.r1 rfl ?_
  refine ⟨hUB, rv2, og9, ?_, osE ho9 ?_, hgB_9⟩
  · skip
    first | rfl | exact bT (by omega) | exact bF (by omega) | exact bD (by omega) | exact iE (by omega) | (simp_all; done) | (simp_all; omega) | (simp_all; intros; omega)
  · skip
    first | exact cutW_full (by omega) (by omega) | (rw [wordW_leaf (by assumption)]; exact cutW_leaf (by omega)) | (rw [wordW_node hd hn.2 hx.1 hx.2 hx2 (by simp only [ruR]; omega)]; exact cutW_two _ _ _)
theorem c_spec_l06Made {w : World} {b : World} {og : Option Nat} {vo vr : Value} {xs ru : List Int} {d : Nat → Nat} {x : Int} {pg : Addr} {a0 : Int} {a1 : Int} {va2 : Value} {xa2 : List R4}  (hB0 : Ext b w) (ht_vo : Osl VI w og vo (xs)) (htl_vo : Lo b og) (htb_pg : Bx w pg [.int .i64 a0, .int .i64 a1, va2]) (htbd_pg_vo : Dj (some pg.block) og) (ha2 : Rd ER b va2 xa2) (hr : Rd EI b vr ru) (hd : DagC a0 xa2 ru d) (hn : 0 ≤ a0 ∧ a0 ≤ 8) (hx : 0 ≤ x ∧ x < a0) (hx2 : 0 ≤ ru.getD x.toNat 0) (hxl : xs.length ≤ 13) : Calls Try.prog 84 #[.pointer (some pg), vr, .int .i64 x, vo] w (Ret1 (fun v w' => UpdL [og] w w' ∧ ∃ u og_u, v = u ∧ Osl VI w' og_u u ((xs ++ (wordW xa2 ru x)).take 13) ∧ OgR w og og_u)) := c_spec_l06Made_n _ hB0 ht_vo htl_vo htb_pg htbd_pg_vo ha2 hr hd hn hx hx2 hxl (Nat.lt_succ_self _)
theorem c_spec_CheapWord {w : World} {a0 : Int} {a1 : Int} {va2 : Value} {xa2 : List R4}  (ha2 : Rd ER w va2 xa2) : Calls Try.prog 48 #[.agg #[.int .i64 a0, .int .i64 a1, va2]] w (Ret1 (fun v w' => Ext w w' ∧ ∃ u og_u, v = .tuple #[u, .int .i64 (onI (cheapB a0 a1 xa2) ((allC a0 xa2).2.getD (0 : Int).toNat 0)), .bool (cheapB a0 a1 xa2)] ∧ Osl VI w' og_u u (onT (cheapB a0 a1 xa2) (wordW xa2 (allC a0 xa2).1 0)) ∧ Lo w og_u)) := by
  have hB : Ext w w := Ext.refl w
  have hla2 := ha2.leI
  refine callsOf (vs := [_]) Try.func48 rfl Try.ntmps48 rfl rfl ?_
  refine CW.seq ?_
  refine CW.reg ?_
  refine WL.op rfl (OpK.box rfl rfl (by first | rfl | exact Rd.cells1 (by assumption) | exact Rd.cells1 (NL.rd (by assumption)) | exact Osl.cells1 (by assumption) | exact Osn.cells1 (by assumption)) (fun b1 w1 hXw1 hb1 hge1 => ?_))
  have hl1 := Lo.new hB hge1
  have hB := hB.trans hXw1
  refine WL.pure rfl rfl rfl (PV.assign rfl) ?_
  refine WL.pure rfl rfl rfl (PV.assign rfl) ?_
  refine WL.pure rfl rfl rfl (PV.assign rfl) ?_
  refine WL.nilS ?_
  refine CW.seq ?_
  refine CW.seq ?_
  refine CW.reg ?_
  refine WL.op rfl (OpK.callR rfl T.cf57 rfl (c_spec_l06Is (by first | exact Bx.cells (by assumption) | exact Cells.up (by assumption) hB | assumption) (by first | assumption | exact Rd.up (by assumption) hB | exact Osl.rd (by assumption) | exact Osn.rdR (by assumption) | exact NL.rd (by assumption))) (fun w2 hXw2 => ?_))
  have hB := hB.trans hXw2
  have hb1 := hb1.up hXw2
  refine WL.pure rfl rfl rfl (PV.not rfl) ?_
  refine WL.nilS ?_
  refine CW.cond rfl (fun hc1 => ?_) (fun hc1 => ?_)
  · skip
    try simp only [decide_eq_true_eq, decide_eq_false_iff_not, Bool.not_eq_true', Bool.not_eq_false', Bool.not_eq_eq_eq_not, Bool.not_true, Bool.not_false, Int.not_lt, Int.not_le, Classical.not_not, beq_iff_eq, beq_eq_false_iff_ne] at hc1
    refine CW.seq ?_
    refine CW.reg ?_
    refine WL.pure rfl rfl rfl (PV.assign rfl) ?_
    refine WL.pure rfl rfl rfl (PV.assign rfl) ?_
    refine WL.pure rfl rfl rfl (PV.assign rfl) ?_
    refine WL.nilS ?_
    refine CW.ret ?_
    refine RQ.then ?_
    refine RQ.r3 rfl rfl rfl ?_
    refine ⟨hB, (.slice none 0 0), none, ?_, osE (Osl.nil _ _) ?_, Lo.nl _⟩
    · skip
      first | (exact t3E rfl (by rw [onI_no (by first | exact cheap_n1 (by assumption) | exact cheap_n2 (by omega) | exact cheap_n3 (by omega))]) (bE (Bool.eq_false_iff.2 (by first | exact cheap_n1 (by assumption) | exact cheap_n2 (by omega) | exact cheap_n3 (by omega))).symm)) | (exact t3E rfl (by first | (rw [onI_yes (cheap_yes (by assumption) (by omega) (by omega))]; done) | (rw [onI_yes (cheap_yes (by assumption) (by omega) (by omega))]; rfl)) (bE (cheap_yes (by assumption) (by omega) (by omega)).symm))
    · skip
      first | (rw [onT_no (by first | exact cheap_n1 (by assumption) | exact cheap_n2 (by omega) | exact cheap_n3 (by omega))]; done) | (rw [onT_yes (cheap_yes (by assumption) (by omega) (by omega))]; first | done | rfl | (rw [List.take_of_length_le (by simp only [List.nil_append]; omega)]; rfl))
  try simp only [decide_eq_true_eq, decide_eq_false_iff_not, Bool.not_eq_true', Bool.not_eq_false', Bool.not_eq_eq_eq_not, Bool.not_true, Bool.not_false, Int.not_lt, Int.not_le, Classical.not_not, beq_iff_eq, beq_eq_false_iff_ne] at hc1
  refine CW.skipS ?_
  refine CW.seq ?_
  refine CW.reg ?_
  refine WL.op rfl (OpK.call rfl T.cf82 rfl (c_spec_l06Given (by first | exact Bx.cells (by assumption) | exact Cells.up (by assumption) hB | assumption) (by first | assumption | exact Rd.up (by assumption) hB | exact Osl.rd (by assumption) | exact Osn.rdR (by assumption) | exact NL.rd (by assumption)) (by first | assumption | omega | (simp only [marks_len, marksB_len, marksR_len]; omega))) (fun rv1 w3 hR => ?_))
  obtain ⟨hXw3, v2, og2, v3, og3, rfl, ho2, hq2, ho3, hq3, hd2_3⟩ := hR
  have hl2 := Lo.up hq2 hB
  have hd1_2 := Dj.lo hb1.ltO hq2
  have hl3 := Lo.up hq3 hB
  have hd1_3 := Dj.lo hb1.ltO hq3
  have hB := hB.trans hXw3
  have hb1 := hb1.up hXw3
  refine WL.pure rfl rfl rfl (PV.move rfl) ?_
  refine WL.pure rfl rfl rfl (PV.extract rfl rfl) ?_
  refine WL.pure rfl rfl rfl (PV.extract rfl rfl) ?_
  refine WL.pure rfl rfl rfl (PV.assign rfl) ?_
  refine WL.pure rfl rfl rfl (PV.assign rfl) ?_
  refine WL.nilS ?_
  refine CW.seq ?_
  refine CW.seq ?_
  refine CW.reg ?_
  have hg : gramV a0 a1 xa2 := (by assumption); have hg1 := hg.1; obtain ⟨tc, hI⟩ := allC_inv hg; have hs0 := hI.same (0 : Int).toNat (by omega); have hL1 := hI.l1; have hL2 := hI.l2; obtain ⟨dd, hD⟩ := dagC hg; have hdle := hD.le 0; have hp8 := pow_le256 (k := dd 0) (by omega)
  refine WL.pure rfl rfl rfl (PV.move rfl) ?_
  first
    | refine WL.atO (x := .tmp 14) (y := .const (.int .i64 0)) (f := VI) (0) rfl rfl ho2 (by omega) (fun p1 hpp1 hcp1 => ?_)
    | refine WL.atOZ (x := .tmp 14) (y := .const (.int .i64 0)) (f := VI) (0) rfl rfl ho2 (by omega) (fun p1 hpp1 hzp1 hcp1 => ?_)
  refine WL.pure rfl rfl rfl ((by first | exact PV.indexAddr hpp1 rfl rfl T.sl38 | exact PV.indexAddr hpp1 rfl (by rw [← hzp1]; rfl) T.sl38)) ?_
  refine WL.pure rfl rfl rfl ((by first | exact PV.load0 T.na2 rfl (by first | exact Cells.up (by assumption) hB | exact Bx.cells (by assumption) | assumption) (Ext.refl _) rfl | exact PV.load1 T.na2 rfl (by first | exact Cells.up (by assumption) hB | exact Bx.cells (by assumption) | assumption) (Ext.refl _) rfl)) ?_
  refine WL.pure rfl rfl rfl (PV.lss rfl rfl) ?_
  refine WL.nilS ?_
  refine CW.cond rfl (fun hc2 => ?_) (fun hc2 => ?_)
  · skip
    try simp only [decide_eq_true_eq, decide_eq_false_iff_not, Bool.not_eq_true', Bool.not_eq_false', Bool.not_eq_eq_eq_not, Bool.not_true, Bool.not_false, Int.not_lt, Int.not_le, Classical.not_not, beq_iff_eq, beq_eq_false_iff_ne] at hc2
    refine CW.seq ?_
    refine CW.reg ?_
    refine WL.pure rfl rfl rfl (PV.assign rfl) ?_
    refine WL.pure rfl rfl rfl (PV.assign rfl) ?_
    refine WL.pure rfl rfl rfl (PV.assign rfl) ?_
    refine WL.nilS ?_
    refine CW.ret ?_
    refine RQ.then ?_
    refine RQ.r3 rfl rfl rfl ?_
    refine ⟨hB, (.slice none 0 0), none, ?_, osE (Osl.nil _ _) ?_, Lo.nl _⟩
    · skip
      first | (exact t3E rfl (by rw [onI_no (by first | exact cheap_n1 (by assumption) | exact cheap_n2 (by omega) | exact cheap_n3 (by omega))]) (bE (Bool.eq_false_iff.2 (by first | exact cheap_n1 (by assumption) | exact cheap_n2 (by omega) | exact cheap_n3 (by omega))).symm)) | (exact t3E rfl (by first | (rw [onI_yes (cheap_yes (by assumption) (by omega) (by omega))]; done) | (rw [onI_yes (cheap_yes (by assumption) (by omega) (by omega))]; rfl)) (bE (cheap_yes (by assumption) (by omega) (by omega)).symm))
    · skip
      first | (rw [onT_no (by first | exact cheap_n1 (by assumption) | exact cheap_n2 (by omega) | exact cheap_n3 (by omega))]; done) | (rw [onT_yes (cheap_yes (by assumption) (by omega) (by omega))]; first | done | rfl | (rw [List.take_of_length_le (by simp only [List.nil_append]; omega)]; rfl))
  try simp only [decide_eq_true_eq, decide_eq_false_iff_not, Bool.not_eq_true', Bool.not_eq_false', Bool.not_eq_eq_eq_not, Bool.not_true, Bool.not_false, Int.not_lt, Int.not_le, Classical.not_not, beq_iff_eq, beq_eq_false_iff_ne] at hc2
  refine CW.skipS ?_
  refine CW.seq ?_
  refine CW.reg ?_
  have hru3 := Osl.rd ho2; have hrr3 := Rd.up ha2 hB
  refine WL.pure rfl rfl rfl (PV.move rfl) ?_
  refine WL.op rfl (OpK.buildS VI (os := []) [] rfl T.sl38 rfl rfl T.zv2 rfl (by intro z _; rfl) rfl (fun v4 g4 w4 hXw4 ho4 hge4 => ?_))
  have hl4 := Lo.new hB hge4
  have hd1_4 := Dj.new hb1.ltO hge4
  have hd2_4 := Dj.new ho2.ltO hge4
  have hd3_4 := Dj.new ho3.ltO hge4
  have hB := hB.trans hXw4
  have hb1 := hb1.up hXw4
  have ho2 := ho2.up hXw4
  have ho3 := ho3.up hXw4
  refine WL.op rfl (OpK.call rfl T.cf84 rfl (c_spec_l06Made (b := w3) hXw4 ho4 (Lo.new (Ext.refl _) hge4) hb1 hd1_4 hrr3 hru3 hD (by omega) (by omega) (by show 0 ≤ (allC a0 xa2).1.getD (0 : Int).toNat 0; omega) (by simp)) (fun rv2 w5 hR => ?_))
  have hlt1 := hb1.ltO
  have hlt2 := ho2.ltO
  have hlt3 := ho3.ltO
  have hlt4 := ho4.ltO
  obtain ⟨hUC5, v6, og6, rfl, ho6, hr6⟩ := hR
  have hl6 := Lo.ogr hl4 hB hr6
  have hd1_6 := Dj.ogr hd1_4 hlt1 hr6
  have hd2_6 := Dj.ogr hd2_4 hlt2 hr6
  have hd3_6 := Dj.ogr hd3_4 hlt3 hr6
  have hb1 := hb1.loop hUC5 ⟨hd1_4, trivial⟩
  have ho2 := ho2.loop hUC5 ⟨hd2_4, trivial⟩
  have ho3 := ho3.loop hUC5 ⟨hd3_4, trivial⟩
  have hB := hB.loop hUC5 ⟨hl4, trivial⟩
  refine WL.pure rfl rfl rfl (PV.assign rfl) ?_
  refine WL.nilS ?_
  refine CW.seq ?_
  refine CW.seq ?_
  refine CW.reg ?_
  have hcm : (([] ++ (wordW xa2 (allC a0 xa2).1 0) : List Int).take 13).length = min 13 (wordW xa2 (allC a0 xa2).1 0).length := by simp
  refine WL.pure rfl rfl rfl (PV.move rfl) ?_
  refine WL.pure rfl rfl rfl ((PV.lenOs rfl ho6 T.sl38)) ?_
  refine WL.pure rfl rfl rfl (PV.gtr rfl rfl) ?_
  refine WL.nilS ?_
  refine CW.cond rfl (fun hc3 => ?_) (fun hc3 => ?_)
  · skip
    try simp only [decide_eq_true_eq, decide_eq_false_iff_not, Bool.not_eq_true', Bool.not_eq_false', Bool.not_eq_eq_eq_not, Bool.not_true, Bool.not_false, Int.not_lt, Int.not_le, Classical.not_not, beq_iff_eq, beq_eq_false_iff_ne] at hc3
    refine CW.seq ?_
    refine CW.reg ?_
    refine WL.pure rfl rfl rfl (PV.assign rfl) ?_
    refine WL.pure rfl rfl rfl (PV.assign rfl) ?_
    refine WL.pure rfl rfl rfl (PV.assign rfl) ?_
    refine WL.nilS ?_
    refine CW.ret ?_
    refine RQ.then ?_
    refine RQ.r3 rfl rfl rfl ?_
    refine ⟨hB, (.slice none 0 0), none, ?_, osE (Osl.nil _ _) ?_, Lo.nl _⟩
    · skip
      first | (exact t3E rfl (by rw [onI_no (by first | exact cheap_n1 (by assumption) | exact cheap_n2 (by omega) | exact cheap_n3 (by omega))]) (bE (Bool.eq_false_iff.2 (by first | exact cheap_n1 (by assumption) | exact cheap_n2 (by omega) | exact cheap_n3 (by omega))).symm)) | (exact t3E rfl (by first | (rw [onI_yes (cheap_yes (by assumption) (by omega) (by omega))]; done) | (rw [onI_yes (cheap_yes (by assumption) (by omega) (by omega))]; rfl)) (bE (cheap_yes (by assumption) (by omega) (by omega)).symm))
    · skip
      first | (rw [onT_no (by first | exact cheap_n1 (by assumption) | exact cheap_n2 (by omega) | exact cheap_n3 (by omega))]; done) | (rw [onT_yes (cheap_yes (by assumption) (by omega) (by omega))]; first | done | rfl | (rw [List.take_of_length_le (by simp only [List.nil_append]; omega)]; rfl))
  try simp only [decide_eq_true_eq, decide_eq_false_iff_not, Bool.not_eq_true', Bool.not_eq_false', Bool.not_eq_eq_eq_not, Bool.not_true, Bool.not_false, Int.not_lt, Int.not_le, Classical.not_not, beq_iff_eq, beq_eq_false_iff_ne] at hc3
  refine CW.skipS ?_
  refine CW.seq ?_
  refine CW.draw T.mixed (by kernel_rfl) (fun _ _ _ _ _ h => h) (fun w8 w9 => Upd none w8 w9) 7 (.take 0 (.take 1 (.take 2 (.take 3 (.take 4 (.take 5 (.take 6 .done))))))) (by kernel_rfl) (fun w6 hXd => ?_)
  have hB := hB.trans hXd
  have hb1 := hb1.up hXd
  have ho2 := ho2.up hXd
  have ho3 := ho3.up hXd
  have ho6 := ho6.up hXd
  have hBr := hB
  have hS : Upd none w6 w6 := Ext.toUpd (Ext.refl _)
  refine HP.take rfl rfl rfl rfl hS (fun wS hS1 => PV.move rfl) ?_
  refine HP.take rfl rfl rfl rfl hS (fun wS hS1 => PV.move rfl) ?_
  first
    | refine HP.atO (wb := w6) (x := .tmp 25) (y := .const (.int .i64 0)) (f := VI) (0) rfl rfl (by assumption) (by omega) (fun p2 hpp2 hcp2 => ?_)
    | refine HP.atOZ (wb := w6) (x := .tmp 25) (y := .const (.int .i64 0)) (f := VI) (0) rfl rfl (by assumption) (by omega) (fun p2 hpp2 hzp2 hcp2 => ?_)
  refine HP.take rfl rfl rfl rfl hS (fun wS hS1 => (by first | exact PV.indexAddr hpp2 rfl rfl T.sl38 | exact PV.indexAddr hpp2 rfl (by rw [← hzp2]; rfl) T.sl38)) ?_
  refine HP.take rfl rfl rfl rfl hS (fun wS hS1 => (by first | exact PV.load0 T.na2 rfl (by first | exact Cells.up (by assumption) (hBr.trans hS1) | exact Bx.cells (Bx.updD (by assumption) hS1 (Dj.nlR _)) | exact Cells.upd (by assumption) hS1 (by simp)) (Ext.refl _) rfl | exact PV.load1 T.na2 rfl (by first | exact Cells.up (by assumption) (hBr.trans hS1) | exact Bx.cells (Bx.updD (by assumption) hS1 (Dj.nlR _)) | exact Cells.upd (by assumption) hS1 (by simp)) (Ext.refl _) rfl)) ?_
  refine HP.take rfl rfl rfl rfl hS (fun wS hS1 => PV.assign rfl) ?_
  refine HP.take rfl rfl rfl rfl hS (fun wS hS1 => PV.assign rfl) ?_
  refine HP.take rfl rfl rfl rfl hS (fun wS hS1 => PV.assign rfl) ?_
  refine HP.doneS ?_
  refine CW.ret ?_
  refine RQ.r3 rfl rfl rfl ?_
  refine ⟨hB, rv2, og6, ?_, osE ho6 ?_, hl6⟩
  · skip
    first | (exact t3E rfl (by rw [onI_no (by first | exact cheap_n1 (by assumption) | exact cheap_n2 (by omega) | exact cheap_n3 (by omega))]) (bE (Bool.eq_false_iff.2 (by first | exact cheap_n1 (by assumption) | exact cheap_n2 (by omega) | exact cheap_n3 (by omega))).symm)) | (exact t3E rfl (by first | (rw [onI_yes (cheap_yes (by assumption) (by omega) (by omega))]; done) | (rw [onI_yes (cheap_yes (by assumption) (by omega) (by omega))]; rfl)) (bE (cheap_yes (by assumption) (by omega) (by omega)).symm))
  · skip
    first | (rw [onT_no (by first | exact cheap_n1 (by assumption) | exact cheap_n2 (by omega) | exact cheap_n3 (by omega))]; done) | (rw [onT_yes (cheap_yes (by assumption) (by omega) (by omega))]; first | done | rfl | (rw [List.take_of_length_le (by simp only [List.nil_append]; omega)]; rfl))
theorem c_impl_within {w : World} {n lo hi : Int} : Calls Try.prog 58 #[.int .i64 n, .int .i64 lo, .int .i64 hi] w (Ret1 (RQt (.bool (decide (lo ≤ n ∧ n ≤ hi))) w)) := by
  have hB : Ext w w := Ext.refl w
  refine callsOf (vs := [_, _, _]) Try.func58 rfl Try.ntmps58 rfl rfl ?_
  refine CW.seq ?_
  refine CW.reg ?_
  refine WL.pure rfl rfl rfl (PV.assign rfl) ?_
  refine WL.nilS ?_
  refine CW.seq ?_
  refine CW.reg ?_
  refine WL.pure rfl rfl rfl (PV.move rfl) ?_
  refine WL.pure rfl rfl rfl (PV.move rfl) ?_
  refine WL.pure rfl rfl rfl (PV.geq rfl rfl) ?_
  refine WL.pure rfl rfl rfl (PV.move rfl) ?_
  refine WL.split (t := 10) rfl (fun hc1 => ?_) (fun hc1 => ?_)
  rotate_left
  · skip
    try simp only [decide_eq_true_eq, decide_eq_false_iff_not, Bool.not_eq_true', Bool.not_eq_false', Bool.not_eq_eq_eq_not, Bool.not_true, Bool.not_false, Int.not_lt, Int.not_le, Classical.not_not, beq_iff_eq, beq_eq_false_iff_ne] at hc1
    refine WL.skip rfl rfl rfl rfl rfl ?_
    refine WL.skip rfl rfl rfl rfl rfl ?_
    refine WL.skip rfl rfl rfl rfl rfl ?_
    refine WL.pure rfl rfl rfl (PV.pickF rfl rfl) ?_
    refine WL.pure rfl rfl rfl (PV.assign rfl) ?_
    refine WL.nilS ?_
    refine CW.ret ?_
    refine RQ.r1 rfl ?_
    refine ⟨?_, hB⟩
    first | rfl | exact bT (by omega) | exact bF (by omega) | exact bD (by omega) | exact iE (by omega) | (simp_all; done) | (simp_all; omega) | (simp_all; intros; omega)
  try simp only [decide_eq_true_eq, decide_eq_false_iff_not, Bool.not_eq_true', Bool.not_eq_false', Bool.not_eq_eq_eq_not, Bool.not_true, Bool.not_false, Int.not_lt, Int.not_le, Classical.not_not, beq_iff_eq, beq_eq_false_iff_ne] at hc1
  refine WL.pureG rfl rfl rfl rfl rfl (PV.move rfl) ?_
  refine WL.pureG rfl rfl rfl rfl rfl (PV.move rfl) ?_
  refine WL.pureG rfl rfl rfl rfl rfl (PV.leq rfl rfl) ?_
  refine WL.pure rfl rfl rfl (PV.pickT rfl rfl) ?_
  refine WL.pure rfl rfl rfl (PV.assign rfl) ?_
  refine WL.nilS ?_
  refine CW.ret ?_
  refine RQ.r1 rfl ?_
  refine ⟨?_, hB⟩
  first | rfl | exact bT (by omega) | exact bF (by omega) | exact bD (by omega) | exact iE (by omega) | (simp_all; done) | (simp_all; omega) | (simp_all; intros; omega)
theorem c_impl_ValidGrammar {w : World} {a0 : Int} {a1 : Int} {va2 : Value} {xa2 : List R4}  (ha2 : Rd ER w va2 xa2) : Calls Try.prog 21 #[.agg #[.int .i64 a0, .int .i64 a1, va2]] w (Ret1 (RQt (.bool (decide (gramV a0 a1 xa2))) w)) := by
  have hB : Ext w w := Ext.refl w
  have hla2 := ha2.leI
  refine callsOf (vs := [_]) Try.func21 rfl Try.ntmps21 rfl rfl ?_
  refine CW.seq ?_
  refine CW.reg ?_
  refine WL.op rfl (OpK.box rfl rfl (by first | rfl | exact Rd.cells1 (by assumption) | exact Rd.cells1 (NL.rd (by assumption)) | exact Osl.cells1 (by assumption) | exact Osn.cells1 (by assumption)) (fun b1 w1 hXw1 hb1 hge1 => ?_))
  have hl1 := Lo.new hB hge1
  have hB := hB.trans hXw1
  refine WL.pure rfl rfl rfl (PV.assign rfl) ?_
  refine WL.nilS ?_
  refine CW.seq ?_
  refine CW.seq ?_
  refine CW.reg ?_
  refine WL.pure rfl rfl rfl ((by first | exact PV.fieldAddr T.fl29_0 rfl (by first | assumption | exact Bx.cells (by assumption)) | exact PV.fieldAddrP T.fl29_0 rfl rfl)) ?_
  refine WL.pure rfl rfl rfl ((by first | exact PV.load0 T.na2 rfl (by first | exact Cells.up (by assumption) hB | exact Bx.cells (by assumption) | assumption) (Ext.refl _) rfl | exact PV.load1 T.na2 rfl (by first | exact Cells.up (by assumption) hB | exact Bx.cells (by assumption) | assumption) (Ext.refl _) rfl)) ?_
  refine WL.op rfl (OpK.callR rfl T.cf58 rfl (c_impl_within) (fun w2 hXw2 => ?_))
  have hB := hB.trans hXw2
  have hb1 := hb1.up hXw2
  refine WL.pure rfl rfl rfl (PV.not rfl) ?_
  refine WL.pure rfl rfl rfl (PV.move rfl) ?_
  refine WL.split (t := 10) rfl (fun hc1 => ?_) (fun hc1 => ?_)
  · skip
    try simp only [decide_eq_true_eq, decide_eq_false_iff_not, Bool.not_eq_true', Bool.not_eq_false', Bool.not_eq_eq_eq_not, Bool.not_true, Bool.not_false, Int.not_lt, Int.not_le, Classical.not_not, beq_iff_eq, beq_eq_false_iff_ne] at hc1
    refine WL.skip rfl rfl rfl rfl rfl ?_
    refine WL.skip rfl rfl rfl rfl rfl ?_
    refine WL.skip rfl rfl rfl rfl rfl ?_
    refine WL.skip rfl rfl rfl rfl rfl ?_
    refine WL.pure rfl rfl rfl (PV.pickT rfl rfl) ?_
    refine WL.pure rfl rfl rfl (PV.move rfl) ?_
    refine WL.skip rfl rfl rfl rfl rfl ?_
    refine WL.skip rfl rfl rfl rfl rfl ?_
    refine WL.skip rfl rfl rfl rfl rfl ?_
    refine WL.skip rfl rfl rfl rfl rfl ?_
    refine WL.pure rfl rfl rfl (PV.pickT rfl rfl) ?_
    refine WL.nilS ?_
    refine CW.condT rfl ?_
    refine CW.seq ?_
    refine CW.reg ?_
    refine WL.pure rfl rfl rfl (PV.assign rfl) ?_
    refine WL.nilS ?_
    refine CW.ret ?_
    refine RQ.then ?_
    refine RQ.r1 rfl ?_
    refine ⟨?_, hB⟩
    exact bF (by rintro ⟨h1, h2, h3, h4⟩; first | omega | (have h5 := h4 k (by omega); simp only [okR] at h5; omega))
  try simp only [decide_eq_true_eq, decide_eq_false_iff_not, Bool.not_eq_true', Bool.not_eq_false', Bool.not_eq_eq_eq_not, Bool.not_true, Bool.not_false, Int.not_lt, Int.not_le, Classical.not_not, beq_iff_eq, beq_eq_false_iff_ne] at hc1
  refine WL.pureG rfl rfl rfl rfl rfl ((by first | exact PV.fieldAddr T.fl29_1 rfl (by first | assumption | exact Bx.cells (by assumption)) | exact PV.fieldAddrP T.fl29_1 rfl rfl)) ?_
  refine WL.pureG rfl rfl rfl rfl rfl ((by first | exact PV.load0 T.na2 rfl (by first | exact Cells.up (by assumption) hB | exact Bx.cells (by assumption) | assumption) (Ext.refl _) rfl | exact PV.load1 T.na2 rfl (by first | exact Cells.up (by assumption) hB | exact Bx.cells (by assumption) | assumption) (Ext.refl _) rfl)) ?_
  refine WL.opG rfl rfl rfl (OpK.callR rfl T.cf58 rfl (c_impl_within) (fun w3 hXw3 => ?_))
  have hB := hB.trans hXw3
  have hb1 := hb1.up hXw3
  refine WL.pureG rfl rfl rfl rfl rfl (PV.not rfl) ?_
  refine WL.pure rfl rfl rfl (PV.pickF rfl rfl) ?_
  refine WL.pure rfl rfl rfl (PV.move rfl) ?_
  refine WL.split (t := 16) rfl (fun hc2 => ?_) (fun hc2 => ?_)
  · skip
    try simp only [decide_eq_true_eq, decide_eq_false_iff_not, Bool.not_eq_true', Bool.not_eq_false', Bool.not_eq_eq_eq_not, Bool.not_true, Bool.not_false, Int.not_lt, Int.not_le, Classical.not_not, beq_iff_eq, beq_eq_false_iff_ne] at hc2
    refine WL.skip rfl rfl rfl rfl rfl ?_
    refine WL.skip rfl rfl rfl rfl rfl ?_
    refine WL.skip rfl rfl rfl rfl rfl ?_
    refine WL.skip rfl rfl rfl rfl rfl ?_
    refine WL.pure rfl rfl rfl (PV.pickT rfl rfl) ?_
    refine WL.nilS ?_
    refine CW.condT rfl ?_
    refine CW.seq ?_
    refine CW.reg ?_
    refine WL.pure rfl rfl rfl (PV.assign rfl) ?_
    refine WL.nilS ?_
    refine CW.ret ?_
    refine RQ.then ?_
    refine RQ.r1 rfl ?_
    refine ⟨?_, hB⟩
    exact bF (by rintro ⟨h1, h2, h3, h4⟩; first | omega | (have h5 := h4 k (by omega); simp only [okR] at h5; omega))
  try simp only [decide_eq_true_eq, decide_eq_false_iff_not, Bool.not_eq_true', Bool.not_eq_false', Bool.not_eq_eq_eq_not, Bool.not_true, Bool.not_false, Int.not_lt, Int.not_le, Classical.not_not, beq_iff_eq, beq_eq_false_iff_ne] at hc2
  refine WL.pureG rfl rfl rfl rfl rfl ((by first | exact PV.fieldAddr T.fl29_2 rfl (by first | assumption | exact Bx.cells (by assumption)) | exact PV.fieldAddrP T.fl29_2 rfl rfl)) ?_
  refine WL.pureG rfl rfl rfl rfl rfl ((by first | exact PV.load0 T.na27 rfl (by first | exact Cells.up (by assumption) hB | exact Bx.cells (by assumption) | assumption) (Ext.refl _) rfl | exact PV.load1 T.na27 rfl (by first | exact Cells.up (by assumption) hB | exact Bx.cells (by assumption) | assumption) (Ext.refl _) rfl)) ?_
  refine WL.pureG rfl rfl rfl rfl rfl ((by first | exact PV.len rfl (by assumption) T.sl27 | exact PV.lenOs rfl (by assumption) T.sl27 | exact PV.len rfl (NL.rd (by assumption)) T.sl27)) ?_
  refine WL.pureG rfl rfl rfl rfl rfl (PV.gtr rfl rfl) ?_
  refine WL.pure rfl rfl rfl (PV.pickF rfl rfl) ?_
  refine WL.nilS ?_
  refine CW.cond rfl (fun hc3 => ?_) (fun hc3 => ?_)
  · skip
    try simp only [decide_eq_true_eq, decide_eq_false_iff_not, Bool.not_eq_true', Bool.not_eq_false', Bool.not_eq_eq_eq_not, Bool.not_true, Bool.not_false, Int.not_lt, Int.not_le, Classical.not_not, beq_iff_eq, beq_eq_false_iff_ne] at hc3
    refine CW.seq ?_
    refine CW.reg ?_
    refine WL.pure rfl rfl rfl (PV.assign rfl) ?_
    refine WL.nilS ?_
    refine CW.ret ?_
    refine RQ.then ?_
    refine RQ.r1 rfl ?_
    refine ⟨?_, hB⟩
    exact bF (by rintro ⟨h1, h2, h3, h4⟩; first | omega | (have h5 := h4 k (by omega); simp only [okR] at h5; omega))
  try simp only [decide_eq_true_eq, decide_eq_false_iff_not, Bool.not_eq_true', Bool.not_eq_false', Bool.not_eq_eq_eq_not, Bool.not_true, Bool.not_false, Int.not_lt, Int.not_le, Classical.not_not, beq_iff_eq, beq_eq_false_iff_ne] at hc3
  refine CW.skipS ?_
  refine CW.seq ?_
  refine CW.seq ?_
  refine CW.reg ?_
  refine WL.pure rfl rfl rfl ((by first | exact PV.fieldAddr T.fl29_2 rfl (by first | assumption | exact Bx.cells (by assumption)) | exact PV.fieldAddrP T.fl29_2 rfl rfl)) ?_
  refine WL.pure rfl rfl rfl ((by first | exact PV.load0 T.na27 rfl (by first | exact Cells.up (by assumption) hB | exact Bx.cells (by assumption) | assumption) (Ext.refl _) rfl | exact PV.load1 T.na27 rfl (by first | exact Cells.up (by assumption) hB | exact Bx.cells (by assumption) | assumption) (Ext.refl _) rfl)) ?_
  refine WL.pure rfl rfl rfl ((by first | exact PV.len rfl (by assumption) T.sl27 | exact PV.lenOs rfl (by assumption) T.sl27 | exact PV.len rfl (NL.rd (by assumption)) T.sl27)) ?_
  refine WL.pure rfl rfl rfl (PV.move rfl) ?_
  refine WL.nilS ?_
  refine CW.block ?_
  refine CW.loop (σk := [(1, _), (23, _), (24, _)]) (fun ρ wz m => ∃ (k : Nat), ρ = [(25, .int .i64 (k : Nat))] ∧ m = xa2.length - k ∧ UpdL [] w3 wz ∧ (k ≤ xa2.length) ∧ (∀ q : Nat, q < k → okR a0 a1 (xa2.getD q (0, 0, 0, 0)))) (ρ₀ := [(25, _)]) (m₀ := _) ⟨rfl, rfl, rfl, rfl, trivial⟩ ⟨0, rfl, rfl, (UpdL.refl _ _), (by first | omega | rfl | (simp; done) | assumption | (simp_all; done)), (by intro q h1; exact absurd h1 (by omega))⟩ ?_
  rintro _ wl1 _ ⟨k, rfl, rfl, hU0, hk, hq⟩
  have hb1 := hb1.loop hU0 trivial
  have hB := hB.loop hU0 trivial
  refine CW.seq ?_
  refine CW.reg ?_
  refine WL.pure rfl rfl rfl (PV.lss rfl rfl) ?_
  refine WL.nilS ?_
  refine CW.seq ?_
  refine CW.cond rfl (fun hc4 => ?_) (fun hc4 => ?_)
  · skip
    try simp only [decide_eq_true_eq, decide_eq_false_iff_not, Bool.not_eq_true', Bool.not_eq_false', Bool.not_eq_eq_eq_not, Bool.not_true, Bool.not_false, Int.not_lt, Int.not_le, Classical.not_not, beq_iff_eq, beq_eq_false_iff_ne] at hc4
    refine CW.skipS ?_
    refine CW.seq ?_
    refine CW.block ?_
    refine CW.seq ?_
    refine CW.reg ?_
    first
      | refine WL.at (x := .tmp 23) (y := .tmp 25) (E := ER) ((0, 0, 0, 0)) rfl rfl (by assumption) (by first | omega | (simp; omega) | (simp_all; omega)) (fun p1 csp1 hpp1 hcp1 hq => ?_)
      | refine WL.atZ (x := .tmp 23) (y := .tmp 25) (E := ER) ((0, 0, 0, 0)) rfl rfl (by assumption) (by first | omega | (simp; omega) | (simp_all; omega)) (fun p1 csp1 hpp1 hzp1 hcp1 hq => ?_)
    cases hq
    refine WL.pure rfl rfl rfl ((by first | exact PV.indexAddr hpp1 rfl rfl T.sl27 | exact PV.indexAddr hpp1 rfl (by rw [← hzp1]; rfl) T.sl27)) ?_
    refine WL.pure rfl rfl rfl ((by first | exact PV.loadA T.ag67 rfl (by first | exact Cells.up (by assumption) hB | exact Bx.cells (by assumption) | assumption) (Ext.refl _) rfl | exact PV.loadP (ds := [_, _, _, _]) T.ag67 rfl (by first | exact Cells.up (by assumption) hB | exact Bx.cells (by assumption) | assumption) (Ext.refl _) rfl rfl)) ?_
    refine WL.op rfl (OpK.alloc rfl T.zv67 rfl (fun b2 w4 hXw4 hb2 hge2 => ?_))
    have hl2 := Lo.new hB hge2
    have hd1_2 := Dj.new hb1.ltO hge2
    have hk0_2 := OkN.new hU0 hge2
    have hg0_2 := OgR.new hU0.size hge2
    have hB := hB.trans hXw4
    have hb1 := hb1.up hXw4
    have hU0 := hU0.ext hXw4
    refine WL.op rfl (OpK.storeA T.sz67 rfl rfl rfl rfl (by simp [Value.oneCell'] <;> first | done | (repeat' apply And.intro) <;> first | rfl | exact Osl.oneCell (by assumption) | exact Osn.oneCell (by assumption) | exact Rd.oneCell (by assumption) | exact Rd.oneCell (NL.rd (by assumption)) | assumption) hb2 (fun w5 hXw5 hb2 => ?_))
    have hB := hB.updL hXw5 hl2
    have hb1 := hb1.updD hXw5 hd1_2
    have hU0 := hU0.step hXw5 hk0_2
    refine WL.nilS ?_
    refine CW.seq ?_
    refine CW.reg ?_
    refine WL.pure rfl rfl rfl ((by first | exact PV.fieldAddr T.fl29_0 rfl (by first | assumption | exact Bx.cells (by assumption)) | exact PV.fieldAddrP T.fl29_0 rfl rfl)) ?_
    refine WL.pure rfl rfl rfl ((by first | exact PV.load0 T.na2 rfl (by first | exact Cells.up (by assumption) hB | exact Bx.cells (by assumption) | assumption) (Ext.refl _) rfl | exact PV.load1 T.na2 rfl (by first | exact Cells.up (by assumption) hB | exact Bx.cells (by assumption) | assumption) (Ext.refl _) rfl)) ?_
    refine WL.pure rfl rfl rfl (PV.sub rfl rfl (by constructor <;> omega)) ?_
    refine WL.pure rfl rfl rfl (PV.assign rfl) ?_
    refine WL.nilS ?_
    refine CW.seq ?_
    refine CW.seq ?_
    refine CW.reg ?_
    refine WL.pure rfl rfl rfl ((by first | exact PV.fieldAddr T.fl67_2 rfl (by first | assumption | exact Bx.cells (by assumption)) | exact PV.fieldAddrP T.fl67_2 rfl rfl)) ?_
    refine WL.pure rfl rfl rfl ((by first | exact PV.load0 T.na2 rfl (by first | exact Cells.up (by assumption) hB | exact Bx.cells (by assumption) | assumption) (Ext.refl _) rfl | exact PV.load1 T.na2 rfl (by first | exact Cells.up (by assumption) hB | exact Bx.cells (by assumption) | assumption) (Ext.refl _) rfl)) ?_
    refine WL.pure rfl rfl rfl (PV.eql rfl rfl) ?_
    refine WL.nilS ?_
    refine CW.cond rfl (fun hc5 => ?_) (fun hc5 => ?_)
    · skip
      try simp only [decide_eq_true_eq, decide_eq_false_iff_not, Bool.not_eq_true', Bool.not_eq_false', Bool.not_eq_eq_eq_not, Bool.not_true, Bool.not_false, Int.not_lt, Int.not_le, Classical.not_not, beq_iff_eq, beq_eq_false_iff_ne] at hc5
      refine CW.reg ?_
      refine WL.pure rfl rfl rfl ((by first | exact PV.fieldAddr T.fl29_1 rfl (by first | assumption | exact Bx.cells (by assumption)) | exact PV.fieldAddrP T.fl29_1 rfl rfl)) ?_
      refine WL.pure rfl rfl rfl ((by first | exact PV.load0 T.na2 rfl (by first | exact Cells.up (by assumption) hB | exact Bx.cells (by assumption) | assumption) (Ext.refl _) rfl | exact PV.load1 T.na2 rfl (by first | exact Cells.up (by assumption) hB | exact Bx.cells (by assumption) | assumption) (Ext.refl _) rfl)) ?_
      refine WL.pure rfl rfl rfl (PV.sub rfl rfl (by constructor <;> omega)) ?_
      refine WL.pure rfl rfl rfl (PV.assign rfl) ?_
      refine WL.nilS ?_
      refine CW.seq ?_
      refine CW.reg ?_
      refine WL.pure rfl rfl rfl ((by first | exact PV.fieldAddr T.fl67_0 rfl (by first | assumption | exact Bx.cells (by assumption)) | exact PV.fieldAddrP T.fl67_0 rfl rfl)) ?_
      refine WL.pure rfl rfl rfl ((by first | exact PV.load0 T.na2 rfl (by first | exact Cells.up (by assumption) hB | exact Bx.cells (by assumption) | assumption) (Ext.refl _) rfl | exact PV.load1 T.na2 rfl (by first | exact Cells.up (by assumption) hB | exact Bx.cells (by assumption) | assumption) (Ext.refl _) rfl)) ?_
      refine WL.pure rfl rfl rfl ((by first | exact PV.fieldAddr T.fl29_0 rfl (by first | assumption | exact Bx.cells (by assumption)) | exact PV.fieldAddrP T.fl29_0 rfl rfl)) ?_
      refine WL.pure rfl rfl rfl ((by first | exact PV.load0 T.na2 rfl (by first | exact Cells.up (by assumption) hB | exact Bx.cells (by assumption) | assumption) (Ext.refl _) rfl | exact PV.load1 T.na2 rfl (by first | exact Cells.up (by assumption) hB | exact Bx.cells (by assumption) | assumption) (Ext.refl _) rfl)) ?_
      refine WL.pure rfl rfl rfl (PV.sub rfl rfl (by constructor <;> omega)) ?_
      refine WL.op rfl (OpK.callR rfl T.cf58 rfl (c_impl_within) (fun w6 hXw6 => ?_))
      have hB := hB.trans hXw6
      have hb1 := hb1.up hXw6
      have hb2 := hb2.up hXw6
      have hU0 := hU0.ext hXw6
      refine WL.pure rfl rfl rfl (PV.not rfl) ?_
      refine WL.pure rfl rfl rfl (PV.move rfl) ?_
      refine WL.split (t := 45) rfl (fun hc6 => ?_) (fun hc6 => ?_)
      · skip
        try simp only [decide_eq_true_eq, decide_eq_false_iff_not, Bool.not_eq_true', Bool.not_eq_false', Bool.not_eq_eq_eq_not, Bool.not_true, Bool.not_false, Int.not_lt, Int.not_le, Classical.not_not, beq_iff_eq, beq_eq_false_iff_ne] at hc6
        refine WL.skip rfl rfl rfl rfl rfl ?_
        refine WL.skip rfl rfl rfl rfl rfl ?_
        refine WL.skip rfl rfl rfl rfl rfl ?_
        refine WL.skip rfl rfl rfl rfl rfl ?_
        refine WL.skip rfl rfl rfl rfl rfl ?_
        refine WL.pure rfl rfl rfl (PV.pickT rfl rfl) ?_
        refine WL.pure rfl rfl rfl (PV.move rfl) ?_
        refine WL.skip rfl rfl rfl rfl rfl ?_
        refine WL.skip rfl rfl rfl rfl rfl ?_
        refine WL.skip rfl rfl rfl rfl rfl ?_
        refine WL.skip rfl rfl rfl rfl rfl ?_
        refine WL.skip rfl rfl rfl rfl rfl ?_
        refine WL.skip rfl rfl rfl rfl rfl ?_
        refine WL.skip rfl rfl rfl rfl rfl ?_
        refine WL.pure rfl rfl rfl (PV.pickT rfl rfl) ?_
        refine WL.pure rfl rfl rfl (PV.move rfl) ?_
        refine WL.skip rfl rfl rfl rfl rfl ?_
        refine WL.skip rfl rfl rfl rfl rfl ?_
        refine WL.skip rfl rfl rfl rfl rfl ?_
        refine WL.skip rfl rfl rfl rfl rfl ?_
        refine WL.pure rfl rfl rfl (PV.pickT rfl rfl) ?_
        refine WL.nilS ?_
        refine CW.condT rfl ?_
        refine CW.seq ?_
        refine CW.reg ?_
        refine WL.pure rfl rfl rfl (PV.assign rfl) ?_
        refine WL.nilS ?_
        refine CW.ret ?_
        refine RQ.block ?_
        refine RQ.then ?_
        refine RQ.then ?_
        refine RQ.block ?_
        refine RQ.then ?_
        refine RQ.r1 rfl ?_
        refine ⟨?_, hB⟩
        exact bF (by rintro ⟨h1, h2, h3, h4⟩; first | omega | (have h5 := h4 k (by omega); simp only [okR] at h5; omega))
      try simp only [decide_eq_true_eq, decide_eq_false_iff_not, Bool.not_eq_true', Bool.not_eq_false', Bool.not_eq_eq_eq_not, Bool.not_true, Bool.not_false, Int.not_lt, Int.not_le, Classical.not_not, beq_iff_eq, beq_eq_false_iff_ne] at hc6
      refine WL.pureG rfl rfl rfl rfl rfl ((by first | exact PV.fieldAddr T.fl67_1 rfl (by first | assumption | exact Bx.cells (by assumption)) | exact PV.fieldAddrP T.fl67_1 rfl rfl)) ?_
      refine WL.pureG rfl rfl rfl rfl rfl ((by first | exact PV.load0 T.na2 rfl (by first | exact Cells.up (by assumption) hB | exact Bx.cells (by assumption) | assumption) (Ext.refl _) rfl | exact PV.load1 T.na2 rfl (by first | exact Cells.up (by assumption) hB | exact Bx.cells (by assumption) | assumption) (Ext.refl _) rfl)) ?_
      refine WL.pureG rfl rfl rfl rfl rfl (PV.move rfl) ?_
      refine WL.opG rfl rfl rfl (OpK.callR rfl T.cf58 rfl (c_impl_within) (fun w7 hXw7 => ?_))
      have hB := hB.trans hXw7
      have hb1 := hb1.up hXw7
      have hb2 := hb2.up hXw7
      have hU0 := hU0.ext hXw7
      refine WL.pureG rfl rfl rfl rfl rfl (PV.not rfl) ?_
      refine WL.pure rfl rfl rfl (PV.pickF rfl rfl) ?_
      refine WL.pure rfl rfl rfl (PV.move rfl) ?_
      refine WL.split (t := 52) rfl (fun hc7 => ?_) (fun hc7 => ?_)
      · skip
        try simp only [decide_eq_true_eq, decide_eq_false_iff_not, Bool.not_eq_true', Bool.not_eq_false', Bool.not_eq_eq_eq_not, Bool.not_true, Bool.not_false, Int.not_lt, Int.not_le, Classical.not_not, beq_iff_eq, beq_eq_false_iff_ne] at hc7
        refine WL.skip rfl rfl rfl rfl rfl ?_
        refine WL.skip rfl rfl rfl rfl rfl ?_
        refine WL.skip rfl rfl rfl rfl rfl ?_
        refine WL.skip rfl rfl rfl rfl rfl ?_
        refine WL.skip rfl rfl rfl rfl rfl ?_
        refine WL.skip rfl rfl rfl rfl rfl ?_
        refine WL.skip rfl rfl rfl rfl rfl ?_
        refine WL.pure rfl rfl rfl (PV.pickT rfl rfl) ?_
        refine WL.pure rfl rfl rfl (PV.move rfl) ?_
        refine WL.skip rfl rfl rfl rfl rfl ?_
        refine WL.skip rfl rfl rfl rfl rfl ?_
        refine WL.skip rfl rfl rfl rfl rfl ?_
        refine WL.skip rfl rfl rfl rfl rfl ?_
        refine WL.pure rfl rfl rfl (PV.pickT rfl rfl) ?_
        refine WL.nilS ?_
        refine CW.condT rfl ?_
        refine CW.seq ?_
        refine CW.reg ?_
        refine WL.pure rfl rfl rfl (PV.assign rfl) ?_
        refine WL.nilS ?_
        refine CW.ret ?_
        refine RQ.block ?_
        refine RQ.then ?_
        refine RQ.then ?_
        refine RQ.block ?_
        refine RQ.then ?_
        refine RQ.r1 rfl ?_
        refine ⟨?_, hB⟩
        exact bF (by rintro ⟨h1, h2, h3, h4⟩; first | omega | (have h5 := h4 k (by omega); simp only [okR] at h5; omega))
      try simp only [decide_eq_true_eq, decide_eq_false_iff_not, Bool.not_eq_true', Bool.not_eq_false', Bool.not_eq_eq_eq_not, Bool.not_true, Bool.not_false, Int.not_lt, Int.not_le, Classical.not_not, beq_iff_eq, beq_eq_false_iff_ne] at hc7
      refine WL.pureG rfl rfl rfl rfl rfl ((by first | exact PV.fieldAddr T.fl67_2 rfl (by first | assumption | exact Bx.cells (by assumption)) | exact PV.fieldAddrP T.fl67_2 rfl rfl)) ?_
      refine WL.pureG rfl rfl rfl rfl rfl ((by first | exact PV.load0 T.na2 rfl (by first | exact Cells.up (by assumption) hB | exact Bx.cells (by assumption) | assumption) (Ext.refl _) rfl | exact PV.load1 T.na2 rfl (by first | exact Cells.up (by assumption) hB | exact Bx.cells (by assumption) | assumption) (Ext.refl _) rfl)) ?_
      refine WL.pureG rfl rfl rfl rfl rfl ((by first | exact PV.fieldAddr T.fl29_0 rfl (by first | assumption | exact Bx.cells (by assumption)) | exact PV.fieldAddrP T.fl29_0 rfl rfl)) ?_
      refine WL.pureG rfl rfl rfl rfl rfl ((by first | exact PV.load0 T.na2 rfl (by first | exact Cells.up (by assumption) hB | exact Bx.cells (by assumption) | assumption) (Ext.refl _) rfl | exact PV.load1 T.na2 rfl (by first | exact Cells.up (by assumption) hB | exact Bx.cells (by assumption) | assumption) (Ext.refl _) rfl)) ?_
      refine WL.pureG rfl rfl rfl rfl rfl (PV.sub rfl rfl (by constructor <;> omega)) ?_
      refine WL.opG rfl rfl rfl (OpK.callR rfl T.cf58 rfl (c_impl_within) (fun w8 hXw8 => ?_))
      have hB := hB.trans hXw8
      have hb1 := hb1.up hXw8
      have hb2 := hb2.up hXw8
      have hU0 := hU0.ext hXw8
      refine WL.pureG rfl rfl rfl rfl rfl (PV.not rfl) ?_
      refine WL.pure rfl rfl rfl (PV.pickF rfl rfl) ?_
      refine WL.pure rfl rfl rfl (PV.move rfl) ?_
      refine WL.split (t := 61) rfl (fun hc8 => ?_) (fun hc8 => ?_)
      · skip
        try simp only [decide_eq_true_eq, decide_eq_false_iff_not, Bool.not_eq_true', Bool.not_eq_false', Bool.not_eq_eq_eq_not, Bool.not_true, Bool.not_false, Int.not_lt, Int.not_le, Classical.not_not, beq_iff_eq, beq_eq_false_iff_ne] at hc8
        refine WL.skip rfl rfl rfl rfl rfl ?_
        refine WL.skip rfl rfl rfl rfl rfl ?_
        refine WL.skip rfl rfl rfl rfl rfl ?_
        refine WL.skip rfl rfl rfl rfl rfl ?_
        refine WL.pure rfl rfl rfl (PV.pickT rfl rfl) ?_
        refine WL.nilS ?_
        refine CW.condT rfl ?_
        refine CW.seq ?_
        refine CW.reg ?_
        refine WL.pure rfl rfl rfl (PV.assign rfl) ?_
        refine WL.nilS ?_
        refine CW.ret ?_
        refine RQ.block ?_
        refine RQ.then ?_
        refine RQ.then ?_
        refine RQ.block ?_
        refine RQ.then ?_
        refine RQ.r1 rfl ?_
        refine ⟨?_, hB⟩
        exact bF (by rintro ⟨h1, h2, h3, h4⟩; first | omega | (have h5 := h4 k (by omega); simp only [okR] at h5; omega))
      try simp only [decide_eq_true_eq, decide_eq_false_iff_not, Bool.not_eq_true', Bool.not_eq_false', Bool.not_eq_eq_eq_not, Bool.not_true, Bool.not_false, Int.not_lt, Int.not_le, Classical.not_not, beq_iff_eq, beq_eq_false_iff_ne] at hc8
      refine WL.pureG rfl rfl rfl rfl rfl ((by first | exact PV.fieldAddr T.fl67_3 rfl (by first | assumption | exact Bx.cells (by assumption)) | exact PV.fieldAddrP T.fl67_3 rfl rfl)) ?_
      refine WL.pureG rfl rfl rfl rfl rfl ((by first | exact PV.load0 T.na2 rfl (by first | exact Cells.up (by assumption) hB | exact Bx.cells (by assumption) | assumption) (Ext.refl _) rfl | exact PV.load1 T.na2 rfl (by first | exact Cells.up (by assumption) hB | exact Bx.cells (by assumption) | assumption) (Ext.refl _) rfl)) ?_
      refine WL.opG rfl rfl rfl (OpK.callR rfl T.cf58 rfl (c_impl_within) (fun w9 hXw9 => ?_))
      have hB := hB.trans hXw9
      have hb1 := hb1.up hXw9
      have hb2 := hb2.up hXw9
      have hU0 := hU0.ext hXw9
      refine WL.pureG rfl rfl rfl rfl rfl (PV.not rfl) ?_
      refine WL.pure rfl rfl rfl (PV.pickF rfl rfl) ?_
      refine WL.nilS ?_
      refine CW.cond rfl (fun hc9 => ?_) (fun hc9 => ?_)
      · skip
        try simp only [decide_eq_true_eq, decide_eq_false_iff_not, Bool.not_eq_true', Bool.not_eq_false', Bool.not_eq_eq_eq_not, Bool.not_true, Bool.not_false, Int.not_lt, Int.not_le, Classical.not_not, beq_iff_eq, beq_eq_false_iff_ne] at hc9
        refine CW.seq ?_
        refine CW.reg ?_
        refine WL.pure rfl rfl rfl (PV.assign rfl) ?_
        refine WL.nilS ?_
        refine CW.ret ?_
        refine RQ.block ?_
        refine RQ.then ?_
        refine RQ.then ?_
        refine RQ.block ?_
        refine RQ.then ?_
        refine RQ.r1 rfl ?_
        refine ⟨?_, hB⟩
        exact bF (by rintro ⟨h1, h2, h3, h4⟩; first | omega | (have h5 := h4 k (by omega); simp only [okR] at h5; omega))
      try simp only [decide_eq_true_eq, decide_eq_false_iff_not, Bool.not_eq_true', Bool.not_eq_false', Bool.not_eq_eq_eq_not, Bool.not_true, Bool.not_false, Int.not_lt, Int.not_le, Classical.not_not, beq_iff_eq, beq_eq_false_iff_ne] at hc9
      refine CW.skip ?_
      refine NQ.block ?_
      refine NQ.then ?_
      refine CW.reg ?_
      refine WL.pure rfl rfl rfl (PV.add rfl rfl (by constructor <;> omega)) ?_
      refine WL.pure rfl rfl rfl (PV.move rfl) ?_
      refine WL.nil ?_
      refine NQ.next (ρ := [(25, _)]) ⟨rfl, rfl, rfl, rfl, trivial⟩ ?_
      exact ⟨_, ⟨k + 1, rfl, rfl, hU0, (by first | omega | assumption | (simp_all; done) | (simp_all; omega)), (by intro q h1; by_cases h : q < k; exact hq q h; obtain rfl : q = k := (by omega); simp only [okR]; omega)⟩, by omega⟩
    try simp only [decide_eq_true_eq, decide_eq_false_iff_not, Bool.not_eq_true', Bool.not_eq_false', Bool.not_eq_eq_eq_not, Bool.not_true, Bool.not_false, Int.not_lt, Int.not_le, Classical.not_not, beq_iff_eq, beq_eq_false_iff_ne] at hc5
    refine CW.skipS ?_
    refine CW.seq ?_
    refine CW.reg ?_
    refine WL.pure rfl rfl rfl ((by first | exact PV.fieldAddr T.fl67_0 rfl (by first | assumption | exact Bx.cells (by assumption)) | exact PV.fieldAddrP T.fl67_0 rfl rfl)) ?_
    refine WL.pure rfl rfl rfl ((by first | exact PV.load0 T.na2 rfl (by first | exact Cells.up (by assumption) hB | exact Bx.cells (by assumption) | assumption) (Ext.refl _) rfl | exact PV.load1 T.na2 rfl (by first | exact Cells.up (by assumption) hB | exact Bx.cells (by assumption) | assumption) (Ext.refl _) rfl)) ?_
    refine WL.pure rfl rfl rfl ((by first | exact PV.fieldAddr T.fl29_0 rfl (by first | assumption | exact Bx.cells (by assumption)) | exact PV.fieldAddrP T.fl29_0 rfl rfl)) ?_
    refine WL.pure rfl rfl rfl ((by first | exact PV.load0 T.na2 rfl (by first | exact Cells.up (by assumption) hB | exact Bx.cells (by assumption) | assumption) (Ext.refl _) rfl | exact PV.load1 T.na2 rfl (by first | exact Cells.up (by assumption) hB | exact Bx.cells (by assumption) | assumption) (Ext.refl _) rfl)) ?_
    refine WL.pure rfl rfl rfl (PV.sub rfl rfl (by constructor <;> omega)) ?_
    refine WL.op rfl (OpK.callR rfl T.cf58 rfl (c_impl_within) (fun w10 hXw10 => ?_))
    have hB := hB.trans hXw10
    have hb1 := hb1.up hXw10
    have hb2 := hb2.up hXw10
    have hU0 := hU0.ext hXw10
    refine WL.pure rfl rfl rfl (PV.not rfl) ?_
    refine WL.pure rfl rfl rfl (PV.move rfl) ?_
    refine WL.split (t := 45) rfl (fun hc10 => ?_) (fun hc10 => ?_)
    · skip
      try simp only [decide_eq_true_eq, decide_eq_false_iff_not, Bool.not_eq_true', Bool.not_eq_false', Bool.not_eq_eq_eq_not, Bool.not_true, Bool.not_false, Int.not_lt, Int.not_le, Classical.not_not, beq_iff_eq, beq_eq_false_iff_ne] at hc10
      refine WL.skip rfl rfl rfl rfl rfl ?_
      refine WL.skip rfl rfl rfl rfl rfl ?_
      refine WL.skip rfl rfl rfl rfl rfl ?_
      refine WL.skip rfl rfl rfl rfl rfl ?_
      refine WL.skip rfl rfl rfl rfl rfl ?_
      refine WL.pure rfl rfl rfl (PV.pickT rfl rfl) ?_
      refine WL.pure rfl rfl rfl (PV.move rfl) ?_
      refine WL.skip rfl rfl rfl rfl rfl ?_
      refine WL.skip rfl rfl rfl rfl rfl ?_
      refine WL.skip rfl rfl rfl rfl rfl ?_
      refine WL.skip rfl rfl rfl rfl rfl ?_
      refine WL.skip rfl rfl rfl rfl rfl ?_
      refine WL.skip rfl rfl rfl rfl rfl ?_
      refine WL.skip rfl rfl rfl rfl rfl ?_
      refine WL.pure rfl rfl rfl (PV.pickT rfl rfl) ?_
      refine WL.pure rfl rfl rfl (PV.move rfl) ?_
      refine WL.skip rfl rfl rfl rfl rfl ?_
      refine WL.skip rfl rfl rfl rfl rfl ?_
      refine WL.skip rfl rfl rfl rfl rfl ?_
      refine WL.skip rfl rfl rfl rfl rfl ?_
      refine WL.pure rfl rfl rfl (PV.pickT rfl rfl) ?_
      refine WL.nilS ?_
      refine CW.condT rfl ?_
      refine CW.seq ?_
      refine CW.reg ?_
      refine WL.pure rfl rfl rfl (PV.assign rfl) ?_
      refine WL.nilS ?_
      refine CW.ret ?_
      refine RQ.block ?_
      refine RQ.then ?_
      refine RQ.then ?_
      refine RQ.block ?_
      refine RQ.then ?_
      refine RQ.r1 rfl ?_
      refine ⟨?_, hB⟩
      exact bF (by rintro ⟨h1, h2, h3, h4⟩; first | omega | (have h5 := h4 k (by omega); simp only [okR] at h5; omega))
    try simp only [decide_eq_true_eq, decide_eq_false_iff_not, Bool.not_eq_true', Bool.not_eq_false', Bool.not_eq_eq_eq_not, Bool.not_true, Bool.not_false, Int.not_lt, Int.not_le, Classical.not_not, beq_iff_eq, beq_eq_false_iff_ne] at hc10
    refine WL.pureG rfl rfl rfl rfl rfl ((by first | exact PV.fieldAddr T.fl67_1 rfl (by first | assumption | exact Bx.cells (by assumption)) | exact PV.fieldAddrP T.fl67_1 rfl rfl)) ?_
    refine WL.pureG rfl rfl rfl rfl rfl ((by first | exact PV.load0 T.na2 rfl (by first | exact Cells.up (by assumption) hB | exact Bx.cells (by assumption) | assumption) (Ext.refl _) rfl | exact PV.load1 T.na2 rfl (by first | exact Cells.up (by assumption) hB | exact Bx.cells (by assumption) | assumption) (Ext.refl _) rfl)) ?_
    refine WL.pureG rfl rfl rfl rfl rfl (PV.move rfl) ?_
    refine WL.opG rfl rfl rfl (OpK.callR rfl T.cf58 rfl (c_impl_within) (fun w11 hXw11 => ?_))
    have hB := hB.trans hXw11
    have hb1 := hb1.up hXw11
    have hb2 := hb2.up hXw11
    have hU0 := hU0.ext hXw11
    refine WL.pureG rfl rfl rfl rfl rfl (PV.not rfl) ?_
    refine WL.pure rfl rfl rfl (PV.pickF rfl rfl) ?_
    refine WL.pure rfl rfl rfl (PV.move rfl) ?_
    refine WL.split (t := 52) rfl (fun hc11 => ?_) (fun hc11 => ?_)
    · skip
      try simp only [decide_eq_true_eq, decide_eq_false_iff_not, Bool.not_eq_true', Bool.not_eq_false', Bool.not_eq_eq_eq_not, Bool.not_true, Bool.not_false, Int.not_lt, Int.not_le, Classical.not_not, beq_iff_eq, beq_eq_false_iff_ne] at hc11
      refine WL.skip rfl rfl rfl rfl rfl ?_
      refine WL.skip rfl rfl rfl rfl rfl ?_
      refine WL.skip rfl rfl rfl rfl rfl ?_
      refine WL.skip rfl rfl rfl rfl rfl ?_
      refine WL.skip rfl rfl rfl rfl rfl ?_
      refine WL.skip rfl rfl rfl rfl rfl ?_
      refine WL.skip rfl rfl rfl rfl rfl ?_
      refine WL.pure rfl rfl rfl (PV.pickT rfl rfl) ?_
      refine WL.pure rfl rfl rfl (PV.move rfl) ?_
      refine WL.skip rfl rfl rfl rfl rfl ?_
      refine WL.skip rfl rfl rfl rfl rfl ?_
      refine WL.skip rfl rfl rfl rfl rfl ?_
      refine WL.skip rfl rfl rfl rfl rfl ?_
      refine WL.pure rfl rfl rfl (PV.pickT rfl rfl) ?_
      refine WL.nilS ?_
      refine CW.condT rfl ?_
      refine CW.seq ?_
      refine CW.reg ?_
      refine WL.pure rfl rfl rfl (PV.assign rfl) ?_
      refine WL.nilS ?_
      refine CW.ret ?_
      refine RQ.block ?_
      refine RQ.then ?_
      refine RQ.then ?_
      refine RQ.block ?_
      refine RQ.then ?_
      refine RQ.r1 rfl ?_
      refine ⟨?_, hB⟩
      exact bF (by rintro ⟨h1, h2, h3, h4⟩; first | omega | (have h5 := h4 k (by omega); simp only [okR] at h5; omega))
    try simp only [decide_eq_true_eq, decide_eq_false_iff_not, Bool.not_eq_true', Bool.not_eq_false', Bool.not_eq_eq_eq_not, Bool.not_true, Bool.not_false, Int.not_lt, Int.not_le, Classical.not_not, beq_iff_eq, beq_eq_false_iff_ne] at hc11
    refine WL.pureG rfl rfl rfl rfl rfl ((by first | exact PV.fieldAddr T.fl67_2 rfl (by first | assumption | exact Bx.cells (by assumption)) | exact PV.fieldAddrP T.fl67_2 rfl rfl)) ?_
    refine WL.pureG rfl rfl rfl rfl rfl ((by first | exact PV.load0 T.na2 rfl (by first | exact Cells.up (by assumption) hB | exact Bx.cells (by assumption) | assumption) (Ext.refl _) rfl | exact PV.load1 T.na2 rfl (by first | exact Cells.up (by assumption) hB | exact Bx.cells (by assumption) | assumption) (Ext.refl _) rfl)) ?_
    refine WL.pureG rfl rfl rfl rfl rfl ((by first | exact PV.fieldAddr T.fl29_0 rfl (by first | assumption | exact Bx.cells (by assumption)) | exact PV.fieldAddrP T.fl29_0 rfl rfl)) ?_
    refine WL.pureG rfl rfl rfl rfl rfl ((by first | exact PV.load0 T.na2 rfl (by first | exact Cells.up (by assumption) hB | exact Bx.cells (by assumption) | assumption) (Ext.refl _) rfl | exact PV.load1 T.na2 rfl (by first | exact Cells.up (by assumption) hB | exact Bx.cells (by assumption) | assumption) (Ext.refl _) rfl)) ?_
    refine WL.pureG rfl rfl rfl rfl rfl (PV.sub rfl rfl (by constructor <;> omega)) ?_
    refine WL.opG rfl rfl rfl (OpK.callR rfl T.cf58 rfl (c_impl_within) (fun w12 hXw12 => ?_))
    have hB := hB.trans hXw12
    have hb1 := hb1.up hXw12
    have hb2 := hb2.up hXw12
    have hU0 := hU0.ext hXw12
    refine WL.pureG rfl rfl rfl rfl rfl (PV.not rfl) ?_
    refine WL.pure rfl rfl rfl (PV.pickF rfl rfl) ?_
    refine WL.pure rfl rfl rfl (PV.move rfl) ?_
    refine WL.split (t := 61) rfl (fun hc12 => ?_) (fun hc12 => ?_)
    · skip
      try simp only [decide_eq_true_eq, decide_eq_false_iff_not, Bool.not_eq_true', Bool.not_eq_false', Bool.not_eq_eq_eq_not, Bool.not_true, Bool.not_false, Int.not_lt, Int.not_le, Classical.not_not, beq_iff_eq, beq_eq_false_iff_ne] at hc12
      refine WL.skip rfl rfl rfl rfl rfl ?_
      refine WL.skip rfl rfl rfl rfl rfl ?_
      refine WL.skip rfl rfl rfl rfl rfl ?_
      refine WL.skip rfl rfl rfl rfl rfl ?_
      refine WL.pure rfl rfl rfl (PV.pickT rfl rfl) ?_
      refine WL.nilS ?_
      refine CW.condT rfl ?_
      refine CW.seq ?_
      refine CW.reg ?_
      refine WL.pure rfl rfl rfl (PV.assign rfl) ?_
      refine WL.nilS ?_
      refine CW.ret ?_
      refine RQ.block ?_
      refine RQ.then ?_
      refine RQ.then ?_
      refine RQ.block ?_
      refine RQ.then ?_
      refine RQ.r1 rfl ?_
      refine ⟨?_, hB⟩
      exact bF (by rintro ⟨h1, h2, h3, h4⟩; first | omega | (have h5 := h4 k (by omega); simp only [okR] at h5; omega))
    try simp only [decide_eq_true_eq, decide_eq_false_iff_not, Bool.not_eq_true', Bool.not_eq_false', Bool.not_eq_eq_eq_not, Bool.not_true, Bool.not_false, Int.not_lt, Int.not_le, Classical.not_not, beq_iff_eq, beq_eq_false_iff_ne] at hc12
    refine WL.pureG rfl rfl rfl rfl rfl ((by first | exact PV.fieldAddr T.fl67_3 rfl (by first | assumption | exact Bx.cells (by assumption)) | exact PV.fieldAddrP T.fl67_3 rfl rfl)) ?_
    refine WL.pureG rfl rfl rfl rfl rfl ((by first | exact PV.load0 T.na2 rfl (by first | exact Cells.up (by assumption) hB | exact Bx.cells (by assumption) | assumption) (Ext.refl _) rfl | exact PV.load1 T.na2 rfl (by first | exact Cells.up (by assumption) hB | exact Bx.cells (by assumption) | assumption) (Ext.refl _) rfl)) ?_
    refine WL.opG rfl rfl rfl (OpK.callR rfl T.cf58 rfl (c_impl_within) (fun w13 hXw13 => ?_))
    have hB := hB.trans hXw13
    have hb1 := hb1.up hXw13
    have hb2 := hb2.up hXw13
    have hU0 := hU0.ext hXw13
    refine WL.pureG rfl rfl rfl rfl rfl (PV.not rfl) ?_
    refine WL.pure rfl rfl rfl (PV.pickF rfl rfl) ?_
    refine WL.nilS ?_
    refine CW.cond rfl (fun hc13 => ?_) (fun hc13 => ?_)
    · skip
      try simp only [decide_eq_true_eq, decide_eq_false_iff_not, Bool.not_eq_true', Bool.not_eq_false', Bool.not_eq_eq_eq_not, Bool.not_true, Bool.not_false, Int.not_lt, Int.not_le, Classical.not_not, beq_iff_eq, beq_eq_false_iff_ne] at hc13
      refine CW.seq ?_
      refine CW.reg ?_
      refine WL.pure rfl rfl rfl (PV.assign rfl) ?_
      refine WL.nilS ?_
      refine CW.ret ?_
      refine RQ.block ?_
      refine RQ.then ?_
      refine RQ.then ?_
      refine RQ.block ?_
      refine RQ.then ?_
      refine RQ.r1 rfl ?_
      refine ⟨?_, hB⟩
      exact bF (by rintro ⟨h1, h2, h3, h4⟩; first | omega | (have h5 := h4 k (by omega); simp only [okR] at h5; omega))
    try simp only [decide_eq_true_eq, decide_eq_false_iff_not, Bool.not_eq_true', Bool.not_eq_false', Bool.not_eq_eq_eq_not, Bool.not_true, Bool.not_false, Int.not_lt, Int.not_le, Classical.not_not, beq_iff_eq, beq_eq_false_iff_ne] at hc13
    refine CW.skip ?_
    refine NQ.block ?_
    refine NQ.then ?_
    refine CW.reg ?_
    refine WL.pure rfl rfl rfl (PV.add rfl rfl (by constructor <;> omega)) ?_
    refine WL.pure rfl rfl rfl (PV.move rfl) ?_
    refine WL.nil ?_
    refine NQ.next (ρ := [(25, _)]) ⟨rfl, rfl, rfl, rfl, trivial⟩ ?_
    exact ⟨_, ⟨k + 1, rfl, rfl, hU0, (by first | omega | assumption | (simp_all; done) | (simp_all; omega)), (by intro q h1; by_cases h : q < k; exact hq q h; obtain rfl : q = k := (by omega); simp only [okR]; omega)⟩, by omega⟩
  try simp only [decide_eq_true_eq, decide_eq_false_iff_not, Bool.not_eq_true', Bool.not_eq_false', Bool.not_eq_eq_eq_not, Bool.not_true, Bool.not_false, Int.not_lt, Int.not_le, Classical.not_not, beq_iff_eq, beq_eq_false_iff_ne] at hc4
  refine CW.exit ?_
  refine XQ.then ?_
  refine XQ.then ?_
  refine XQ.here ?_
  refine NQ.then ?_
  refine CW.seq ?_
  refine CW.reg ?_
  refine WL.pure rfl rfl rfl (PV.assign rfl) ?_
  refine WL.nilS ?_
  refine CW.ret ?_
  refine RQ.r1 rfl ?_
  refine ⟨?_, hB⟩
  exact bT ⟨by omega, by omega, by omega, fun q h => hq q (by omega)⟩
theorem c_math_bits_Mul64 {w : World} {N : Int} (hN : 0 ≤ N ∧ N ≤ 1048576) : Calls Try.prog 104 #[.int .u64 1, .int .u64 N] w (Ret1 (RQt (.tuple #[.int .u64 0, .int .u64 N]) w)) := by
  have hB : Ext w w := Ext.refl w
  refine callsOf (vs := [_, _]) Try.func104 rfl Try.ntmps104 rfl rfl ?_
  refine CW.seq ?_
  refine CW.reg ?_
  refine WL.pure rfl rfl rfl (PV.assign rfl) ?_
  refine WL.pure rfl rfl rfl (PV.assign rfl) ?_
  refine WL.nilS ?_
  refine CW.seq ?_
  refine CW.reg ?_
  refine WL.pure rfl rfl rfl (PV.move rfl) ?_
  refine WL.pure rfl rfl rfl (PV.and rfl rfl) ?_
  refine WL.pure rfl rfl rfl (PV.assign rfl) ?_
  refine WL.nilS ?_
  refine CW.seq ?_
  refine CW.reg ?_
  refine WL.pure rfl rfl rfl (PV.move rfl) ?_
  refine WL.pure rfl rfl rfl (PV.shr rfl rfl (by omega) (by simp [IntKind.bits] <;> omega)) ?_
  refine WL.pure rfl rfl rfl (PV.assign rfl) ?_
  refine WL.nilS ?_
  refine CW.seq ?_
  refine CW.reg ?_
  refine WL.pure rfl rfl rfl (PV.move rfl) ?_
  refine WL.pure rfl rfl rfl (PV.and rfl rfl) ?_
  refine WL.pure rfl rfl rfl (PV.assign rfl) ?_
  refine WL.nilS ?_
  refine CW.seq ?_
  refine CW.reg ?_
  refine WL.pure rfl rfl rfl (PV.move rfl) ?_
  refine WL.pure rfl rfl rfl (PV.shr rfl rfl (by omega) (by simp [IntKind.bits] <;> omega)) ?_
  refine WL.pure rfl rfl rfl (PV.assign rfl) ?_
  refine WL.nilS ?_
  refine CW.seq ?_
  refine CW.reg ?_
  refine WL.pure rfl rfl rfl (PV.move rfl) ?_
  refine WL.pure rfl rfl rfl (PV.move rfl) ?_
  refine WL.pure rfl rfl rfl (PV.mulW rfl rfl) ?_
  refine WL.pure rfl rfl rfl (PV.assign rfl) ?_
  refine WL.nilS ?_
  refine CW.seq ?_
  refine CW.reg ?_
  refine WL.pure rfl rfl rfl (PV.move rfl) ?_
  refine WL.pure rfl rfl rfl (PV.move rfl) ?_
  refine WL.pure rfl rfl rfl (PV.mulW rfl rfl) ?_
  refine WL.pure rfl rfl rfl (PV.move rfl) ?_
  refine WL.pure rfl rfl rfl (PV.shr rfl rfl (by omega) (by simp [IntKind.bits] <;> omega)) ?_
  refine WL.pure rfl rfl rfl (PV.addW rfl rfl) ?_
  refine WL.pure rfl rfl rfl (PV.assign rfl) ?_
  refine WL.nilS ?_
  refine CW.seq ?_
  refine CW.reg ?_
  refine WL.pure rfl rfl rfl (PV.move rfl) ?_
  refine WL.pure rfl rfl rfl (PV.and rfl rfl) ?_
  refine WL.pure rfl rfl rfl (PV.assign rfl) ?_
  refine WL.nilS ?_
  refine CW.seq ?_
  refine CW.reg ?_
  refine WL.pure rfl rfl rfl (PV.move rfl) ?_
  refine WL.pure rfl rfl rfl (PV.shr rfl rfl (by omega) (by simp [IntKind.bits] <;> omega)) ?_
  refine WL.pure rfl rfl rfl (PV.assign rfl) ?_
  refine WL.nilS ?_
  refine CW.seq ?_
  refine CW.reg ?_
  refine WL.pure rfl rfl rfl (PV.move rfl) ?_
  refine WL.pure rfl rfl rfl (PV.move rfl) ?_
  refine WL.pure rfl rfl rfl (PV.move rfl) ?_
  refine WL.pure rfl rfl rfl (PV.mulW rfl rfl) ?_
  refine WL.pure rfl rfl rfl (PV.addW rfl rfl) ?_
  refine WL.pure rfl rfl rfl (PV.assign rfl) ?_
  refine WL.nilS ?_
  refine CW.seq ?_
  refine CW.reg ?_
  refine WL.pure rfl rfl rfl (PV.move rfl) ?_
  refine WL.pure rfl rfl rfl (PV.move rfl) ?_
  refine WL.pure rfl rfl rfl (PV.mulW rfl rfl) ?_
  refine WL.pure rfl rfl rfl (PV.move rfl) ?_
  refine WL.pure rfl rfl rfl (PV.addW rfl rfl) ?_
  refine WL.pure rfl rfl rfl (PV.move rfl) ?_
  refine WL.pure rfl rfl rfl (PV.shr rfl rfl (by omega) (by simp [IntKind.bits] <;> omega)) ?_
  refine WL.pure rfl rfl rfl (PV.addW rfl rfl) ?_
  refine WL.pure rfl rfl rfl (PV.assign rfl) ?_
  refine WL.nilS ?_
  refine CW.seq ?_
  refine CW.reg ?_
  refine WL.pure rfl rfl rfl (PV.move rfl) ?_
  refine WL.pure rfl rfl rfl (PV.move rfl) ?_
  refine WL.pure rfl rfl rfl (PV.mulW rfl rfl) ?_
  refine WL.pure rfl rfl rfl (PV.assign rfl) ?_
  refine WL.nilS ?_
  refine CW.ret ?_
  refine RQ.r2 rfl rfl ?_
  refine ⟨?_, hB⟩
  simp only [mask1, maskZ hN, Int.one_mul, Int.mul_one, Int.zero_mul, Int.mul_zero, shr0 hN, shr0 (N := 1) (by decide), shr0 (N := 0) (by decide), wrapU hN, wrapU (N := 0) (by decide), Int.add_zero, Int.zero_add, maskZ (N := 0) (by decide)]
theorem c_math_bits_Mul {w : World} {N : Int} (hN : 0 ≤ N ∧ N ≤ 1048576) : Calls Try.prog 102 #[.int .u64 1, .int .u64 N] w (Ret1 (RQt (.tuple #[.int .u64 0, .int .u64 N]) w)) := by
  have hB : Ext w w := Ext.refl w
  refine callsOf (vs := [_, _]) Try.func102 rfl Try.ntmps102 rfl rfl ?_
  refine CW.seq ?_
  refine CW.reg ?_
  refine WL.pure rfl rfl rfl (PV.assign rfl) ?_
  refine WL.pure rfl rfl rfl (PV.assign rfl) ?_
  refine WL.nilS ?_
  refine CW.seq ?_
  refine CW.condF rfl ?_
  refine CW.skipS ?_
  refine CW.seq ?_
  refine CW.reg ?_
  refine WL.pure rfl rfl rfl (PV.move rfl) ?_
  refine WL.pure rfl rfl rfl (PV.move rfl) ?_
  refine WL.op rfl (OpK.callR rfl T.cf104 rfl (c_math_bits_Mul64 (by first | assumption | omega | (simp only [marks_len, marksB_len, marksR_len]; omega))) (fun w1 hXw1 => ?_))
  have hB := hB.trans hXw1
  refine WL.pure rfl rfl rfl (PV.move rfl) ?_
  refine WL.pure rfl rfl rfl (PV.extract rfl rfl) ?_
  refine WL.pure rfl rfl rfl (PV.extract rfl rfl) ?_
  refine WL.pure rfl rfl rfl (PV.assign rfl) ?_
  refine WL.pure rfl rfl rfl (PV.assign rfl) ?_
  refine WL.nilS ?_
  refine CW.seq ?_
  refine CW.reg ?_
  refine WL.pure rfl rfl rfl (PV.move rfl) ?_
  refine WL.pure rfl rfl rfl (PV.move rfl) ?_
  refine WL.pure rfl rfl rfl (PV.assign rfl) ?_
  refine WL.pure rfl rfl rfl (PV.assign rfl) ?_
  refine WL.nilS ?_
  refine CW.ret ?_
  refine RQ.r2 rfl rfl ?_
  refine ⟨?_, hB⟩
  rfl

end Go.Proofs.Ytcnjfbhgicoogaa
