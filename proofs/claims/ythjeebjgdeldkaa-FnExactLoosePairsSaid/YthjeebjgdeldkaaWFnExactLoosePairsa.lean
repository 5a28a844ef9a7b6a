/- Walks of the functions that the law FnExactLoosePairs reaches: each says what its function computes. No condition. -/
import Derived.Test.YthjeebjgdeldkaaProg
import Derived.Test.YthjeebjgdeldkaaLibM
import Derived.Test.YthjeebjgdeldkaaPlA
import Derived.Test.YthjeebjgdeldkaaLibT
import Derived.Test.YthjeebjgdeldkaaLibV
import Derived.Test.YthjeebjgdeldkaaPlK
import Derived.Test.YthjeebjgdeldkaaPlQ
import Derived.Test.YthjeebjgdeldkaaPlL
import Derived.Test.YthjeebjgdeldkaaPlO
import Derived.Test.YthjeebjgdeldkaaPlG
import Derived.Test.YthjeebjgdeldkaaLibW
import Derived.Test.YthjeebjgdeldkaaPlSo
import Derived.Test.YthjeebjgdeldkaaLibY
import Derived.Test.YthjeebjgdeldkaaPlLs
namespace Go.Proofs.Ythjeebjgdeldkaa.T
open Go Go.WX Go.Proofs

theorem sl26 : slOf Try.prog 26 = some (2, 1, 8) := by kernel_rfl
theorem fl54_0 : flOf Try.prog 54 0 = some (0, 26, 1) := by kernel_rfl
theorem na26 : naOf Try.prog 26 = true := by kernel_rfl
theorem cf98 : cfOf Try.prog 98 = true := by kernel_rfl
theorem fl54_1 : flOf Try.prog 54 1 = some (1, 26, 1) := by kernel_rfl
theorem fl54_2 : flOf Try.prog 54 2 = some (2, 26, 1) := by kernel_rfl
theorem fl54_3 : flOf Try.prog 54 3 = some (3, 26, 1) := by kernel_rfl
theorem sl43 : slOf Try.prog 43 = some (54, 4, 96) := by kernel_rfl
theorem ag54 : agOf Try.prog 54 = some 4 := by kernel_rfl
theorem cf35 : cfOf Try.prog 35 = true := by kernel_rfl
theorem zv2 : zvOf Try.prog 2 = some (.int .i64 0) := by kernel_rfl
theorem na2 : naOf Try.prog 2 = true := by kernel_rfl
theorem sz2 : szOf Try.prog 2 = some 1 := by kernel_rfl
theorem zv58 : zvOf Try.prog 58 = some (.agg #[.slice none 0 0, .slice none 0 0, .slice none 0 0, .slice none 0 0]) := by kernel_rfl
theorem cf18 : cfOf Try.prog 18 = true := by kernel_rfl
theorem fl58_0 : flOf Try.prog 58 0 = some (0, 26, 1) := by kernel_rfl
theorem sz26 : szOf Try.prog 26 = some 1 := by kernel_rfl
theorem fl58_1 : flOf Try.prog 58 1 = some (1, 26, 1) := by kernel_rfl
theorem fl58_2 : flOf Try.prog 58 2 = some (2, 26, 1) := by kernel_rfl
theorem fl58_3 : flOf Try.prog 58 3 = some (3, 26, 1) := by kernel_rfl
theorem ag58 : agOf Try.prog 58 = some 4 := by kernel_rfl
theorem sz58 : szOf Try.prog 58 = some 4 := by kernel_rfl
theorem sl46 : slOf Try.prog 46 = some (58, 4, 96) := by kernel_rfl
theorem cf37 : cfOf Try.prog 37 = true := by kernel_rfl
theorem cf74 : cfOf Try.prog 74 = true := by kernel_rfl
theorem cf121 : cfOf Try.prog 121 = true := by kernel_rfl
theorem cf100 : cfOf Try.prog 100 = true := by kernel_rfl
theorem cf99 : cfOf Try.prog 99 = true := by kernel_rfl
theorem cf105 : cfOf Try.prog 105 = true := by kernel_rfl
theorem mixed : Try.prog.follows .mixedOrders = true := by kernel_rfl
theorem sl98 : slOf Try.prog 98 = some (102, 4, 48) := by kernel_rfl
theorem zv102 : zvOf Try.prog 102 = some (.agg #[.slice none 0 0, .int .i64 0, .int .i64 0, .int .i64 0]) := by kernel_rfl
theorem cf92 : cfOf Try.prog 92 = true := by kernel_rfl
theorem bu102 : buOf Try.prog 102 = some ([.slice none 0 0, .int .i64 0, .int .i64 0, .int .i64 0], [(0, 1), (1, 1), (2, 1), (3, 1)]) := by kernel_rfl
theorem cf135 : cfOf Try.prog 135 = true := by kernel_rfl
theorem cf133 : cfOf Try.prog 133 = true := by kernel_rfl
theorem cf101 : cfOf Try.prog 101 = true := by kernel_rfl
theorem cf91 : cfOf Try.prog 91 = true := by kernel_rfl
theorem cf102 : cfOf Try.prog 102 = true := by kernel_rfl
theorem cf88 : cfOf Try.prog 88 = true := by kernel_rfl
theorem sl28 : slOf Try.prog 28 = some (26, 1, 24) := by kernel_rfl
theorem zv26 : zvOf Try.prog 26 = some (.slice none 0 0) := by kernel_rfl
theorem cf89 : cfOf Try.prog 89 = true := by kernel_rfl
theorem fl102_0 : flOf Try.prog 102 0 = some (0, 26, 1) := by kernel_rfl
theorem fl102_2 : flOf Try.prog 102 2 = some (2, 3, 1) := by kernel_rfl
theorem na3 : naOf Try.prog 3 = true := by kernel_rfl
theorem cf90 : cfOf Try.prog 90 = true := by kernel_rfl
theorem fl102_1 : flOf Try.prog 102 1 = some (1, 3, 1) := by kernel_rfl
theorem fl102_3 : flOf Try.prog 102 3 = some (3, 3, 1) := by kernel_rfl
theorem cf81 : cfOf Try.prog 81 = true := by kernel_rfl
theorem cf120 : cfOf Try.prog 120 = true := by kernel_rfl
theorem cf67 : cfOf Try.prog 67 = true := by kernel_rfl
theorem cf65 : cfOf Try.prog 65 = true := by kernel_rfl
theorem cf97 : cfOf Try.prog 97 = true := by kernel_rfl
theorem cf129 : cfOf Try.prog 129 = true := by kernel_rfl
theorem cf115 : cfOf Try.prog 115 = true := by kernel_rfl
theorem cf116 : cfOf Try.prog 116 = true := by kernel_rfl
theorem cf132 : cfOf Try.prog 132 = true := by kernel_rfl
theorem cf128 : cfOf Try.prog 128 = true := by kernel_rfl
theorem cf131 : cfOf Try.prog 131 = true := by kernel_rfl
theorem cf106 : cfOf Try.prog 106 = true := by kernel_rfl
theorem cf127 : cfOf Try.prog 127 = true := by kernel_rfl
theorem ik3 : ikOf Try.prog 3 = some .i64 := by kernel_rfl
theorem cf138 : cfOf Try.prog 138 = true := by kernel_rfl
theorem sl105 : slOf Try.prog 105 = some (108, 9, 216) := by kernel_rfl
theorem zv108 : zvOf Try.prog 108 = some (.agg #[.slice none 0 0, .slice none 0 0, .slice none 0 0, .slice none 0 0, .slice none 0 0, .slice none 0 0, .slice none 0 0, .slice none 0 0, .slice none 0 0]) := by kernel_rfl
theorem cf130 : cfOf Try.prog 130 = true := by kernel_rfl
theorem bu108 : buOf Try.prog 108 = some ([.slice none 0 0, .slice none 0 0, .slice none 0 0, .slice none 0 0, .slice none 0 0, .slice none 0 0, .slice none 0 0, .slice none 0 0, .slice none 0 0], [(0, 1), (1, 4), (5, 4)]) := by kernel_rfl
theorem cf117 : cfOf Try.prog 117 = true := by kernel_rfl
theorem cf96 : cfOf Try.prog 96 = true := by kernel_rfl
theorem cf118 : cfOf Try.prog 118 = true := by kernel_rfl
theorem cf93 : cfOf Try.prog 93 = true := by kernel_rfl
theorem cf94 : cfOf Try.prog 94 = true := by kernel_rfl
theorem ag108 : agOf Try.prog 108 = some 9 := by kernel_rfl
theorem sz108 : szOf Try.prog 108 = some 9 := by kernel_rfl
theorem fl108_1 : flOf Try.prog 108 1 = some (1, 58, 4) := by kernel_rfl
theorem fl108_0 : flOf Try.prog 108 0 = some (0, 26, 1) := by kernel_rfl
theorem cf95 : cfOf Try.prog 95 = true := by kernel_rfl
theorem fl108_2 : flOf Try.prog 108 2 = some (5, 58, 4) := by kernel_rfl
theorem cf22 : cfOf Try.prog 22 = true := by kernel_rfl
theorem cf39 : cfOf Try.prog 39 = true := by kernel_rfl
theorem cf24 : cfOf Try.prog 24 = true := by kernel_rfl
theorem cf41 : cfOf Try.prog 41 = true := by kernel_rfl
theorem cf27 : cfOf Try.prog 27 = true := by kernel_rfl
theorem cf29 : cfOf Try.prog 29 = true := by kernel_rfl
theorem cf28 : cfOf Try.prog 28 = true := by kernel_rfl
theorem cf30 : cfOf Try.prog 30 = true := by kernel_rfl
theorem cf20 : cfOf Try.prog 20 = true := by kernel_rfl
theorem bl4 : blOf Try.prog 4 = true := by kernel_rfl
theorem cf31 : cfOf Try.prog 31 = true := by kernel_rfl
theorem cf32 : cfOf Try.prog 32 = true := by kernel_rfl
theorem cf25 : cfOf Try.prog 25 = true := by kernel_rfl
theorem cf26 : cfOf Try.prog 26 = true := by kernel_rfl

end Go.Proofs.Ythjeebjgdeldkaa.T
namespace Go.Proofs.Ythjeebjgdeldkaa
open Go Go.WX Go.Proofs
set_option linter.unusedSimpArgs false
set_option linter.unusedVariables false

theorem c_laws_szInt64S {w : World} {va : Value} {xs : List Int} {left : Int} (ha : Rd EI w va xs) (hlf : left ≤ 1048576 ∧ -1 ≤ left) : Calls Try.prog 98 #[va, .int .i64 left] w (Ret1 (RQt (.int .i64 (max (-1) (left - xs.length))) w)) := by
  have hB : Ext w w := Ext.refl w
  have hla := ha.leI
  refine callsOf (vs := [_, _]) Try.func98 rfl Try.ntmps98 rfl rfl ?_
  refine CW.seq ?_
  refine CW.reg ?_
  refine WL.pure rfl rfl rfl (PV.assign rfl) ?_
  refine WL.nilS ?_
  refine CW.seq ?_
  refine CW.reg ?_
  refine WL.pure rfl rfl rfl (PV.move rfl) ?_
  refine WL.pure rfl rfl rfl (PV.move rfl) ?_
  refine WL.pure rfl rfl rfl ((by first | exact PV.len rfl (by assumption) T.sl26 | exact PV.lenOs rfl (by assumption) T.sl26 | exact PV.len rfl (NL.rd (by assumption)) T.sl26 | exact PV.len rfl (Inn.rd (by assumption) (by omega)) T.sl26)) ?_
  refine WL.pure rfl rfl rfl (PV.sub rfl rfl (by constructor <;> omega)) ?_
  refine WL.pure rfl rfl rfl (PV.assign rfl) ?_
  refine WL.nilS ?_
  refine CW.seq ?_
  refine CW.seq ?_
  refine CW.reg ?_
  refine WL.pure rfl rfl rfl (PV.move rfl) ?_
  refine WL.pure rfl rfl rfl (PV.lss rfl rfl) ?_
  refine WL.nilS ?_
  refine CW.cond rfl (fun hc1 => ?_) (fun hc1 => ?_)
  · skip
    try simp only [decide_eq_true_eq, decide_eq_false_iff_not, Bool.not_eq_true', Bool.not_eq_false', Bool.not_eq_eq_eq_not, Bool.not_true, Bool.not_false, Int.not_lt, Int.not_le, Classical.not_not, beq_iff_eq, beq_eq_false_iff_ne] at hc1
    refine CW.seq ?_
    refine CW.reg ?_
    refine WL.pure rfl rfl rfl (PV.assign rfl) ?_
    refine WL.nilS ?_
    refine CW.ret ?_
    refine RQ.then ?_
    refine RQ.r1 rfl ?_
    refine ⟨?_, hB⟩
    exact iE (by omega)
  try simp only [decide_eq_true_eq, decide_eq_false_iff_not, Bool.not_eq_true', Bool.not_eq_false', Bool.not_eq_eq_eq_not, Bool.not_true, Bool.not_false, Int.not_lt, Int.not_le, Classical.not_not, beq_iff_eq, beq_eq_false_iff_ne] at hc1
  refine CW.skipS ?_
  refine CW.seq ?_
  refine CW.reg ?_
  refine WL.pure rfl rfl rfl (PV.move rfl) ?_
  refine WL.pure rfl rfl rfl (PV.assign rfl) ?_
  refine WL.nilS ?_
  refine CW.ret ?_
  refine RQ.r1 rfl ?_
  refine ⟨?_, hB⟩
  exact iE (by omega)
theorem c_laws_szChange {w : World} {va0 : Value} {xa0 : List Int} {va1 : Value} {xa1 : List Int} {va2 : Value} {xa2 : List Int} {va3 : Value} {xa3 : List Int} {left : Int} (ha0 : Rd EI w va0 xa0) (ha1 : Rd EI w va1 xa1) (ha2 : Rd EI w va2 xa2) (ha3 : Rd EI w va3 xa3) (hlf : left ≤ 1048576 ∧ -1 ≤ left) : Calls Try.prog 35 #[.agg #[va0, va1, va2, va3], .int .i64 left] w (Ret1 (RQt (.int .i64 (max (-1) (left - (xa0.length + xa1.length + xa2.length + xa3.length)))) w)) := by
  have hB : Ext w w := Ext.refl w
  have hla0 := ha0.leI; have hla1 := ha1.leI; have hla2 := ha2.leI; have hla3 := ha3.leI
  refine callsOf (vs := [_, _]) Try.func35 rfl Try.ntmps35 rfl rfl ?_
  refine CW.seq ?_
  refine CW.reg ?_
  refine WL.op rfl (OpK.box rfl rfl (by first | exact Rd.cells1 (by assumption) | exact Osl.cells1 (by assumption) | exact Osn.cells1 (by assumption) | exact Rd.cells1 (NL.rd (by assumption)) | exact Inn.cell1 (by assumption) (by omega) | rfl) (fun b1 w1 hXw1 hb1 hge1 => ?_))
  have hl1 := Lo.new hB hge1
  have hB := hB.trans hXw1
  refine WL.pure rfl rfl rfl (PV.assign rfl) ?_
  refine WL.nilS ?_
  refine CW.seq ?_
  refine CW.reg ?_
  refine WL.pure rfl rfl rfl ((by first | exact PV.fieldAddr T.fl54_0 rfl (by first | assumption | exact Bx.cells (by assumption)) | exact PV.fieldAddrP T.fl54_0 rfl rfl)) ?_
  refine WL.pure rfl rfl rfl ((by first | exact PV.load0 T.na26 rfl (by first | exact Cells.up (by assumption) hB | exact Bx.cells (by assumption) | assumption) (Ext.refl _) rfl | exact PV.load1 T.na26 rfl (by first | exact Cells.up (by assumption) hB | exact Bx.cells (by assumption) | assumption) (Ext.refl _) rfl)) ?_
  refine WL.pure rfl rfl rfl (PV.move rfl) ?_
  refine WL.op rfl (OpK.callR rfl T.cf98 rfl (c_laws_szInt64S (by first | assumption | exact Rd.up (by assumption) hB | exact Osl.rd (by assumption) | exact Osn.rdR (by assumption) | exact NL.rd (by assumption) | exact rdII (by assumption) (by assumption) | exact Inn.rd (by assumption) (by omega)) (by first | assumption | omega | (simp only [marks_len, marksB_len, marksR_len, sumL_marksS, List.length_take]; omega))) (fun w2 hXw2 => ?_))
  have hB := hB.trans hXw2
  have hb1 := hb1.up hXw2
  refine WL.pure rfl rfl rfl (PV.assign rfl) ?_
  refine WL.nilS ?_
  refine CW.seq ?_
  refine CW.seq ?_
  refine CW.reg ?_
  refine WL.pure rfl rfl rfl (PV.move rfl) ?_
  refine WL.pure rfl rfl rfl (PV.lss rfl rfl) ?_
  refine WL.nilS ?_
  refine CW.cond rfl (fun hc1 => ?_) (fun hc1 => ?_)
  · skip
    try simp only [decide_eq_true_eq, decide_eq_false_iff_not, Bool.not_eq_true', Bool.not_eq_false', Bool.not_eq_eq_eq_not, Bool.not_true, Bool.not_false, Int.not_lt, Int.not_le, Classical.not_not, beq_iff_eq, beq_eq_false_iff_ne] at hc1
    refine CW.seq ?_
    refine CW.reg ?_
    refine WL.pure rfl rfl rfl (PV.assign rfl) ?_
    refine WL.nilS ?_
    refine CW.ret ?_
    refine RQ.then ?_
    refine RQ.r1 rfl ?_
    refine ⟨?_, hB⟩
    exact iE (by omega)
  try simp only [decide_eq_true_eq, decide_eq_false_iff_not, Bool.not_eq_true', Bool.not_eq_false', Bool.not_eq_eq_eq_not, Bool.not_true, Bool.not_false, Int.not_lt, Int.not_le, Classical.not_not, beq_iff_eq, beq_eq_false_iff_ne] at hc1
  refine CW.skipS ?_
  refine CW.seq ?_
  refine CW.reg ?_
  refine WL.pure rfl rfl rfl ((by first | exact PV.fieldAddr T.fl54_1 rfl (by first | assumption | exact Bx.cells (by assumption)) | exact PV.fieldAddrP T.fl54_1 rfl rfl)) ?_
  refine WL.pure rfl rfl rfl ((by first | exact PV.load0 T.na26 rfl (by first | exact Cells.up (by assumption) hB | exact Bx.cells (by assumption) | assumption) (Ext.refl _) rfl | exact PV.load1 T.na26 rfl (by first | exact Cells.up (by assumption) hB | exact Bx.cells (by assumption) | assumption) (Ext.refl _) rfl)) ?_
  refine WL.pure rfl rfl rfl (PV.move rfl) ?_
  refine WL.op rfl (OpK.callR rfl T.cf98 rfl (c_laws_szInt64S (by first | assumption | exact Rd.up (by assumption) hB | exact Osl.rd (by assumption) | exact Osn.rdR (by assumption) | exact NL.rd (by assumption) | exact rdII (by assumption) (by assumption) | exact Inn.rd (by assumption) (by omega)) (by first | assumption | omega | (simp only [marks_len, marksB_len, marksR_len, sumL_marksS, List.length_take]; omega))) (fun w3 hXw3 => ?_))
  have hB := hB.trans hXw3
  have hb1 := hb1.up hXw3
  refine WL.pure rfl rfl rfl (PV.assign rfl) ?_
  refine WL.nilS ?_
  refine CW.seq ?_
  refine CW.seq ?_
  refine CW.reg ?_
  refine WL.pure rfl rfl rfl (PV.move rfl) ?_
  refine WL.pure rfl rfl rfl (PV.lss rfl rfl) ?_
  refine WL.nilS ?_
  refine CW.cond rfl (fun hc2 => ?_) (fun hc2 => ?_)
  · skip
    try simp only [decide_eq_true_eq, decide_eq_false_iff_not, Bool.not_eq_true', Bool.not_eq_false', Bool.not_eq_eq_eq_not, Bool.not_true, Bool.not_false, Int.not_lt, Int.not_le, Classical.not_not, beq_iff_eq, beq_eq_false_iff_ne] at hc2
    refine CW.seq ?_
    refine CW.reg ?_
    refine WL.pure rfl rfl rfl (PV.assign rfl) ?_
    refine WL.nilS ?_
    refine CW.ret ?_
    refine RQ.then ?_
    refine RQ.r1 rfl ?_
    refine ⟨?_, hB⟩
    exact iE (by omega)
  try simp only [decide_eq_true_eq, decide_eq_false_iff_not, Bool.not_eq_true', Bool.not_eq_false', Bool.not_eq_eq_eq_not, Bool.not_true, Bool.not_false, Int.not_lt, Int.not_le, Classical.not_not, beq_iff_eq, beq_eq_false_iff_ne] at hc2
  refine CW.skipS ?_
  refine CW.seq ?_
  refine CW.reg ?_
  refine WL.pure rfl rfl rfl ((by first | exact PV.fieldAddr T.fl54_2 rfl (by first | assumption | exact Bx.cells (by assumption)) | exact PV.fieldAddrP T.fl54_2 rfl rfl)) ?_
  refine WL.pure rfl rfl rfl ((by first | exact PV.load0 T.na26 rfl (by first | exact Cells.up (by assumption) hB | exact Bx.cells (by assumption) | assumption) (Ext.refl _) rfl | exact PV.load1 T.na26 rfl (by first | exact Cells.up (by assumption) hB | exact Bx.cells (by assumption) | assumption) (Ext.refl _) rfl)) ?_
  refine WL.pure rfl rfl rfl (PV.move rfl) ?_
  refine WL.op rfl (OpK.callR rfl T.cf98 rfl (c_laws_szInt64S (by first | assumption | exact Rd.up (by assumption) hB | exact Osl.rd (by assumption) | exact Osn.rdR (by assumption) | exact NL.rd (by assumption) | exact rdII (by assumption) (by assumption) | exact Inn.rd (by assumption) (by omega)) (by first | assumption | omega | (simp only [marks_len, marksB_len, marksR_len, sumL_marksS, List.length_take]; omega))) (fun w4 hXw4 => ?_))
  have hB := hB.trans hXw4
  have hb1 := hb1.up hXw4
  refine WL.pure rfl rfl rfl (PV.assign rfl) ?_
  refine WL.nilS ?_
  refine CW.seq ?_
  refine CW.seq ?_
  refine CW.reg ?_
  refine WL.pure rfl rfl rfl (PV.move rfl) ?_
  refine WL.pure rfl rfl rfl (PV.lss rfl rfl) ?_
  refine WL.nilS ?_
  refine CW.cond rfl (fun hc3 => ?_) (fun hc3 => ?_)
  · skip
    try simp only [decide_eq_true_eq, decide_eq_false_iff_not, Bool.not_eq_true', Bool.not_eq_false', Bool.not_eq_eq_eq_not, Bool.not_true, Bool.not_false, Int.not_lt, Int.not_le, Classical.not_not, beq_iff_eq, beq_eq_false_iff_ne] at hc3
    refine CW.seq ?_
    refine CW.reg ?_
    refine WL.pure rfl rfl rfl (PV.assign rfl) ?_
    refine WL.nilS ?_
    refine CW.ret ?_
    refine RQ.then ?_
    refine RQ.r1 rfl ?_
    refine ⟨?_, hB⟩
    exact iE (by omega)
  try simp only [decide_eq_true_eq, decide_eq_false_iff_not, Bool.not_eq_true', Bool.not_eq_false', Bool.not_eq_eq_eq_not, Bool.not_true, Bool.not_false, Int.not_lt, Int.not_le, Classical.not_not, beq_iff_eq, beq_eq_false_iff_ne] at hc3
  refine CW.skipS ?_
  refine CW.seq ?_
  refine CW.reg ?_
  refine WL.pure rfl rfl rfl ((by first | exact PV.fieldAddr T.fl54_3 rfl (by first | assumption | exact Bx.cells (by assumption)) | exact PV.fieldAddrP T.fl54_3 rfl rfl)) ?_
  refine WL.pure rfl rfl rfl ((by first | exact PV.load0 T.na26 rfl (by first | exact Cells.up (by assumption) hB | exact Bx.cells (by assumption) | assumption) (Ext.refl _) rfl | exact PV.load1 T.na26 rfl (by first | exact Cells.up (by assumption) hB | exact Bx.cells (by assumption) | assumption) (Ext.refl _) rfl)) ?_
  refine WL.pure rfl rfl rfl (PV.move rfl) ?_
  refine WL.op rfl (OpK.callR rfl T.cf98 rfl (c_laws_szInt64S (by first | assumption | exact Rd.up (by assumption) hB | exact Osl.rd (by assumption) | exact Osn.rdR (by assumption) | exact NL.rd (by assumption) | exact rdII (by assumption) (by assumption) | exact Inn.rd (by assumption) (by omega)) (by first | assumption | omega | (simp only [marks_len, marksB_len, marksR_len, sumL_marksS, List.length_take]; omega))) (fun w5 hXw5 => ?_))
  have hB := hB.trans hXw5
  have hb1 := hb1.up hXw5
  refine WL.pure rfl rfl rfl (PV.assign rfl) ?_
  refine WL.nilS ?_
  refine CW.seq ?_
  refine CW.seq ?_
  refine CW.reg ?_
  refine WL.pure rfl rfl rfl (PV.move rfl) ?_
  refine WL.pure rfl rfl rfl (PV.lss rfl rfl) ?_
  refine WL.nilS ?_
  refine CW.cond rfl (fun hc4 => ?_) (fun hc4 => ?_)
  · skip
    try simp only [decide_eq_true_eq, decide_eq_false_iff_not, Bool.not_eq_true', Bool.not_eq_false', Bool.not_eq_eq_eq_not, Bool.not_true, Bool.not_false, Int.not_lt, Int.not_le, Classical.not_not, beq_iff_eq, beq_eq_false_iff_ne] at hc4
    refine CW.seq ?_
    refine CW.reg ?_
    refine WL.pure rfl rfl rfl (PV.assign rfl) ?_
    refine WL.nilS ?_
    refine CW.ret ?_
    refine RQ.then ?_
    refine RQ.r1 rfl ?_
    refine ⟨?_, hB⟩
    exact iE (by omega)
  try simp only [decide_eq_true_eq, decide_eq_false_iff_not, Bool.not_eq_true', Bool.not_eq_false', Bool.not_eq_eq_eq_not, Bool.not_true, Bool.not_false, Int.not_lt, Int.not_le, Classical.not_not, beq_iff_eq, beq_eq_false_iff_ne] at hc4
  refine CW.skipS ?_
  refine CW.seq ?_
  refine CW.reg ?_
  refine WL.pure rfl rfl rfl (PV.move rfl) ?_
  refine WL.pure rfl rfl rfl (PV.assign rfl) ?_
  refine WL.nilS ?_
  refine CW.ret ?_
  refine RQ.r1 rfl ?_
  refine ⟨?_, hB⟩
  exact iE (by omega)
theorem c_laws_szChangeS {w : World} {va : Value} {cs : List C4} {left : Int} (ha : Rd ECh w va cs) (hlf : left ≤ 1048576 ∧ -1 ≤ left) : Calls Try.prog 27 #[va, .int .i64 left] w (Ret1 (RQt (.int .i64 (max (-1) (left - (cs.length + sumC cs)))) w)) := by
  have hB : Ext w w := Ext.refl w
  have hla := ha.leI; have hsn := sumC_nn cs
  refine callsOf (vs := [_, _]) Try.func27 rfl Try.ntmps27 rfl rfl ?_
  refine CW.seq ?_
  refine CW.reg ?_
  refine WL.pure rfl rfl rfl (PV.assign rfl) ?_
  refine WL.nilS ?_
  refine CW.seq ?_
  refine CW.reg ?_
  refine WL.pure rfl rfl rfl (PV.move rfl) ?_
  refine WL.pure rfl rfl rfl (PV.move rfl) ?_
  refine WL.pure rfl rfl rfl ((by first | exact PV.len rfl (by assumption) T.sl43 | exact PV.lenOs rfl (by assumption) T.sl43 | exact PV.len rfl (NL.rd (by assumption)) T.sl43 | exact PV.len rfl (Inn.rd (by assumption) (by omega)) T.sl43)) ?_
  refine WL.pure rfl rfl rfl (PV.sub rfl rfl (by constructor <;> omega)) ?_
  refine WL.pure rfl rfl rfl (PV.assign rfl) ?_
  refine WL.nilS ?_
  refine CW.seq ?_
  refine CW.seq ?_
  refine CW.reg ?_
  refine WL.pure rfl rfl rfl (PV.move rfl) ?_
  refine WL.pure rfl rfl rfl (PV.lss rfl rfl) ?_
  refine WL.nilS ?_
  refine CW.cond rfl (fun hc1 => ?_) (fun hc1 => ?_)
  · skip
    try simp only [decide_eq_true_eq, decide_eq_false_iff_not, Bool.not_eq_true', Bool.not_eq_false', Bool.not_eq_eq_eq_not, Bool.not_true, Bool.not_false, Int.not_lt, Int.not_le, Classical.not_not, beq_iff_eq, beq_eq_false_iff_ne] at hc1
    refine CW.seq ?_
    refine CW.reg ?_
    refine WL.pure rfl rfl rfl (PV.assign rfl) ?_
    refine WL.nilS ?_
    refine CW.ret ?_
    refine RQ.then ?_
    refine RQ.r1 rfl ?_
    refine ⟨?_, hB⟩
    first | exact iE (by omega) | (have hss := sumC_succ (css := cs) (k := k) (by omega); exact iE (by omega)) | (have e1 : cs.take k = cs := List.take_of_length_le (by omega); rw [e1] at hl ⊢; exact iE (by omega))
  try simp only [decide_eq_true_eq, decide_eq_false_iff_not, Bool.not_eq_true', Bool.not_eq_false', Bool.not_eq_eq_eq_not, Bool.not_true, Bool.not_false, Int.not_lt, Int.not_le, Classical.not_not, beq_iff_eq, beq_eq_false_iff_ne] at hc1
  refine CW.skipS ?_
  refine CW.seq ?_
  refine CW.seq ?_
  refine CW.reg ?_
  refine WL.pure rfl rfl rfl (PV.assign rfl) ?_
  refine WL.nilS ?_
  refine CW.block ?_
  refine CW.loop (σk := [(0, _)]) (fun ρ wz m => ∃ (k : Nat), ρ = [(1, .int .i64 (left - cs.length - sumC (cs.take k))), (5, .int .i64 (k : Nat))] ∧ m = cs.length - k ∧ UpdL [] w wz ∧ (k ≤ cs.length) ∧ (0 ≤ left - cs.length - sumC (cs.take k))) (ρ₀ := [(1, _), (5, _)]) (m₀ := _) ⟨rfl, rfl, rfl, trivial⟩ ⟨0, (by simp [sumC, sumL]), rfl, (UpdL.refl _ _), (by first | omega | rfl | (simp; done) | assumption | (simp_all; done)), (by simp [sumC, sumL]; omega)⟩ ?_
  rintro _ wl1 _ ⟨k, rfl, rfl, hU0, hk, hl⟩
  have hB := hB.loop hU0 trivial
  have hsk := sumC_nn (cs.take k); have hst := sumC_take cs (k + 1)
  refine CW.seq ?_
  refine CW.seq ?_
  refine CW.reg ?_
  refine WL.pure rfl rfl rfl (PV.move rfl) ?_
  refine WL.pure rfl rfl rfl (PV.move rfl) ?_
  refine WL.pure rfl rfl rfl ((by first | exact PV.len rfl (by assumption) T.sl43 | exact PV.lenOs rfl (by assumption) T.sl43 | exact PV.len rfl (NL.rd (by assumption)) T.sl43 | exact PV.len rfl (Inn.rd (by assumption) (by omega)) T.sl43)) ?_
  refine WL.pure rfl rfl rfl (PV.lss rfl rfl) ?_
  refine WL.nilS ?_
  refine CW.cond rfl (fun hc2 => ?_) (fun hc2 => ?_)
  · skip
    try simp only [decide_eq_true_eq, decide_eq_false_iff_not, Bool.not_eq_true', Bool.not_eq_false', Bool.not_eq_eq_eq_not, Bool.not_true, Bool.not_false, Int.not_lt, Int.not_le, Classical.not_not, beq_iff_eq, beq_eq_false_iff_ne] at hc2
    refine CW.skipS ?_
    refine CW.seq ?_
    refine CW.block ?_
    refine CW.seq ?_
    refine CW.reg ?_
    refine WL.pure rfl rfl rfl (PV.move rfl) ?_
    refine WL.pure rfl rfl rfl (PV.move rfl) ?_
    first
      | refine WL.at (x := .tmp 18) (y := .tmp 19) (E := ECh) (d4) rfl rfl (by first | assumption | exact Inn.rd (by assumption) (by omega)) (by first | omega | (simp only [List.length_set]; omega) | (simp only [List.length_append, List.length_take, List.length_replicate, List.length_drop]; omega)) (fun p1 csp1 hpp1 hcp1 hq => ?_)
      | refine WL.atZ (x := .tmp 18) (y := .tmp 19) (E := ECh) (d4) rfl rfl (by first | assumption | exact Inn.rd (by assumption) (by omega)) (by first | omega | (simp only [List.length_set]; omega) | (simp only [List.length_append, List.length_take, List.length_replicate, List.length_drop]; omega)) (fun p1 csp1 hpp1 hzp1 hcp1 hq => ?_)
    obtain ⟨vq0, vq1, vq2, vq3, rfl, hq0, hq1, hq2, hq3⟩ := ECh.parts hq
    refine WL.pure rfl rfl rfl ((by first | exact PV.indexAddr hpp1 rfl rfl T.sl43 | exact PV.indexAddr hpp1 rfl (by rw [← hzp1]; rfl) T.sl43)) ?_
    refine WL.pure rfl rfl rfl ((by first | exact PV.loadA T.ag54 rfl (by first | exact Cells.up (by assumption) hB | exact Bx.cells (by assumption) | assumption) (Ext.refl _) rfl | exact PV.loadP (ds := [_, _, _, _]) T.ag54 rfl (by first | exact Cells.up (by assumption) hB | exact Bx.cells (by assumption) | assumption) (Ext.refl _) rfl rfl)) ?_
    refine WL.pure rfl rfl rfl (PV.move rfl) ?_
    refine WL.op rfl (OpK.callR rfl T.cf35 rfl (c_laws_szChange (by first | assumption | exact Rd.up (by assumption) hB | exact Osl.rd (by assumption) | exact Osn.rdR (by assumption) | exact NL.rd (by assumption) | exact rdII (by assumption) (by assumption) | exact Inn.rd (by assumption) (by omega)) (by first | assumption | exact Rd.up (by assumption) hB | exact Osl.rd (by assumption) | exact Osn.rdR (by assumption) | exact NL.rd (by assumption) | exact rdII (by assumption) (by assumption) | exact Inn.rd (by assumption) (by omega)) (by first | assumption | exact Rd.up (by assumption) hB | exact Osl.rd (by assumption) | exact Osn.rdR (by assumption) | exact NL.rd (by assumption) | exact rdII (by assumption) (by assumption) | exact Inn.rd (by assumption) (by omega)) (by first | assumption | exact Rd.up (by assumption) hB | exact Osl.rd (by assumption) | exact Osn.rdR (by assumption) | exact NL.rd (by assumption) | exact rdII (by assumption) (by assumption) | exact Inn.rd (by assumption) (by omega)) (by first | assumption | omega | (simp only [marks_len, marksB_len, marksR_len, sumL_marksS, List.length_take]; omega))) (fun w1 hXw1 => ?_))
    have hB := hB.trans hXw1
    have hU0 := hU0.ext hXw1
    refine WL.pure rfl rfl rfl (PV.assign rfl) ?_
    refine WL.nilS ?_
    refine CW.seq ?_
    refine CW.reg ?_
    refine WL.pure rfl rfl rfl (PV.move rfl) ?_
    refine WL.pure rfl rfl rfl (PV.lss rfl rfl) ?_
    refine WL.nilS ?_
    refine CW.cond rfl (fun hc3 => ?_) (fun hc3 => ?_)
    · skip
      try simp only [decide_eq_true_eq, decide_eq_false_iff_not, Bool.not_eq_true', Bool.not_eq_false', Bool.not_eq_eq_eq_not, Bool.not_true, Bool.not_false, Int.not_lt, Int.not_le, Classical.not_not, beq_iff_eq, beq_eq_false_iff_ne] at hc3
      refine CW.seq ?_
      refine CW.reg ?_
      refine WL.pure rfl rfl rfl (PV.assign rfl) ?_
      refine WL.nilS ?_
      refine CW.ret ?_
      refine RQ.block ?_
      refine RQ.then ?_
      refine RQ.then ?_
      refine RQ.block ?_
      refine RQ.then ?_
      refine RQ.r1 rfl ?_
      refine ⟨?_, hB⟩
      first | exact iE (by omega) | (have hss := sumC_succ (css := cs) (k := k) (by omega); exact iE (by omega)) | (have e1 : cs.take k = cs := List.take_of_length_le (by omega); rw [e1] at hl ⊢; exact iE (by omega))
    try simp only [decide_eq_true_eq, decide_eq_false_iff_not, Bool.not_eq_true', Bool.not_eq_false', Bool.not_eq_eq_eq_not, Bool.not_true, Bool.not_false, Int.not_lt, Int.not_le, Classical.not_not, beq_iff_eq, beq_eq_false_iff_ne] at hc3
    refine CW.skip ?_
    refine NQ.block ?_
    refine NQ.then ?_
    refine CW.reg ?_
    refine WL.pure rfl rfl rfl (PV.move rfl) ?_
    refine WL.pure rfl rfl rfl (PV.add rfl rfl (by constructor <;> omega)) ?_
    refine WL.pure rfl rfl rfl (PV.assign rfl) ?_
    refine WL.nil ?_
    refine NQ.next (ρ := [(1, _), (5, _)]) ⟨rfl, rfl, rfl, trivial⟩ ?_
    exact ⟨_, ⟨k + 1, (by rw [sumC_succ (by omega)]; congr 4; omega), rfl, hU0, (by first | omega | assumption | (simp_all; done) | (simp_all; omega)), (by rw [sumC_succ (by omega)]; omega)⟩, by omega⟩
  try simp only [decide_eq_true_eq, decide_eq_false_iff_not, Bool.not_eq_true', Bool.not_eq_false', Bool.not_eq_eq_eq_not, Bool.not_true, Bool.not_false, Int.not_lt, Int.not_le, Classical.not_not, beq_iff_eq, beq_eq_false_iff_ne] at hc2
  refine CW.exit ?_
  refine XQ.then ?_
  refine XQ.then ?_
  refine XQ.here ?_
  refine NQ.then ?_
  refine CW.seq ?_
  refine CW.reg ?_
  refine WL.pure rfl rfl rfl (PV.move rfl) ?_
  refine WL.pure rfl rfl rfl (PV.assign rfl) ?_
  refine WL.nilS ?_
  refine CW.ret ?_
  refine RQ.r1 rfl ?_
  refine ⟨?_, hB⟩
  first | exact iE (by omega) | (have hss := sumC_succ (css := cs) (k := k) (by omega); exact iE (by omega)) | (have e1 : cs.take k = cs := List.take_of_length_le (by omega); rw [e1] at hl ⊢; exact iE (by omega))
theorem c_laws_toInt64S {w : World} {va : Value} {xs : List Int} (ha : Rd EI w va xs) (hN : xs.length ≤ 1048576) : Calls Try.prog 18 #[va] w (Ret1 (fun v w' => Ext w w' ∧ ∃ v1 og_v1, v = v1 ∧ Osl VI w' og_v1 v1 (xs) ∧ Lo w og_v1)) := by
  have hB : Ext w w := Ext.refl w
  have hla := ha.leI
  refine callsOf (vs := [_]) Try.func18 rfl Try.ntmps18 rfl rfl ?_
  refine CW.seq ?_
  refine CW.reg ?_
  refine WL.pure rfl rfl rfl (PV.assign rfl) ?_
  refine WL.nilS ?_
  refine CW.seq ?_
  refine CW.reg ?_
  refine WL.pure rfl rfl rfl (PV.move rfl) ?_
  refine WL.pure rfl rfl rfl ((by first | exact PV.len rfl (by assumption) T.sl26 | exact PV.lenOs rfl (by assumption) T.sl26 | exact PV.len rfl (NL.rd (by assumption)) T.sl26 | exact PV.len rfl (Inn.rd (by assumption) (by omega)) T.sl26)) ?_
  first
    | refine WL.op rfl (OpK.makeS VI (0) rfl T.sl26 T.zv2 rfl rfl rfl (by constructor <;> omega) (fun v1 g1 w1 hXw1 ho1 hge1 => ?_))
    | refine WL.op rfl (OpK.makeSZ VI (0) rfl T.sl26 T.zv2 rfl rfl rfl (by omega) (by constructor <;> omega) (fun v1 g1 w1 hXw1 ho1 hge1 => ?_))
  have hl1 := Lo.new hB hge1
  have hB := hB.trans hXw1
  refine WL.pure rfl rfl rfl (PV.assign rfl) ?_
  refine WL.nilS ?_
  refine CW.seq ?_
  refine CW.seq ?_
  refine CW.reg ?_
  refine WL.pure rfl rfl rfl (PV.assign rfl) ?_
  refine WL.nilS ?_
  refine CW.block ?_
  have hlt1 := ho1.ltO
  refine CW.loop (σk := [(0, _), (3, _)]) (fun ρ wz m => ∃ (k : Nat), ρ = [(4, .int .i64 (k : Nat))] ∧ m = xs.length - k ∧ UpdL [(some g1)] w1 wz ∧ Osl VI wz (some g1) v1 (xs.take k ++ List.replicate (xs.length - k) (0 : Int)) ∧ (k ≤ xs.length)) (ρ₀ := [(4, _)]) (m₀ := _) ⟨rfl, rfl, rfl, trivial⟩ ⟨0, rfl, rfl, (UpdL.refl _ _), osE ho1 (by first | rfl | (simp_all; done) | (simp_all; omega)), (by first | omega | rfl | (simp; done) | assumption | (simp_all; done))⟩ ?_
  rintro _ wl1 _ ⟨k, rfl, rfl, hU0, ho1, hk⟩
  have hk0_1 : OkB [(some g1)] w1 (some g1) := OkB.mem (by simp)
  have hB := hB.loop hU0 ⟨hl1, trivial⟩
  refine CW.seq ?_
  refine CW.seq ?_
  refine CW.reg ?_
  refine WL.pure rfl rfl rfl (PV.move rfl) ?_
  refine WL.pure rfl rfl rfl (PV.move rfl) ?_
  refine WL.pure rfl rfl rfl ((by first | exact PV.len rfl (by assumption) T.sl26 | exact PV.lenOs rfl (by assumption) T.sl26 | exact PV.len rfl (NL.rd (by assumption)) T.sl26 | exact PV.len rfl (Inn.rd (by assumption) (by omega)) T.sl26)) ?_
  refine WL.pure rfl rfl rfl (PV.lss rfl rfl) ?_
  refine WL.nilS ?_
  refine CW.cond rfl (fun hc1 => ?_) (fun hc1 => ?_)
  · skip
    try simp only [decide_eq_true_eq, decide_eq_false_iff_not, Bool.not_eq_true', Bool.not_eq_false', Bool.not_eq_eq_eq_not, Bool.not_true, Bool.not_false, Int.not_lt, Int.not_le, Classical.not_not, beq_iff_eq, beq_eq_false_iff_ne] at hc1
    refine CW.skipS ?_
    refine CW.seq ?_
    refine CW.block ?_
    refine CW.reg ?_
    refine WL.pure rfl rfl rfl (PV.move rfl) ?_
    refine WL.pure rfl rfl rfl (PV.move rfl) ?_
    refine WL.pure rfl rfl rfl (PV.move rfl) ?_
    refine WL.pure rfl rfl rfl (PV.move rfl) ?_
    first
      | refine WL.at (x := .tmp 16) (y := .tmp 17) (E := EI) (0) rfl rfl (by first | assumption | exact Inn.rd (by assumption) (by omega)) (by first | omega | (simp only [List.length_set]; omega) | (simp only [List.length_append, List.length_take, List.length_replicate, List.length_drop]; omega)) (fun p1 csp1 hpp1 hcp1 hq => ?_)
      | refine WL.atZ (x := .tmp 16) (y := .tmp 17) (E := EI) (0) rfl rfl (by first | assumption | exact Inn.rd (by assumption) (by omega)) (by first | omega | (simp only [List.length_set]; omega) | (simp only [List.length_append, List.length_take, List.length_replicate, List.length_drop]; omega)) (fun p1 csp1 hpp1 hzp1 hcp1 hq => ?_)
    cases hq
    refine WL.pure rfl rfl rfl ((by first | exact PV.indexAddr hpp1 rfl rfl T.sl26 | exact PV.indexAddr hpp1 rfl (by rw [← hzp1]; rfl) T.sl26)) ?_
    refine WL.pure rfl rfl rfl ((by first | exact PV.load0 T.na2 rfl (by first | exact Cells.up (by assumption) hB | exact Bx.cells (by assumption) | assumption) (Ext.refl _) rfl | exact PV.load1 T.na2 rfl (by first | exact Cells.up (by assumption) hB | exact Bx.cells (by assumption) | assumption) (Ext.refl _) rfl)) ?_
    first
      | refine WL.atO (x := .tmp 14) (y := .tmp 15) (f := VI) (0) rfl rfl ho1 (by first | omega | (simp only [List.length_set]; omega) | (simp only [List.length_append, List.length_take, List.length_replicate, List.length_drop]; omega)) (fun p2 hpp2 hcp2 => ?_)
      | refine WL.atOZ (x := .tmp 14) (y := .tmp 15) (f := VI) (0) rfl rfl ho1 (by first | omega | (simp only [List.length_set]; omega) | (simp only [List.length_append, List.length_take, List.length_replicate, List.length_drop]; omega)) (fun p2 hpp2 hzp2 hcp2 => ?_)
    refine WL.pure rfl rfl rfl ((by first | exact PV.indexAddr hpp2 rfl rfl T.sl26 | exact PV.indexAddr hpp2 rfl (by rw [← hzp2]; rfl) T.sl26)) ?_
    refine WL.op rfl (OpK.storeS VI T.sz2 rfl rfl rfl hpp2 ho1 (fun w2 hXw2 ho1 => ?_))
    have hB := hB.updL hXw2 hl1
    have hU0 := hU0.step hXw2 hk0_1
    refine WL.nil ?_
    refine NQ.block ?_
    refine NQ.then ?_
    refine CW.reg ?_
    refine WL.pure rfl rfl rfl (PV.move rfl) ?_
    refine WL.pure rfl rfl rfl (PV.add rfl rfl (by constructor <;> omega)) ?_
    refine WL.pure rfl rfl rfl (PV.assign rfl) ?_
    refine WL.nil ?_
    refine NQ.next (ρ := [(4, _)]) ⟨rfl, rfl, rfl, trivial⟩ ?_
    exact ⟨_, ⟨k + 1, rfl, rfl, hU0, osE ho1 (by exact set_fill (by omega) _ _), (by first | omega | assumption | (simp_all; done) | (simp_all; omega))⟩, by omega⟩
  try simp only [decide_eq_true_eq, decide_eq_false_iff_not, Bool.not_eq_true', Bool.not_eq_false', Bool.not_eq_eq_eq_not, Bool.not_true, Bool.not_false, Int.not_lt, Int.not_le, Classical.not_not, beq_iff_eq, beq_eq_false_iff_ne] at hc1
  refine CW.exit ?_
  refine XQ.then ?_
  refine XQ.then ?_
  refine XQ.here ?_
  refine NQ.then ?_
  refine CW.seq ?_
  refine CW.reg ?_
  refine WL.pure rfl rfl rfl (PV.move rfl) ?_
  refine WL.pure rfl rfl rfl (PV.assign rfl) ?_
  refine WL.nilS ?_
  refine CW.ret ?_
  refine RQ.r1 rfl ?_
  refine ⟨hB, v1, (some g1), ?_, osE ho1 ?_, hl1⟩
  · skip
    rfl
  · skip
    exact fill_done (by omega) _
theorem c_laws_toChange {w : World} {va0 : Value} {xa0 : List Int} {va1 : Value} {xa1 : List Int} {va2 : Value} {xa2 : List Int} {va3 : Value} {xa3 : List Int}  (ha0 : Rd EI w va0 xa0) (ha1 : Rd EI w va1 xa1) (ha2 : Rd EI w va2 xa2) (ha3 : Rd EI w va3 xa3) (hNa0 : xa0.length ≤ 1048576) (hNa1 : xa1.length ≤ 1048576) (hNa2 : xa2.length ≤ 1048576) (hNa3 : xa3.length ≤ 1048576) : Calls Try.prog 37 #[.agg #[va0, va1, va2, va3]] w (Ret1 (fun v w' => Ext w w' ∧ ∃ u0 og_u0 u1 og_u1 u2 og_u2 u3 og_u3, v = .agg #[u0, u1, u2, u3] ∧ Osl VI w' og_u0 u0 (xa0) ∧ Lo w og_u0 ∧ Osl VI w' og_u1 u1 (xa1) ∧ Lo w og_u1 ∧ Osl VI w' og_u2 u2 (xa2) ∧ Lo w og_u2 ∧ Osl VI w' og_u3 u3 (xa3) ∧ Lo w og_u3 ∧ Dj og_u0 og_u1 ∧ Dj og_u0 og_u2 ∧ Dj og_u0 og_u3 ∧ Dj og_u1 og_u2 ∧ Dj og_u1 og_u3 ∧ Dj og_u2 og_u3)) := by
  have hB : Ext w w := Ext.refl w
  have hla0 := ha0.leI; have hla1 := ha1.leI; have hla2 := ha2.leI; have hla3 := ha3.leI
  refine callsOf (vs := [_]) Try.func37 rfl Try.ntmps37 rfl rfl ?_
  refine CW.seq ?_
  refine CW.reg ?_
  refine WL.op rfl (OpK.box rfl rfl (by first | exact Rd.cells1 (by assumption) | exact Osl.cells1 (by assumption) | exact Osn.cells1 (by assumption) | exact Rd.cells1 (NL.rd (by assumption)) | exact Inn.cell1 (by assumption) (by omega) | rfl) (fun b1 w1 hXw1 hb1 hge1 => ?_))
  have hl1 := Lo.new hB hge1
  have hB := hB.trans hXw1
  refine WL.op rfl (OpK.alloc rfl T.zv58 rfl (fun b2 w2 hXw2 hb2 hge2 => ?_))
  have hl2 := Lo.new hB hge2
  have hd1_2 := Dj.new hb1.ltO hge2
  have hB := hB.trans hXw2
  have hb1 := hb1.up hXw2
  refine WL.nilS ?_
  refine CW.seq ?_
  refine CW.reg ?_
  refine WL.op rfl (OpK.alloc rfl T.zv58 rfl (fun b3 w3 hXw3 hb3 hge3 => ?_))
  have hl3 := Lo.new hB hge3
  have hd1_3 := Dj.new hb1.ltO hge3
  have hd2_3 := Dj.new hb2.ltO hge3
  have hB := hB.trans hXw3
  have hb1 := hb1.up hXw3
  have hb2 := hb2.up hXw3
  refine WL.nilS ?_
  refine CW.seq ?_
  refine CW.reg ?_
  refine WL.pure rfl rfl rfl ((by first | exact PV.fieldAddr T.fl54_0 rfl (by first | assumption | exact Bx.cells (by assumption)) | exact PV.fieldAddrP T.fl54_0 rfl rfl)) ?_
  refine WL.pure rfl rfl rfl ((by first | exact PV.load0 T.na26 rfl (by first | exact Cells.up (by assumption) hB | exact Bx.cells (by assumption) | assumption) (Ext.refl _) rfl | exact PV.load1 T.na26 rfl (by first | exact Cells.up (by assumption) hB | exact Bx.cells (by assumption) | assumption) (Ext.refl _) rfl)) ?_
  refine WL.op rfl (OpK.call rfl T.cf18 rfl (c_laws_toInt64S (by first | assumption | exact Rd.up (by assumption) hB | exact Osl.rd (by assumption) | exact Osn.rdR (by assumption) | exact NL.rd (by assumption) | exact rdII (by assumption) (by assumption) | exact Inn.rd (by assumption) (by omega)) (by first | assumption | omega | (simp only [marks_len, marksB_len, marksR_len, sumL_marksS, List.length_take]; omega))) (fun rv1 w4 hR => ?_))
  obtain ⟨hXw4, v4, og4, rfl, ho4, hq4⟩ := hR
  have hl4 := Lo.up hq4 hB
  have hd1_4 := Dj.lo hb1.ltO hq4
  have hd2_4 := Dj.lo hb2.ltO hq4
  have hd3_4 := Dj.lo hb3.ltO hq4
  have hB := hB.trans hXw4
  have hb1 := hb1.up hXw4
  have hb2 := hb2.up hXw4
  have hb3 := hb3.up hXw4
  refine WL.pure rfl rfl rfl ((by first | exact PV.fieldAddr T.fl58_0 rfl (by first | assumption | exact Bx.cells (by assumption)) | exact PV.fieldAddrP T.fl58_0 rfl rfl)) ?_
  first
    | refine WL.op rfl (OpK.storeB T.sz26 rfl rfl (by first | rfl | exact Inn.one1 (by assumption) (by omega) | exact Osl.oneCell (by assumption) | exact Osn.oneCell (by assumption) | exact Rd.oneCell (by assumption) | exact Rd.oneCell (NL.rd (by assumption)) | assumption) hb3 rfl (fun w5 hXw5 hb3 => ?_))
    | refine WL.op rfl (OpK.storeB0 T.sz26 rfl rfl (by first | rfl | exact Inn.one1 (by assumption) (by omega) | exact Osl.oneCell (by assumption) | exact Osn.oneCell (by assumption) | exact Rd.oneCell (by assumption) | exact Rd.oneCell (NL.rd (by assumption)) | assumption) hb3 (fun w5 hXw5 hb3 => ?_))
  have hB := hB.updL hXw5 hl3
  have hb1 := hb1.updD hXw5 hd1_3
  have hb2 := hb2.updD hXw5 hd2_3
  have ho4 := ho4.updD hXw5 (Dj.symm hd3_4)
  refine WL.nilS ?_
  refine CW.seq ?_
  refine CW.reg ?_
  refine WL.pure rfl rfl rfl ((by first | exact PV.fieldAddr T.fl54_1 rfl (by first | assumption | exact Bx.cells (by assumption)) | exact PV.fieldAddrP T.fl54_1 rfl rfl)) ?_
  refine WL.pure rfl rfl rfl ((by first | exact PV.load0 T.na26 rfl (by first | exact Cells.up (by assumption) hB | exact Bx.cells (by assumption) | assumption) (Ext.refl _) rfl | exact PV.load1 T.na26 rfl (by first | exact Cells.up (by assumption) hB | exact Bx.cells (by assumption) | assumption) (Ext.refl _) rfl)) ?_
  refine WL.op rfl (OpK.call rfl T.cf18 rfl (c_laws_toInt64S (by first | assumption | exact Rd.up (by assumption) hB | exact Osl.rd (by assumption) | exact Osn.rdR (by assumption) | exact NL.rd (by assumption) | exact rdII (by assumption) (by assumption) | exact Inn.rd (by assumption) (by omega)) (by first | assumption | omega | (simp only [marks_len, marksB_len, marksR_len, sumL_marksS, List.length_take]; omega))) (fun rv2 w6 hR => ?_))
  obtain ⟨hXw6, v5, og5, rfl, ho5, hq5⟩ := hR
  have hl5 := Lo.up hq5 hB
  have hd1_5 := Dj.lo hb1.ltO hq5
  have hd2_5 := Dj.lo hb2.ltO hq5
  have hd3_5 := Dj.lo hb3.ltO hq5
  have hd4_5 := Dj.lo ho4.ltO hq5
  have hB := hB.trans hXw6
  have hb1 := hb1.up hXw6
  have hb2 := hb2.up hXw6
  have hb3 := hb3.up hXw6
  have ho4 := ho4.up hXw6
  refine WL.pure rfl rfl rfl ((by first | exact PV.fieldAddr T.fl58_1 rfl (by first | assumption | exact Bx.cells (by assumption)) | exact PV.fieldAddrP T.fl58_1 rfl rfl)) ?_
  first
    | refine WL.op rfl (OpK.storeB T.sz26 rfl rfl (by first | rfl | exact Inn.one1 (by assumption) (by omega) | exact Osl.oneCell (by assumption) | exact Osn.oneCell (by assumption) | exact Rd.oneCell (by assumption) | exact Rd.oneCell (NL.rd (by assumption)) | assumption) hb3 rfl (fun w7 hXw7 hb3 => ?_))
    | refine WL.op rfl (OpK.storeB0 T.sz26 rfl rfl (by first | rfl | exact Inn.one1 (by assumption) (by omega) | exact Osl.oneCell (by assumption) | exact Osn.oneCell (by assumption) | exact Rd.oneCell (by assumption) | exact Rd.oneCell (NL.rd (by assumption)) | assumption) hb3 (fun w7 hXw7 hb3 => ?_))
  have hB := hB.updL hXw7 hl3
  have hb1 := hb1.updD hXw7 hd1_3
  have hb2 := hb2.updD hXw7 hd2_3
  have ho4 := ho4.updD hXw7 (Dj.symm hd3_4)
  have ho5 := ho5.updD hXw7 (Dj.symm hd3_5)
  refine WL.nilS ?_
  refine CW.seq ?_
  refine CW.reg ?_
  refine WL.pure rfl rfl rfl ((by first | exact PV.fieldAddr T.fl54_2 rfl (by first | assumption | exact Bx.cells (by assumption)) | exact PV.fieldAddrP T.fl54_2 rfl rfl)) ?_
  refine WL.pure rfl rfl rfl ((by first | exact PV.load0 T.na26 rfl (by first | exact Cells.up (by assumption) hB | exact Bx.cells (by assumption) | assumption) (Ext.refl _) rfl | exact PV.load1 T.na26 rfl (by first | exact Cells.up (by assumption) hB | exact Bx.cells (by assumption) | assumption) (Ext.refl _) rfl)) ?_
  refine WL.op rfl (OpK.call rfl T.cf18 rfl (c_laws_toInt64S (by first | assumption | exact Rd.up (by assumption) hB | exact Osl.rd (by assumption) | exact Osn.rdR (by assumption) | exact NL.rd (by assumption) | exact rdII (by assumption) (by assumption) | exact Inn.rd (by assumption) (by omega)) (by first | assumption | omega | (simp only [marks_len, marksB_len, marksR_len, sumL_marksS, List.length_take]; omega))) (fun rv3 w8 hR => ?_))
  obtain ⟨hXw8, v6, og6, rfl, ho6, hq6⟩ := hR
  have hl6 := Lo.up hq6 hB
  have hd1_6 := Dj.lo hb1.ltO hq6
  have hd2_6 := Dj.lo hb2.ltO hq6
  have hd3_6 := Dj.lo hb3.ltO hq6
  have hd4_6 := Dj.lo ho4.ltO hq6
  have hd5_6 := Dj.lo ho5.ltO hq6
  have hB := hB.trans hXw8
  have hb1 := hb1.up hXw8
  have hb2 := hb2.up hXw8
  have hb3 := hb3.up hXw8
  have ho4 := ho4.up hXw8
  have ho5 := ho5.up hXw8
  refine WL.pure rfl rfl rfl ((by first | exact PV.fieldAddr T.fl58_2 rfl (by first | assumption | exact Bx.cells (by assumption)) | exact PV.fieldAddrP T.fl58_2 rfl rfl)) ?_
  first
    | refine WL.op rfl (OpK.storeB T.sz26 rfl rfl (by first | rfl | exact Inn.one1 (by assumption) (by omega) | exact Osl.oneCell (by assumption) | exact Osn.oneCell (by assumption) | exact Rd.oneCell (by assumption) | exact Rd.oneCell (NL.rd (by assumption)) | assumption) hb3 rfl (fun w9 hXw9 hb3 => ?_))
    | refine WL.op rfl (OpK.storeB0 T.sz26 rfl rfl (by first | rfl | exact Inn.one1 (by assumption) (by omega) | exact Osl.oneCell (by assumption) | exact Osn.oneCell (by assumption) | exact Rd.oneCell (by assumption) | exact Rd.oneCell (NL.rd (by assumption)) | assumption) hb3 (fun w9 hXw9 hb3 => ?_))
  have hB := hB.updL hXw9 hl3
  have hb1 := hb1.updD hXw9 hd1_3
  have hb2 := hb2.updD hXw9 hd2_3
  have ho4 := ho4.updD hXw9 (Dj.symm hd3_4)
  have ho5 := ho5.updD hXw9 (Dj.symm hd3_5)
  have ho6 := ho6.updD hXw9 (Dj.symm hd3_6)
  refine WL.nilS ?_
  refine CW.seq ?_
  refine CW.reg ?_
  refine WL.pure rfl rfl rfl ((by first | exact PV.fieldAddr T.fl54_3 rfl (by first | assumption | exact Bx.cells (by assumption)) | exact PV.fieldAddrP T.fl54_3 rfl rfl)) ?_
  refine WL.pure rfl rfl rfl ((by first | exact PV.load0 T.na26 rfl (by first | exact Cells.up (by assumption) hB | exact Bx.cells (by assumption) | assumption) (Ext.refl _) rfl | exact PV.load1 T.na26 rfl (by first | exact Cells.up (by assumption) hB | exact Bx.cells (by assumption) | assumption) (Ext.refl _) rfl)) ?_
  refine WL.op rfl (OpK.call rfl T.cf18 rfl (c_laws_toInt64S (by first | assumption | exact Rd.up (by assumption) hB | exact Osl.rd (by assumption) | exact Osn.rdR (by assumption) | exact NL.rd (by assumption) | exact rdII (by assumption) (by assumption) | exact Inn.rd (by assumption) (by omega)) (by first | assumption | omega | (simp only [marks_len, marksB_len, marksR_len, sumL_marksS, List.length_take]; omega))) (fun rv4 w10 hR => ?_))
  obtain ⟨hXw10, v7, og7, rfl, ho7, hq7⟩ := hR
  have hl7 := Lo.up hq7 hB
  have hd1_7 := Dj.lo hb1.ltO hq7
  have hd2_7 := Dj.lo hb2.ltO hq7
  have hd3_7 := Dj.lo hb3.ltO hq7
  have hd4_7 := Dj.lo ho4.ltO hq7
  have hd5_7 := Dj.lo ho5.ltO hq7
  have hd6_7 := Dj.lo ho6.ltO hq7
  have hB := hB.trans hXw10
  have hb1 := hb1.up hXw10
  have hb2 := hb2.up hXw10
  have hb3 := hb3.up hXw10
  have ho4 := ho4.up hXw10
  have ho5 := ho5.up hXw10
  have ho6 := ho6.up hXw10
  refine WL.pure rfl rfl rfl ((by first | exact PV.fieldAddr T.fl58_3 rfl (by first | assumption | exact Bx.cells (by assumption)) | exact PV.fieldAddrP T.fl58_3 rfl rfl)) ?_
  first
    | refine WL.op rfl (OpK.storeB T.sz26 rfl rfl (by first | rfl | exact Inn.one1 (by assumption) (by omega) | exact Osl.oneCell (by assumption) | exact Osn.oneCell (by assumption) | exact Rd.oneCell (by assumption) | exact Rd.oneCell (NL.rd (by assumption)) | assumption) hb3 rfl (fun w11 hXw11 hb3 => ?_))
    | refine WL.op rfl (OpK.storeB0 T.sz26 rfl rfl (by first | rfl | exact Inn.one1 (by assumption) (by omega) | exact Osl.oneCell (by assumption) | exact Osn.oneCell (by assumption) | exact Rd.oneCell (by assumption) | exact Rd.oneCell (NL.rd (by assumption)) | assumption) hb3 (fun w11 hXw11 hb3 => ?_))
  have hB := hB.updL hXw11 hl3
  have hb1 := hb1.updD hXw11 hd1_3
  have hb2 := hb2.updD hXw11 hd2_3
  have ho4 := ho4.updD hXw11 (Dj.symm hd3_4)
  have ho5 := ho5.updD hXw11 (Dj.symm hd3_5)
  have ho6 := ho6.updD hXw11 (Dj.symm hd3_6)
  have ho7 := ho7.updD hXw11 (Dj.symm hd3_7)
  refine WL.nilS ?_
  refine CW.seq ?_
  refine CW.reg ?_
  refine WL.pure rfl rfl rfl ((by first | exact PV.loadA T.ag58 rfl (by first | exact Cells.up (by assumption) hB | exact Bx.cells (by assumption) | assumption) (Ext.refl _) rfl | exact PV.loadP (ds := [_, _, _, _]) T.ag58 rfl (by first | exact Cells.up (by assumption) hB | exact Bx.cells (by assumption) | assumption) (Ext.refl _) rfl rfl)) ?_
  refine WL.op rfl (OpK.storeA T.sz58 rfl rfl rfl rfl (by simp [Value.oneCell'] <;> first | done | (repeat' apply And.intro) <;> first | rfl | exact Inn.one1 (by assumption) (by omega) | exact Osl.oneCell (by assumption) | exact Osn.oneCell (by assumption) | exact Rd.oneCell (by assumption) | exact Rd.oneCell (NL.rd (by assumption)) | assumption) hb2 (fun w12 hXw12 hb2 => ?_))
  have hB := hB.updL hXw12 hl2
  have hb1 := hb1.updD hXw12 hd1_2
  have hb3 := hb3.updD hXw12 (Dj.symm hd2_3)
  have ho4 := ho4.updD hXw12 (Dj.symm hd2_4)
  have ho5 := ho5.updD hXw12 (Dj.symm hd2_5)
  have ho6 := ho6.updD hXw12 (Dj.symm hd2_6)
  have ho7 := ho7.updD hXw12 (Dj.symm hd2_7)
  refine WL.nilS ?_
  refine CW.ret ?_
  refine RQ.rc0 T.ag58 rfl (by first | exact Cells.up (by assumption) hB | exact Bx.cells (by assumption) | assumption) rfl ?_
  refine ⟨hB, rv1, og4, rv2, og5, rv3, og6, rv4, og7, ?_, osE ho4 ?_, hl4, osE ho5 ?_, hl5, osE ho6 ?_, hl6, osE ho7 ?_, hl7, hd4_5, hd4_6, hd4_7, hd5_6, hd5_7, hd6_7⟩
  · skip
    rfl
  · skip
    rfl
  · skip
    rfl
  · skip
    rfl
  · skip
    rfl
theorem c_laws_toChangeS {w : World} {va : Value} {cs : List C4}  (ha : Rd ECh w va cs) (hN : cs.length ≤ 1048576) (hS : sumC cs ≤ 1048576) : Calls Try.prog 29 #[va] w (Ret1 (fun v w' => Ext w w' ∧ ∃ u og_u vs_u os_u, v = u ∧ Osn 4 gH4 w' og_u u vs_u ∧ Lo w og_u ∧ Inn w' os_u (vs_u.flatMap gH4) ((cs).flatMap gC4) ∧ LoI w os_u ∧ DI os_u og_u)) := by
  have hB : Ext w w := Ext.refl w
  have hla := ha.leI
  refine callsOf (vs := [_]) Try.func29 rfl Try.ntmps29 rfl rfl ?_
  refine CW.seq ?_
  refine CW.reg ?_
  refine WL.pure rfl rfl rfl (PV.assign rfl) ?_
  refine WL.nilS ?_
  refine CW.seq ?_
  refine CW.reg ?_
  refine WL.pure rfl rfl rfl (PV.move rfl) ?_
  refine WL.pure rfl rfl rfl ((by first | exact PV.len rfl (by assumption) T.sl43 | exact PV.lenOs rfl (by assumption) T.sl43 | exact PV.len rfl (NL.rd (by assumption)) T.sl43 | exact PV.len rfl (Inn.rd (by assumption) (by omega)) T.sl43)) ?_
  refine WL.op rfl (OpK.makeN gH4 (nH4) gH4_ok rfl T.sl46 T.zv58 rfl rfl rfl (by constructor <;> omega) (fun v1 g1 w1 hXw1 ho1 hge1 => ?_))
  have hl1 := Lo.new hB hge1
  have hB := hB.trans hXw1
  refine WL.pure rfl rfl rfl (PV.assign rfl) ?_
  refine WL.nilS ?_
  refine CW.seq ?_
  refine CW.seq ?_
  refine CW.reg ?_
  refine WL.pure rfl rfl rfl (PV.assign rfl) ?_
  refine WL.nilS ?_
  refine CW.block ?_
  have hlt1 := ho1.ltO
  refine CW.loop (σk := [(0, _), (3, _)]) (fun ρ wz m => ∃ (k : Nat) (qs : List H4) (os : List (Option Nat)), ρ = [(4, .int .i64 (k : Nat))] ∧ m = cs.length - k ∧ UpdL [(some g1)] w1 wz ∧ Osn 4 gH4 wz (some g1) v1 (qs ++ List.replicate (cs.length - k) nH4) ∧ (k ≤ cs.length) ∧ (Inn wz os (qs.flatMap gH4) ((cs.take k).flatMap gC4)) ∧ (LoI w1 os) ∧ (qs.length = k)) (ρ₀ := [(4, _)]) (m₀ := _) ⟨rfl, rfl, rfl, trivial⟩ ⟨0, [], [], rfl, rfl, (UpdL.refl _ _), osnE ho1 (by simp), (by first | omega | rfl | (simp; done) | assumption | (simp_all; done)), (by exact Inn.zero _), (by exact LoI.nl _), (by rfl)⟩ ?_
  rintro _ wl1 _ ⟨k, qs, os, rfl, rfl, hU0, ho1, hk, hI, hLI, hql⟩
  have hk0_1 : OkB [(some g1)] w1 (some g1) := OkB.mem (by simp)
  have hB := hB.loop hU0 ⟨hl1, trivial⟩
  have hvl2 : (qs ++ List.replicate (cs.length - k) nH4).length = cs.length := (by simp [hql]; omega)
  refine CW.seq ?_
  refine CW.seq ?_
  refine CW.reg ?_
  refine WL.pure rfl rfl rfl (PV.move rfl) ?_
  refine WL.pure rfl rfl rfl (PV.move rfl) ?_
  refine WL.pure rfl rfl rfl ((by first | exact PV.len rfl (by assumption) T.sl43 | exact PV.lenOs rfl (by assumption) T.sl43 | exact PV.len rfl (NL.rd (by assumption)) T.sl43 | exact PV.len rfl (Inn.rd (by assumption) (by omega)) T.sl43)) ?_
  refine WL.pure rfl rfl rfl (PV.lss rfl rfl) ?_
  refine WL.nilS ?_
  refine CW.cond rfl (fun hc1 => ?_) (fun hc1 => ?_)
  · skip
    try simp only [decide_eq_true_eq, decide_eq_false_iff_not, Bool.not_eq_true', Bool.not_eq_false', Bool.not_eq_eq_eq_not, Bool.not_true, Bool.not_false, Int.not_lt, Int.not_le, Classical.not_not, beq_iff_eq, beq_eq_false_iff_ne] at hc1
    refine CW.skipS ?_
    refine CW.seq ?_
    refine CW.block ?_
    refine CW.reg ?_
    refine WL.pure rfl rfl rfl (PV.move rfl) ?_
    refine WL.pure rfl rfl rfl (PV.move rfl) ?_
    refine WL.pure rfl rfl rfl (PV.move rfl) ?_
    refine WL.pure rfl rfl rfl (PV.move rfl) ?_
    have hsg := sumC_get (css := cs) (k := k) (by omega)
    first
      | refine WL.at (x := .tmp 16) (y := .tmp 17) (E := ECh) (d4) rfl rfl (by first | assumption | exact Inn.rd (by assumption) (by omega)) (by first | omega | (simp only [List.length_set]; omega) | (simp only [List.length_append, List.length_take, List.length_replicate, List.length_drop]; omega)) (fun p1 csp1 hpp1 hcp1 hq => ?_)
      | refine WL.atZ (x := .tmp 16) (y := .tmp 17) (E := ECh) (d4) rfl rfl (by first | assumption | exact Inn.rd (by assumption) (by omega)) (by first | omega | (simp only [List.length_set]; omega) | (simp only [List.length_append, List.length_take, List.length_replicate, List.length_drop]; omega)) (fun p1 csp1 hpp1 hzp1 hcp1 hq => ?_)
    obtain ⟨vq0, vq1, vq2, vq3, rfl, hq0, hq1, hq2, hq3⟩ := ECh.parts hq
    refine WL.pure rfl rfl rfl ((by first | exact PV.indexAddr hpp1 rfl rfl T.sl43 | exact PV.indexAddr hpp1 rfl (by rw [← hzp1]; rfl) T.sl43)) ?_
    refine WL.pure rfl rfl rfl ((by first | exact PV.loadA T.ag54 rfl (by first | exact Cells.up (by assumption) hB | exact Bx.cells (by assumption) | assumption) (Ext.refl _) rfl | exact PV.loadP (ds := [_, _, _, _]) T.ag54 rfl (by first | exact Cells.up (by assumption) hB | exact Bx.cells (by assumption) | assumption) (Ext.refl _) rfl rfl)) ?_
    refine WL.op rfl (OpK.call rfl T.cf37 rfl (c_laws_toChange (by first | assumption | exact Rd.up (by assumption) hB | exact Osl.rd (by assumption) | exact Osn.rdR (by assumption) | exact NL.rd (by assumption) | exact rdII (by assumption) (by assumption) | exact Inn.rd (by assumption) (by omega)) (by first | assumption | exact Rd.up (by assumption) hB | exact Osl.rd (by assumption) | exact Osn.rdR (by assumption) | exact NL.rd (by assumption) | exact rdII (by assumption) (by assumption) | exact Inn.rd (by assumption) (by omega)) (by first | assumption | exact Rd.up (by assumption) hB | exact Osl.rd (by assumption) | exact Osn.rdR (by assumption) | exact NL.rd (by assumption) | exact rdII (by assumption) (by assumption) | exact Inn.rd (by assumption) (by omega)) (by first | assumption | exact Rd.up (by assumption) hB | exact Osl.rd (by assumption) | exact Osn.rdR (by assumption) | exact NL.rd (by assumption) | exact rdII (by assumption) (by assumption) | exact Inn.rd (by assumption) (by omega)) (by first | assumption | omega | (simp only [marks_len, marksB_len, marksR_len, sumL_marksS, List.length_take]; omega)) (by first | assumption | omega | (simp only [marks_len, marksB_len, marksR_len, sumL_marksS, List.length_take]; omega)) (by first | assumption | omega | (simp only [marks_len, marksB_len, marksR_len, sumL_marksS, List.length_take]; omega)) (by first | assumption | omega | (simp only [marks_len, marksB_len, marksR_len, sumL_marksS, List.length_take]; omega))) (fun rv1 w2 hR => ?_))
    obtain ⟨hXw2, v3, og3, v4, og4, v5, og5, v6, og6, rfl, ho3, hq3, ho4, hq4, ho5, hq5, ho6, hq6, hd3_4, hd3_5, hd3_6, hd4_5, hd4_6, hd5_6⟩ := hR
    have hl3 := Lo.up hq3 hB
    have hd1_3 := Dj.lo ho1.ltO hq3
    have hk0_3 := OkN.lo hU0 hq3
    have hg0_3 := OgR.lo hU0.size hq3
    have hl4 := Lo.up hq4 hB
    have hd1_4 := Dj.lo ho1.ltO hq4
    have hk0_4 := OkN.lo hU0 hq4
    have hg0_4 := OgR.lo hU0.size hq4
    have hl5 := Lo.up hq5 hB
    have hd1_5 := Dj.lo ho1.ltO hq5
    have hk0_5 := OkN.lo hU0 hq5
    have hg0_5 := OgR.lo hU0.size hq5
    have hl6 := Lo.up hq6 hB
    have hd1_6 := Dj.lo ho1.ltO hq6
    have hk0_6 := OkN.lo hU0 hq6
    have hg0_6 := OgR.lo hU0.size hq6
    have dI3 := DI.fresh hI hq3; have dI4 := DI.fresh hI hq4; have dI5 := DI.fresh hI hq5; have dI6 := DI.fresh hI hq6; have hI := hI.up hXw2
    have hB := hB.trans hXw2
    have ho1 := ho1.up hXw2
    have hU0 := hU0.ext hXw2
    have hrdp2 := ho1.rd
    first
      | refine WL.at (x := .tmp 14) (y := .tmp 15) (E := (EG 4 gH4 gH4_ok)) (nH4) rfl rfl hrdp2 (by first | omega | (simp only [List.length_set]; omega) | (simp only [List.length_append, List.length_take, List.length_replicate, List.length_drop]; omega)) (fun p2 csp2 hpp2 hcp2 hq => ?_)
      | refine WL.atZ (x := .tmp 14) (y := .tmp 15) (E := (EG 4 gH4 gH4_ok)) (nH4) rfl rfl hrdp2 (by first | omega | (simp only [List.length_set]; omega) | (simp only [List.length_append, List.length_take, List.length_replicate, List.length_drop]; omega)) (fun p2 csp2 hpp2 hzp2 hcp2 hq => ?_)
    cases hq
    refine WL.pure rfl rfl rfl ((by first | exact PV.indexAddr hpp2 rfl rfl T.sl46 | exact PV.indexAddr hpp2 rfl (by rw [← hzp2]; rfl) T.sl46)) ?_
    refine WL.op rfl (OpK.storeN (g := gH4) (shOf v3, shOf v4, shOf v5, shOf v6) T.sz58 rfl (congrArg some (gH4_agg (Osl.rd ho3) (Osl.rd ho4) (Osl.rd ho5) (Osl.rd ho6))) hpp2 ho1 (fun w3 hXw3 ho1 => ?_))
    have hB := hB.updL hXw3 hl1
    have ho3 := ho3.updD hXw3 (Dj.symm hd1_3)
    have ho4 := ho4.updD hXw3 (Dj.symm hd1_4)
    have ho5 := ho5.updD hXw3 (Dj.symm hd1_5)
    have ho6 := ho6.updD hXw3 (Dj.symm hd1_6)
    have hU0 := hU0.step hXw3 hk0_1
    refine WL.nil ?_
    refine NQ.block ?_
    refine NQ.then ?_
    refine CW.reg ?_
    refine WL.pure rfl rfl rfl (PV.move rfl) ?_
    refine WL.pure rfl rfl rfl (PV.add rfl rfl (by constructor <;> omega)) ?_
    refine WL.pure rfl rfl rfl (PV.assign rfl) ?_
    refine WL.nil ?_
    refine NQ.next (ρ := [(4, _)]) ⟨rfl, rfl, rfl, trivial⟩ ?_
    have hI := hI.updD hXw3 (DI.lo hlt1 hLI); have hI9 := innVE ((((hI.put ho3 dI3).put ho4 (DI.put dI4 hd3_4)).put ho5 (DI.put (DI.put dI5 hd3_5) hd4_5)).put ho6 (DI.put (DI.put (DI.put dI6 hd3_6) hd4_6) hd5_6)) (flatH_put (Osl.rd ho3) (Osl.rd ho4) (Osl.rd ho5) (Osl.rd ho6) rfl) (flatC_put (by omega) rfl); have hLI9 := LoI.put (LoI.put (LoI.put (LoI.put hLI (Lo.ogn hg0_3)) (Lo.ogn hg0_4)) (Lo.ogn hg0_5)) (Lo.ogn hg0_6)
    exact ⟨_, ⟨k + 1, qs ++ [(shOf v3, shOf v4, shOf v5, shOf v6)], _, rfl, rfl, hU0, osnE ho1 (by exact fill_setH hql (by omega)), (by first | omega | assumption | (simp_all; done) | (simp_all; omega)), (by exact hI9), (by exact hLI9), (by simp; omega)⟩, by omega⟩
  try simp only [decide_eq_true_eq, decide_eq_false_iff_not, Bool.not_eq_true', Bool.not_eq_false', Bool.not_eq_eq_eq_not, Bool.not_true, Bool.not_false, Int.not_lt, Int.not_le, Classical.not_not, beq_iff_eq, beq_eq_false_iff_ne] at hc1
  refine CW.exit ?_
  refine XQ.then ?_
  refine XQ.then ?_
  refine XQ.here ?_
  refine NQ.then ?_
  refine CW.seq ?_
  refine CW.reg ?_
  refine WL.pure rfl rfl rfl (PV.move rfl) ?_
  refine WL.pure rfl rfl rfl (PV.assign rfl) ?_
  refine WL.nilS ?_
  refine CW.ret ?_
  refine RQ.r1 rfl ?_
  have e1 : cs.take k = cs := List.take_of_length_le (by omega); have e2 : qs ++ List.replicate (cs.length - k) nH4 = qs := (by rw [show cs.length - k = 0 from (by omega)]; simp); rw [e1] at hI; rw [e2] at ho1; exact ⟨hB, _, _, qs, os, rfl, ho1, hl1, hI, LoI.up hLI hXw1, DI.lo hlt1 hLI⟩
theorem c_spec_l00In {w : World} {n lo hi : Int} : Calls Try.prog 74 #[.int .i64 n, .int .i64 lo, .int .i64 hi] w (Ret1 (RQt (.bool (decide (lo ≤ n ∧ n ≤ hi))) w)) := by
  have hB : Ext w w := Ext.refl w
  refine callsOf (vs := [_, _, _]) Try.func74 rfl Try.ntmps74 rfl rfl ?_
  refine CW.seq ?_
  refine CW.reg ?_
  refine WL.pure rfl rfl rfl (PV.assign rfl) ?_
  refine WL.nilS ?_
  refine CW.seq ?_
  refine CW.reg ?_
  refine WL.pure rfl rfl rfl (PV.move rfl) ?_
  refine WL.pure rfl rfl rfl (PV.move rfl) ?_
  refine WL.pure rfl rfl rfl (PV.geq rfl rfl) ?_
  refine WL.pure rfl rfl rfl (PV.move rfl) ?_
  refine WL.split (t := 10) rfl (fun hc1 => ?_) (fun hc1 => ?_)
  rotate_left
  · skip
    try simp only [decide_eq_true_eq, decide_eq_false_iff_not, Bool.not_eq_true', Bool.not_eq_false', Bool.not_eq_eq_eq_not, Bool.not_true, Bool.not_false, Int.not_lt, Int.not_le, Classical.not_not, beq_iff_eq, beq_eq_false_iff_ne] at hc1
    refine WL.skip rfl rfl rfl rfl rfl ?_
    refine WL.skip rfl rfl rfl rfl rfl ?_
    refine WL.skip rfl rfl rfl rfl rfl ?_
    refine WL.pure rfl rfl rfl (PV.pickF rfl rfl) ?_
    refine WL.pure rfl rfl rfl (PV.assign rfl) ?_
    refine WL.nilS ?_
    refine CW.ret ?_
    refine RQ.r1 rfl ?_
    refine ⟨?_, hB⟩
    first | rfl | exact bT (by omega) | exact bF (by omega) | exact bD (by omega) | exact iE (by omega) | (simp_all; done) | (simp_all; omega) | (simp_all; intros; omega)
  try simp only [decide_eq_true_eq, decide_eq_false_iff_not, Bool.not_eq_true', Bool.not_eq_false', Bool.not_eq_eq_eq_not, Bool.not_true, Bool.not_false, Int.not_lt, Int.not_le, Classical.not_not, beq_iff_eq, beq_eq_false_iff_ne] at hc1
  refine WL.pureG rfl rfl rfl rfl rfl (PV.move rfl) ?_
  refine WL.pureG rfl rfl rfl rfl rfl (PV.move rfl) ?_
  refine WL.pureG rfl rfl rfl rfl rfl (PV.leq rfl rfl) ?_
  refine WL.pure rfl rfl rfl (PV.pickT rfl rfl) ?_
  refine WL.pure rfl rfl rfl (PV.assign rfl) ?_
  refine WL.nilS ?_
  refine CW.ret ?_
  refine RQ.r1 rfl ?_
  refine ⟨?_, hB⟩
  first | rfl | exact bT (by omega) | exact bF (by omega) | exact bD (by omega) | exact iE (by omega) | (simp_all; done) | (simp_all; omega) | (simp_all; intros; omega)
theorem c_spec_l05Letters {w : World} {L : Int} : Calls Try.prog 121 #[.int .i64 L] w (Ret1 (RQt (.bool (decide (1 ≤ L ∧ L ≤ 4))) w)) := by
  have hB : Ext w w := Ext.refl w
  refine callsOf (vs := [_]) Try.func121 rfl Try.ntmps121 rfl rfl ?_
  refine CW.seq ?_
  refine CW.reg ?_
  refine WL.pure rfl rfl rfl (PV.assign rfl) ?_
  refine WL.nilS ?_
  refine CW.seq ?_
  refine CW.reg ?_
  refine WL.pure rfl rfl rfl (PV.move rfl) ?_
  refine WL.op rfl (OpK.callR rfl T.cf74 rfl (c_spec_l00In) (fun w1 hXw1 => ?_))
  have hB := hB.trans hXw1
  refine WL.pure rfl rfl rfl (PV.assign rfl) ?_
  refine WL.nilS ?_
  refine CW.ret ?_
  refine RQ.r1 rfl ?_
  refine ⟨?_, hB⟩
  first | rfl | exact bT (by omega) | exact bF (by omega) | exact bD (by omega) | exact iE (by omega) | (simp_all; done) | (simp_all; omega) | (simp_all; intros; omega)
theorem c_spec_l05Long {w : World} {vw : Value} {xs : List Int} {L : Int} (hw : Rd EI w vw xs) : Calls Try.prog 100 #[vw, .int .i64 L] w (Ret1 (RQt (.bool (longB xs L)) w)) := by
  have hB : Ext w w := Ext.refl w
  have hlw := hw.leI
  refine callsOf (vs := [_, _]) Try.func100 rfl Try.ntmps100 rfl rfl ?_
  refine CW.seq ?_
  refine CW.reg ?_
  refine WL.pure rfl rfl rfl (PV.assign rfl) ?_
  refine WL.nilS ?_
  refine CW.seq ?_
  refine CW.seq ?_
  refine CW.reg ?_
  refine WL.pure rfl rfl rfl (PV.move rfl) ?_
  refine WL.op rfl (OpK.callR rfl T.cf121 rfl (c_spec_l05Letters) (fun w1 hXw1 => ?_))
  have hB := hB.trans hXw1
  refine WL.pure rfl rfl rfl (PV.not rfl) ?_
  refine WL.pure rfl rfl rfl (PV.move rfl) ?_
  refine WL.split (t := 9) rfl (fun hc1 => ?_) (fun hc1 => ?_)
  · skip
    try simp only [decide_eq_true_eq, decide_eq_false_iff_not, Bool.not_eq_true', Bool.not_eq_false', Bool.not_eq_eq_eq_not, Bool.not_true, Bool.not_false, Int.not_lt, Int.not_le, Classical.not_not, beq_iff_eq, beq_eq_false_iff_ne] at hc1
    refine WL.skip rfl rfl rfl rfl rfl ?_
    refine WL.skip rfl rfl rfl rfl rfl ?_
    refine WL.skip rfl rfl rfl rfl rfl ?_
    refine WL.pure rfl rfl rfl (PV.pickT rfl rfl) ?_
    refine WL.nilS ?_
    refine CW.condT rfl ?_
    refine CW.seq ?_
    refine CW.reg ?_
    refine WL.pure rfl rfl rfl (PV.assign rfl) ?_
    refine WL.nilS ?_
    refine CW.ret ?_
    refine RQ.then ?_
    refine RQ.r1 rfl ?_
    refine ⟨?_, hB⟩
    exact bE (by simp only [longB]; first | (rw [decide_eq_false (by omega)]; simp; done) | (rw [decide_eq_false (show ¬ xs.length ≤ 24 from by omega)]; simp; done))
  try simp only [decide_eq_true_eq, decide_eq_false_iff_not, Bool.not_eq_true', Bool.not_eq_false', Bool.not_eq_eq_eq_not, Bool.not_true, Bool.not_false, Int.not_lt, Int.not_le, Classical.not_not, beq_iff_eq, beq_eq_false_iff_ne] at hc1
  refine WL.pureG rfl rfl rfl rfl rfl (PV.move rfl) ?_
  refine WL.pureG rfl rfl rfl rfl rfl ((by first | exact PV.len rfl (by assumption) T.sl26 | exact PV.lenOs rfl (by assumption) T.sl26 | exact PV.len rfl (NL.rd (by assumption)) T.sl26 | exact PV.len rfl (Inn.rd (by assumption) (by omega)) T.sl26)) ?_
  refine WL.pureG rfl rfl rfl rfl rfl (PV.gtr rfl rfl) ?_
  refine WL.pure rfl rfl rfl (PV.pickF rfl rfl) ?_
  refine WL.nilS ?_
  refine CW.cond rfl (fun hc2 => ?_) (fun hc2 => ?_)
  · skip
    try simp only [decide_eq_true_eq, decide_eq_false_iff_not, Bool.not_eq_true', Bool.not_eq_false', Bool.not_eq_eq_eq_not, Bool.not_true, Bool.not_false, Int.not_lt, Int.not_le, Classical.not_not, beq_iff_eq, beq_eq_false_iff_ne] at hc2
    refine CW.seq ?_
    refine CW.reg ?_
    refine WL.pure rfl rfl rfl (PV.assign rfl) ?_
    refine WL.nilS ?_
    refine CW.ret ?_
    refine RQ.then ?_
    refine RQ.r1 rfl ?_
    refine ⟨?_, hB⟩
    exact bE (by simp only [longB]; first | (rw [decide_eq_false (by omega)]; simp; done) | (rw [decide_eq_false (show ¬ xs.length ≤ 24 from by omega)]; simp; done))
  try simp only [decide_eq_true_eq, decide_eq_false_iff_not, Bool.not_eq_true', Bool.not_eq_false', Bool.not_eq_eq_eq_not, Bool.not_true, Bool.not_false, Int.not_lt, Int.not_le, Classical.not_not, beq_iff_eq, beq_eq_false_iff_ne] at hc2
  refine CW.skipS ?_
  refine CW.seq ?_
  refine CW.seq ?_
  refine CW.reg ?_
  refine WL.pure rfl rfl rfl (PV.move rfl) ?_
  refine WL.pure rfl rfl rfl ((by first | exact PV.len rfl (by assumption) T.sl26 | exact PV.lenOs rfl (by assumption) T.sl26 | exact PV.len rfl (NL.rd (by assumption)) T.sl26 | exact PV.len rfl (Inn.rd (by assumption) (by omega)) T.sl26)) ?_
  refine WL.pure rfl rfl rfl (PV.move rfl) ?_
  refine WL.nilS ?_
  refine CW.block ?_
  refine CW.loop (σk := [(0, _), (1, _), (15, _)]) (fun ρ wz m => ∃ (k : Nat), ρ = [(16, .int .i64 (k : Nat))] ∧ m = xs.length - k ∧ UpdL [] w1 wz ∧ (k ≤ xs.length) ∧ (allIn (xs.take k) 0 (L - 1) = true)) (ρ₀ := [(16, _)]) (m₀ := _) ⟨rfl, rfl, rfl, rfl, trivial⟩ ⟨0, rfl, rfl, (UpdL.refl _ _), (by first | omega | rfl | (simp; done) | assumption | (simp_all; done)), (by exact allIn_zero _ _ _)⟩ ?_
  rintro _ wl1 _ ⟨k, rfl, rfl, hU0, hk, he⟩
  have hB := hB.loop hU0 trivial
  refine CW.seq ?_
  refine CW.reg ?_
  refine WL.pure rfl rfl rfl (PV.lss rfl rfl) ?_
  refine WL.nilS ?_
  refine CW.seq ?_
  refine CW.cond rfl (fun hc3 => ?_) (fun hc3 => ?_)
  · skip
    try simp only [decide_eq_true_eq, decide_eq_false_iff_not, Bool.not_eq_true', Bool.not_eq_false', Bool.not_eq_eq_eq_not, Bool.not_true, Bool.not_false, Int.not_lt, Int.not_le, Classical.not_not, beq_iff_eq, beq_eq_false_iff_ne] at hc3
    refine CW.skipS ?_
    refine CW.seq ?_
    refine CW.block ?_
    refine CW.seq ?_
    refine CW.reg ?_
    refine WL.pure rfl rfl rfl (PV.move rfl) ?_
    refine WL.pure rfl rfl rfl (PV.assign rfl) ?_
    refine WL.nilS ?_
    refine CW.seq ?_
    refine CW.reg ?_
    refine WL.pure rfl rfl rfl (PV.move rfl) ?_
    refine WL.pure rfl rfl rfl (PV.move rfl) ?_
    first
      | refine WL.at (x := .tmp 19) (y := .tmp 20) (E := EI) (0) rfl rfl (by first | assumption | exact Inn.rd (by assumption) (by omega)) (by first | omega | (simp only [List.length_set]; omega) | (simp only [List.length_append, List.length_take, List.length_replicate, List.length_drop]; omega)) (fun p1 csp1 hpp1 hcp1 hq => ?_)
      | refine WL.atZ (x := .tmp 19) (y := .tmp 20) (E := EI) (0) rfl rfl (by first | assumption | exact Inn.rd (by assumption) (by omega)) (by first | omega | (simp only [List.length_set]; omega) | (simp only [List.length_append, List.length_take, List.length_replicate, List.length_drop]; omega)) (fun p1 csp1 hpp1 hzp1 hcp1 hq => ?_)
    cases hq
    refine WL.pure rfl rfl rfl ((by first | exact PV.indexAddr hpp1 rfl rfl T.sl26 | exact PV.indexAddr hpp1 rfl (by rw [← hzp1]; rfl) T.sl26)) ?_
    refine WL.pure rfl rfl rfl ((by first | exact PV.load0 T.na2 rfl (by first | exact Cells.up (by assumption) hB | exact Bx.cells (by assumption) | assumption) (Ext.refl _) rfl | exact PV.load1 T.na2 rfl (by first | exact Cells.up (by assumption) hB | exact Bx.cells (by assumption) | assumption) (Ext.refl _) rfl)) ?_
    refine WL.pure rfl rfl rfl (PV.move rfl) ?_
    refine WL.pure rfl rfl rfl (PV.sub rfl rfl (by constructor <;> omega)) ?_
    refine WL.op rfl (OpK.callR rfl T.cf74 rfl (c_spec_l00In) (fun w2 hXw2 => ?_))
    have hB := hB.trans hXw2
    have hU0 := hU0.ext hXw2
    refine WL.pure rfl rfl rfl (PV.not rfl) ?_
    refine WL.nilS ?_
    refine CW.cond rfl (fun hc4 => ?_) (fun hc4 => ?_)
    · skip
      try simp only [decide_eq_true_eq, decide_eq_false_iff_not, Bool.not_eq_true', Bool.not_eq_false', Bool.not_eq_eq_eq_not, Bool.not_true, Bool.not_false, Int.not_lt, Int.not_le, Classical.not_not, beq_iff_eq, beq_eq_false_iff_ne] at hc4
      refine CW.seq ?_
      refine CW.reg ?_
      refine WL.pure rfl rfl rfl (PV.assign rfl) ?_
      refine WL.nilS ?_
      refine CW.ret ?_
      refine RQ.block ?_
      refine RQ.then ?_
      refine RQ.then ?_
      refine RQ.block ?_
      refine RQ.then ?_
      refine RQ.r1 rfl ?_
      refine ⟨?_, hB⟩
      exact bE (by simp only [longB]; rw [allIn_bad (k := k) (by omega) (by assumption)]; simp)
    try simp only [decide_eq_true_eq, decide_eq_false_iff_not, Bool.not_eq_true', Bool.not_eq_false', Bool.not_eq_eq_eq_not, Bool.not_true, Bool.not_false, Int.not_lt, Int.not_le, Classical.not_not, beq_iff_eq, beq_eq_false_iff_ne] at hc4
    refine CW.skip ?_
    refine NQ.block ?_
    refine NQ.then ?_
    refine CW.reg ?_
    refine WL.pure rfl rfl rfl (PV.add rfl rfl (by constructor <;> omega)) ?_
    refine WL.pure rfl rfl rfl (PV.move rfl) ?_
    refine WL.nil ?_
    refine NQ.next (ρ := [(16, _)]) ⟨rfl, rfl, rfl, rfl, trivial⟩ ?_
    exact ⟨_, ⟨k + 1, rfl, rfl, hU0, (by first | omega | assumption | (simp_all; done) | (simp_all; omega)), (by exact allIn_step (by omega) he (by assumption))⟩, by omega⟩
  try simp only [decide_eq_true_eq, decide_eq_false_iff_not, Bool.not_eq_true', Bool.not_eq_false', Bool.not_eq_eq_eq_not, Bool.not_true, Bool.not_false, Int.not_lt, Int.not_le, Classical.not_not, beq_iff_eq, beq_eq_false_iff_ne] at hc3
  refine CW.exit ?_
  refine XQ.then ?_
  refine XQ.then ?_
  refine XQ.here ?_
  refine NQ.then ?_
  refine CW.seq ?_
  refine CW.reg ?_
  refine WL.pure rfl rfl rfl (PV.assign rfl) ?_
  refine WL.nilS ?_
  refine CW.ret ?_
  refine RQ.r1 rfl ?_
  refine ⟨?_, hB⟩
  exact bE (by simp only [longB]; rw [allIn_all (k := k) (by omega) he, decide_eq_true (by omega), decide_eq_true (by omega)]; rfl)
theorem c_spec_l05Is {w : World} {pc : Addr} {uc0 uc1 uc2 uc3 : Value} {c : C4} {L : Int} (hbc : Cells w pc [uc0, uc1, uc2, uc3]) (hch0 : Rd EI w uc0 c.1) (hch1 : Rd EI w uc1 c.2.1) (hch2 : Rd EI w uc2 c.2.2.1) (hch3 : Rd EI w uc3 c.2.2.2) : Calls Try.prog 99 #[.pointer (some pc), .int .i64 L] w (Ret1 (RQt (.bool (chB c L)) w)) := by
  have hB : Ext w w := Ext.refl w
  have hlc0 := hch0.leI; have hlc1 := hch1.leI; have hlc2 := hch2.leI; have hlc3 := hch3.leI
  refine callsOf (vs := [_, _]) Try.func99 rfl Try.ntmps99 rfl rfl ?_
  refine CW.seq ?_
  refine CW.reg ?_
  refine WL.pure rfl rfl rfl (PV.assign rfl) ?_
  refine WL.nilS ?_
  refine CW.seq ?_
  refine CW.reg ?_
  refine WL.pure rfl rfl rfl (PV.move rfl) ?_
  refine WL.pure rfl rfl rfl (PV.nilCheck rfl) ?_
  refine WL.pure rfl rfl rfl ((by first | exact PV.fieldAddr T.fl58_0 rfl (by first | assumption | exact Bx.cells (by assumption)) | exact PV.fieldAddrP T.fl58_0 rfl rfl)) ?_
  refine WL.pure rfl rfl rfl ((by first | exact PV.load0 T.na26 rfl (by first | exact Cells.up (by assumption) hB | exact Bx.cells (by assumption) | assumption) (Ext.refl _) rfl | exact PV.load1 T.na26 rfl (by first | exact Cells.up (by assumption) hB | exact Bx.cells (by assumption) | assumption) (Ext.refl _) rfl)) ?_
  refine WL.pure rfl rfl rfl ((by first | exact PV.len rfl (by assumption) T.sl26 | exact PV.lenOs rfl (by assumption) T.sl26 | exact PV.len rfl (NL.rd (by assumption)) T.sl26 | exact PV.len rfl (Inn.rd (by assumption) (by omega)) T.sl26)) ?_
  refine WL.pure rfl rfl rfl (PV.leq rfl rfl) ?_
  refine WL.pure rfl rfl rfl (PV.move rfl) ?_
  refine WL.split (t := 11) rfl (fun hc1 => ?_) (fun hc1 => ?_)
  rotate_left
  · skip
    try simp only [decide_eq_true_eq, decide_eq_false_iff_not, Bool.not_eq_true', Bool.not_eq_false', Bool.not_eq_eq_eq_not, Bool.not_true, Bool.not_false, Int.not_lt, Int.not_le, Classical.not_not, beq_iff_eq, beq_eq_false_iff_ne] at hc1
    refine WL.skip rfl rfl rfl rfl rfl ?_
    refine WL.skip rfl rfl rfl rfl rfl ?_
    refine WL.skip rfl rfl rfl rfl rfl ?_
    refine WL.skip rfl rfl rfl rfl rfl ?_
    refine WL.skip rfl rfl rfl rfl rfl ?_
    refine WL.skip rfl rfl rfl rfl rfl ?_
    refine WL.pure rfl rfl rfl (PV.pickF rfl rfl) ?_
    refine WL.pure rfl rfl rfl (PV.move rfl) ?_
    refine WL.skip rfl rfl rfl rfl rfl ?_
    refine WL.skip rfl rfl rfl rfl rfl ?_
    refine WL.skip rfl rfl rfl rfl rfl ?_
    refine WL.skip rfl rfl rfl rfl rfl ?_
    refine WL.skip rfl rfl rfl rfl rfl ?_
    refine WL.skip rfl rfl rfl rfl rfl ?_
    refine WL.pure rfl rfl rfl (PV.pickF rfl rfl) ?_
    refine WL.pure rfl rfl rfl (PV.move rfl) ?_
    refine WL.skip rfl rfl rfl rfl rfl ?_
    refine WL.skip rfl rfl rfl rfl rfl ?_
    refine WL.skip rfl rfl rfl rfl rfl ?_
    refine WL.skip rfl rfl rfl rfl rfl ?_
    refine WL.skip rfl rfl rfl rfl rfl ?_
    refine WL.skip rfl rfl rfl rfl rfl ?_
    refine WL.pure rfl rfl rfl (PV.pickF rfl rfl) ?_
    refine WL.pure rfl rfl rfl (PV.move rfl) ?_
    refine WL.skip rfl rfl rfl rfl rfl ?_
    refine WL.skip rfl rfl rfl rfl rfl ?_
    refine WL.skip rfl rfl rfl rfl rfl ?_
    refine WL.skip rfl rfl rfl rfl rfl ?_
    refine WL.skip rfl rfl rfl rfl rfl ?_
    refine WL.skip rfl rfl rfl rfl rfl ?_
    refine WL.pure rfl rfl rfl (PV.pickF rfl rfl) ?_
    refine WL.pure rfl rfl rfl (PV.move rfl) ?_
    refine WL.skip rfl rfl rfl rfl rfl ?_
    refine WL.skip rfl rfl rfl rfl rfl ?_
    refine WL.skip rfl rfl rfl rfl rfl ?_
    refine WL.skip rfl rfl rfl rfl rfl ?_
    refine WL.skip rfl rfl rfl rfl rfl ?_
    refine WL.skip rfl rfl rfl rfl rfl ?_
    refine WL.pure rfl rfl rfl (PV.pickF rfl rfl) ?_
    refine WL.pure rfl rfl rfl (PV.move rfl) ?_
    refine WL.skip rfl rfl rfl rfl rfl ?_
    refine WL.skip rfl rfl rfl rfl rfl ?_
    refine WL.skip rfl rfl rfl rfl rfl ?_
    refine WL.skip rfl rfl rfl rfl rfl ?_
    refine WL.skip rfl rfl rfl rfl rfl ?_
    refine WL.skip rfl rfl rfl rfl rfl ?_
    refine WL.pure rfl rfl rfl (PV.pickF rfl rfl) ?_
    refine WL.pure rfl rfl rfl (PV.move rfl) ?_
    refine WL.skip rfl rfl rfl rfl rfl ?_
    refine WL.skip rfl rfl rfl rfl rfl ?_
    refine WL.skip rfl rfl rfl rfl rfl ?_
    refine WL.skip rfl rfl rfl rfl rfl ?_
    refine WL.skip rfl rfl rfl rfl rfl ?_
    refine WL.skip rfl rfl rfl rfl rfl ?_
    refine WL.pure rfl rfl rfl (PV.pickF rfl rfl) ?_
    refine WL.pure rfl rfl rfl (PV.move rfl) ?_
    refine WL.skip rfl rfl rfl rfl rfl ?_
    refine WL.skip rfl rfl rfl rfl rfl ?_
    refine WL.skip rfl rfl rfl rfl rfl ?_
    refine WL.skip rfl rfl rfl rfl rfl ?_
    refine WL.skip rfl rfl rfl rfl rfl ?_
    refine WL.skip rfl rfl rfl rfl rfl ?_
    refine WL.pure rfl rfl rfl (PV.pickF rfl rfl) ?_
    refine WL.pure rfl rfl rfl (PV.assign rfl) ?_
    refine WL.nilS ?_
    refine CW.ret ?_
    refine RQ.r1 rfl ?_
    refine ⟨?_, hB⟩
    first | exact bE (chB_last (by omega) (by assumption) (by assumption) (by assumption)) | exact bE (chB_no1 (by omega)) | exact bE (chB_no2 (by first | exact .inl (by assumption) | exact .inr (.inl (by assumption)) | exact .inr (.inr (by assumption))))
  try simp only [decide_eq_true_eq, decide_eq_false_iff_not, Bool.not_eq_true', Bool.not_eq_false', Bool.not_eq_eq_eq_not, Bool.not_true, Bool.not_false, Int.not_lt, Int.not_le, Classical.not_not, beq_iff_eq, beq_eq_false_iff_ne] at hc1
  refine WL.pureG rfl rfl rfl rfl rfl (PV.move rfl) ?_
  refine WL.pureG rfl rfl rfl rfl rfl (PV.nilCheck rfl) ?_
  refine WL.pureG rfl rfl rfl rfl rfl ((by first | exact PV.fieldAddr T.fl58_1 rfl (by first | assumption | exact Bx.cells (by assumption)) | exact PV.fieldAddrP T.fl58_1 rfl rfl)) ?_
  refine WL.pureG rfl rfl rfl rfl rfl ((by first | exact PV.load0 T.na26 rfl (by first | exact Cells.up (by assumption) hB | exact Bx.cells (by assumption) | assumption) (Ext.refl _) rfl | exact PV.load1 T.na26 rfl (by first | exact Cells.up (by assumption) hB | exact Bx.cells (by assumption) | assumption) (Ext.refl _) rfl)) ?_
  refine WL.pureG rfl rfl rfl rfl rfl ((by first | exact PV.len rfl (by assumption) T.sl26 | exact PV.lenOs rfl (by assumption) T.sl26 | exact PV.len rfl (NL.rd (by assumption)) T.sl26 | exact PV.len rfl (Inn.rd (by assumption) (by omega)) T.sl26)) ?_
  refine WL.pureG rfl rfl rfl rfl rfl (PV.geq rfl rfl) ?_
  refine WL.pure rfl rfl rfl (PV.pickT rfl rfl) ?_
  refine WL.pure rfl rfl rfl (PV.move rfl) ?_
  refine WL.split (t := 19) rfl (fun hc2 => ?_) (fun hc2 => ?_)
  rotate_left
  · skip
    try simp only [decide_eq_true_eq, decide_eq_false_iff_not, Bool.not_eq_true', Bool.not_eq_false', Bool.not_eq_eq_eq_not, Bool.not_true, Bool.not_false, Int.not_lt, Int.not_le, Classical.not_not, beq_iff_eq, beq_eq_false_iff_ne] at hc2
    refine WL.skip rfl rfl rfl rfl rfl ?_
    refine WL.skip rfl rfl rfl rfl rfl ?_
    refine WL.skip rfl rfl rfl rfl rfl ?_
    refine WL.skip rfl rfl rfl rfl rfl ?_
    refine WL.skip rfl rfl rfl rfl rfl ?_
    refine WL.skip rfl rfl rfl rfl rfl ?_
    refine WL.pure rfl rfl rfl (PV.pickF rfl rfl) ?_
    refine WL.pure rfl rfl rfl (PV.move rfl) ?_
    refine WL.skip rfl rfl rfl rfl rfl ?_
    refine WL.skip rfl rfl rfl rfl rfl ?_
    refine WL.skip rfl rfl rfl rfl rfl ?_
    refine WL.skip rfl rfl rfl rfl rfl ?_
    refine WL.skip rfl rfl rfl rfl rfl ?_
    refine WL.skip rfl rfl rfl rfl rfl ?_
    refine WL.pure rfl rfl rfl (PV.pickF rfl rfl) ?_
    refine WL.pure rfl rfl rfl (PV.move rfl) ?_
    refine WL.skip rfl rfl rfl rfl rfl ?_
    refine WL.skip rfl rfl rfl rfl rfl ?_
    refine WL.skip rfl rfl rfl rfl rfl ?_
    refine WL.skip rfl rfl rfl rfl rfl ?_
    refine WL.skip rfl rfl rfl rfl rfl ?_
    refine WL.skip rfl rfl rfl rfl rfl ?_
    refine WL.pure rfl rfl rfl (PV.pickF rfl rfl) ?_
    refine WL.pure rfl rfl rfl (PV.move rfl) ?_
    refine WL.skip rfl rfl rfl rfl rfl ?_
    refine WL.skip rfl rfl rfl rfl rfl ?_
    refine WL.skip rfl rfl rfl rfl rfl ?_
    refine WL.skip rfl rfl rfl rfl rfl ?_
    refine WL.skip rfl rfl rfl rfl rfl ?_
    refine WL.skip rfl rfl rfl rfl rfl ?_
    refine WL.pure rfl rfl rfl (PV.pickF rfl rfl) ?_
    refine WL.pure rfl rfl rfl (PV.move rfl) ?_
    refine WL.skip rfl rfl rfl rfl rfl ?_
    refine WL.skip rfl rfl rfl rfl rfl ?_
    refine WL.skip rfl rfl rfl rfl rfl ?_
    refine WL.skip rfl rfl rfl rfl rfl ?_
    refine WL.skip rfl rfl rfl rfl rfl ?_
    refine WL.skip rfl rfl rfl rfl rfl ?_
    refine WL.pure rfl rfl rfl (PV.pickF rfl rfl) ?_
    refine WL.pure rfl rfl rfl (PV.move rfl) ?_
    refine WL.skip rfl rfl rfl rfl rfl ?_
    refine WL.skip rfl rfl rfl rfl rfl ?_
    refine WL.skip rfl rfl rfl rfl rfl ?_
    refine WL.skip rfl rfl rfl rfl rfl ?_
    refine WL.skip rfl rfl rfl rfl rfl ?_
    refine WL.skip rfl rfl rfl rfl rfl ?_
    refine WL.pure rfl rfl rfl (PV.pickF rfl rfl) ?_
    refine WL.pure rfl rfl rfl (PV.move rfl) ?_
    refine WL.skip rfl rfl rfl rfl rfl ?_
    refine WL.skip rfl rfl rfl rfl rfl ?_
    refine WL.skip rfl rfl rfl rfl rfl ?_
    refine WL.skip rfl rfl rfl rfl rfl ?_
    refine WL.skip rfl rfl rfl rfl rfl ?_
    refine WL.skip rfl rfl rfl rfl rfl ?_
    refine WL.pure rfl rfl rfl (PV.pickF rfl rfl) ?_
    refine WL.pure rfl rfl rfl (PV.assign rfl) ?_
    refine WL.nilS ?_
    refine CW.ret ?_
    refine RQ.r1 rfl ?_
    refine ⟨?_, hB⟩
    first | exact bE (chB_last (by omega) (by assumption) (by assumption) (by assumption)) | exact bE (chB_no1 (by omega)) | exact bE (chB_no2 (by first | exact .inl (by assumption) | exact .inr (.inl (by assumption)) | exact .inr (.inr (by assumption))))
  try simp only [decide_eq_true_eq, decide_eq_false_iff_not, Bool.not_eq_true', Bool.not_eq_false', Bool.not_eq_eq_eq_not, Bool.not_true, Bool.not_false, Int.not_lt, Int.not_le, Classical.not_not, beq_iff_eq, beq_eq_false_iff_ne] at hc2
  refine WL.pureG rfl rfl rfl rfl rfl (PV.move rfl) ?_
  refine WL.pureG rfl rfl rfl rfl rfl (PV.nilCheck rfl) ?_
  refine WL.pureG rfl rfl rfl rfl rfl ((by first | exact PV.fieldAddr T.fl58_1 rfl (by first | assumption | exact Bx.cells (by assumption)) | exact PV.fieldAddrP T.fl58_1 rfl rfl)) ?_
  refine WL.pureG rfl rfl rfl rfl rfl ((by first | exact PV.load0 T.na26 rfl (by first | exact Cells.up (by assumption) hB | exact Bx.cells (by assumption) | assumption) (Ext.refl _) rfl | exact PV.load1 T.na26 rfl (by first | exact Cells.up (by assumption) hB | exact Bx.cells (by assumption) | assumption) (Ext.refl _) rfl)) ?_
  refine WL.pureG rfl rfl rfl rfl rfl ((by first | exact PV.len rfl (by assumption) T.sl26 | exact PV.lenOs rfl (by assumption) T.sl26 | exact PV.len rfl (NL.rd (by assumption)) T.sl26 | exact PV.len rfl (Inn.rd (by assumption) (by omega)) T.sl26)) ?_
  refine WL.pureG rfl rfl rfl rfl rfl (PV.leq rfl rfl) ?_
  refine WL.pure rfl rfl rfl (PV.pickT rfl rfl) ?_
  refine WL.pure rfl rfl rfl (PV.move rfl) ?_
  refine WL.split (t := 27) rfl (fun hc3 => ?_) (fun hc3 => ?_)
  rotate_left
  · skip
    try simp only [decide_eq_true_eq, decide_eq_false_iff_not, Bool.not_eq_true', Bool.not_eq_false', Bool.not_eq_eq_eq_not, Bool.not_true, Bool.not_false, Int.not_lt, Int.not_le, Classical.not_not, beq_iff_eq, beq_eq_false_iff_ne] at hc3
    refine WL.skip rfl rfl rfl rfl rfl ?_
    refine WL.skip rfl rfl rfl rfl rfl ?_
    refine WL.skip rfl rfl rfl rfl rfl ?_
    refine WL.skip rfl rfl rfl rfl rfl ?_
    refine WL.skip rfl rfl rfl rfl rfl ?_
    refine WL.skip rfl rfl rfl rfl rfl ?_
    refine WL.pure rfl rfl rfl (PV.pickF rfl rfl) ?_
    refine WL.pure rfl rfl rfl (PV.move rfl) ?_
    refine WL.skip rfl rfl rfl rfl rfl ?_
    refine WL.skip rfl rfl rfl rfl rfl ?_
    refine WL.skip rfl rfl rfl rfl rfl ?_
    refine WL.skip rfl rfl rfl rfl rfl ?_
    refine WL.skip rfl rfl rfl rfl rfl ?_
    refine WL.skip rfl rfl rfl rfl rfl ?_
    refine WL.pure rfl rfl rfl (PV.pickF rfl rfl) ?_
    refine WL.pure rfl rfl rfl (PV.move rfl) ?_
    refine WL.skip rfl rfl rfl rfl rfl ?_
    refine WL.skip rfl rfl rfl rfl rfl ?_
    refine WL.skip rfl rfl rfl rfl rfl ?_
    refine WL.skip rfl rfl rfl rfl rfl ?_
    refine WL.skip rfl rfl rfl rfl rfl ?_
    refine WL.skip rfl rfl rfl rfl rfl ?_
    refine WL.pure rfl rfl rfl (PV.pickF rfl rfl) ?_
    refine WL.pure rfl rfl rfl (PV.move rfl) ?_
    refine WL.skip rfl rfl rfl rfl rfl ?_
    refine WL.skip rfl rfl rfl rfl rfl ?_
    refine WL.skip rfl rfl rfl rfl rfl ?_
    refine WL.skip rfl rfl rfl rfl rfl ?_
    refine WL.skip rfl rfl rfl rfl rfl ?_
    refine WL.skip rfl rfl rfl rfl rfl ?_
    refine WL.pure rfl rfl rfl (PV.pickF rfl rfl) ?_
    refine WL.pure rfl rfl rfl (PV.move rfl) ?_
    refine WL.skip rfl rfl rfl rfl rfl ?_
    refine WL.skip rfl rfl rfl rfl rfl ?_
    refine WL.skip rfl rfl rfl rfl rfl ?_
    refine WL.skip rfl rfl rfl rfl rfl ?_
    refine WL.skip rfl rfl rfl rfl rfl ?_
    refine WL.skip rfl rfl rfl rfl rfl ?_
    refine WL.pure rfl rfl rfl (PV.pickF rfl rfl) ?_
    refine WL.pure rfl rfl rfl (PV.move rfl) ?_
    refine WL.skip rfl rfl rfl rfl rfl ?_
    refine WL.skip rfl rfl rfl rfl rfl ?_
    refine WL.skip rfl rfl rfl rfl rfl ?_
    refine WL.skip rfl rfl rfl rfl rfl ?_
    refine WL.skip rfl rfl rfl rfl rfl ?_
    refine WL.skip rfl rfl rfl rfl rfl ?_
    refine WL.pure rfl rfl rfl (PV.pickF rfl rfl) ?_
    refine WL.pure rfl rfl rfl (PV.assign rfl) ?_
    refine WL.nilS ?_
    refine CW.ret ?_
    refine RQ.r1 rfl ?_
    refine ⟨?_, hB⟩
    first | exact bE (chB_last (by omega) (by assumption) (by assumption) (by assumption)) | exact bE (chB_no1 (by omega)) | exact bE (chB_no2 (by first | exact .inl (by assumption) | exact .inr (.inl (by assumption)) | exact .inr (.inr (by assumption))))
  try simp only [decide_eq_true_eq, decide_eq_false_iff_not, Bool.not_eq_true', Bool.not_eq_false', Bool.not_eq_eq_eq_not, Bool.not_true, Bool.not_false, Int.not_lt, Int.not_le, Classical.not_not, beq_iff_eq, beq_eq_false_iff_ne] at hc3
  refine WL.pureG rfl rfl rfl rfl rfl (PV.move rfl) ?_
  refine WL.pureG rfl rfl rfl rfl rfl (PV.nilCheck rfl) ?_
  refine WL.pureG rfl rfl rfl rfl rfl ((by first | exact PV.fieldAddr T.fl58_2 rfl (by first | assumption | exact Bx.cells (by assumption)) | exact PV.fieldAddrP T.fl58_2 rfl rfl)) ?_
  refine WL.pureG rfl rfl rfl rfl rfl ((by first | exact PV.load0 T.na26 rfl (by first | exact Cells.up (by assumption) hB | exact Bx.cells (by assumption) | assumption) (Ext.refl _) rfl | exact PV.load1 T.na26 rfl (by first | exact Cells.up (by assumption) hB | exact Bx.cells (by assumption) | assumption) (Ext.refl _) rfl)) ?_
  refine WL.pureG rfl rfl rfl rfl rfl ((by first | exact PV.len rfl (by assumption) T.sl26 | exact PV.lenOs rfl (by assumption) T.sl26 | exact PV.len rfl (NL.rd (by assumption)) T.sl26 | exact PV.len rfl (Inn.rd (by assumption) (by omega)) T.sl26)) ?_
  refine WL.pureG rfl rfl rfl rfl rfl (PV.leq rfl rfl) ?_
  refine WL.pure rfl rfl rfl (PV.pickT rfl rfl) ?_
  refine WL.pure rfl rfl rfl (PV.move rfl) ?_
  refine WL.split (t := 35) rfl (fun hc4 => ?_) (fun hc4 => ?_)
  rotate_left
  · skip
    try simp only [decide_eq_true_eq, decide_eq_false_iff_not, Bool.not_eq_true', Bool.not_eq_false', Bool.not_eq_eq_eq_not, Bool.not_true, Bool.not_false, Int.not_lt, Int.not_le, Classical.not_not, beq_iff_eq, beq_eq_false_iff_ne] at hc4
    refine WL.skip rfl rfl rfl rfl rfl ?_
    refine WL.skip rfl rfl rfl rfl rfl ?_
    refine WL.skip rfl rfl rfl rfl rfl ?_
    refine WL.skip rfl rfl rfl rfl rfl ?_
    refine WL.skip rfl rfl rfl rfl rfl ?_
    refine WL.skip rfl rfl rfl rfl rfl ?_
    refine WL.pure rfl rfl rfl (PV.pickF rfl rfl) ?_
    refine WL.pure rfl rfl rfl (PV.move rfl) ?_
    refine WL.skip rfl rfl rfl rfl rfl ?_
    refine WL.skip rfl rfl rfl rfl rfl ?_
    refine WL.skip rfl rfl rfl rfl rfl ?_
    refine WL.skip rfl rfl rfl rfl rfl ?_
    refine WL.skip rfl rfl rfl rfl rfl ?_
    refine WL.skip rfl rfl rfl rfl rfl ?_
    refine WL.pure rfl rfl rfl (PV.pickF rfl rfl) ?_
    refine WL.pure rfl rfl rfl (PV.move rfl) ?_
    refine WL.skip rfl rfl rfl rfl rfl ?_
    refine WL.skip rfl rfl rfl rfl rfl ?_
    refine WL.skip rfl rfl rfl rfl rfl ?_
    refine WL.skip rfl rfl rfl rfl rfl ?_
    refine WL.skip rfl rfl rfl rfl rfl ?_
    refine WL.skip rfl rfl rfl rfl rfl ?_
    refine WL.pure rfl rfl rfl (PV.pickF rfl rfl) ?_
    refine WL.pure rfl rfl rfl (PV.move rfl) ?_
    refine WL.skip rfl rfl rfl rfl rfl ?_
    refine WL.skip rfl rfl rfl rfl rfl ?_
    refine WL.skip rfl rfl rfl rfl rfl ?_
    refine WL.skip rfl rfl rfl rfl rfl ?_
    refine WL.skip rfl rfl rfl rfl rfl ?_
    refine WL.skip rfl rfl rfl rfl rfl ?_
    refine WL.pure rfl rfl rfl (PV.pickF rfl rfl) ?_
    refine WL.pure rfl rfl rfl (PV.move rfl) ?_
    refine WL.skip rfl rfl rfl rfl rfl ?_
    refine WL.skip rfl rfl rfl rfl rfl ?_
    refine WL.skip rfl rfl rfl rfl rfl ?_
    refine WL.skip rfl rfl rfl rfl rfl ?_
    refine WL.skip rfl rfl rfl rfl rfl ?_
    refine WL.skip rfl rfl rfl rfl rfl ?_
    refine WL.pure rfl rfl rfl (PV.pickF rfl rfl) ?_
    refine WL.pure rfl rfl rfl (PV.assign rfl) ?_
    refine WL.nilS ?_
    refine CW.ret ?_
    refine RQ.r1 rfl ?_
    refine ⟨?_, hB⟩
    first | exact bE (chB_last (by omega) (by assumption) (by assumption) (by assumption)) | exact bE (chB_no1 (by omega)) | exact bE (chB_no2 (by first | exact .inl (by assumption) | exact .inr (.inl (by assumption)) | exact .inr (.inr (by assumption))))
  try simp only [decide_eq_true_eq, decide_eq_false_iff_not, Bool.not_eq_true', Bool.not_eq_false', Bool.not_eq_eq_eq_not, Bool.not_true, Bool.not_false, Int.not_lt, Int.not_le, Classical.not_not, beq_iff_eq, beq_eq_false_iff_ne] at hc4
  refine WL.pureG rfl rfl rfl rfl rfl (PV.move rfl) ?_
  refine WL.pureG rfl rfl rfl rfl rfl (PV.nilCheck rfl) ?_
  refine WL.pureG rfl rfl rfl rfl rfl ((by first | exact PV.fieldAddr T.fl58_3 rfl (by first | assumption | exact Bx.cells (by assumption)) | exact PV.fieldAddrP T.fl58_3 rfl rfl)) ?_
  refine WL.pureG rfl rfl rfl rfl rfl ((by first | exact PV.load0 T.na26 rfl (by first | exact Cells.up (by assumption) hB | exact Bx.cells (by assumption) | assumption) (Ext.refl _) rfl | exact PV.load1 T.na26 rfl (by first | exact Cells.up (by assumption) hB | exact Bx.cells (by assumption) | assumption) (Ext.refl _) rfl)) ?_
  refine WL.pureG rfl rfl rfl rfl rfl ((by first | exact PV.len rfl (by assumption) T.sl26 | exact PV.lenOs rfl (by assumption) T.sl26 | exact PV.len rfl (NL.rd (by assumption)) T.sl26 | exact PV.len rfl (Inn.rd (by assumption) (by omega)) T.sl26)) ?_
  refine WL.pureG rfl rfl rfl rfl rfl (PV.leq rfl rfl) ?_
  refine WL.pure rfl rfl rfl (PV.pickT rfl rfl) ?_
  refine WL.pure rfl rfl rfl (PV.move rfl) ?_
  refine WL.split (t := 43) rfl (fun hc5 => ?_) (fun hc5 => ?_)
  rotate_left
  · skip
    try simp only [decide_eq_true_eq, decide_eq_false_iff_not, Bool.not_eq_true', Bool.not_eq_false', Bool.not_eq_eq_eq_not, Bool.not_true, Bool.not_false, Int.not_lt, Int.not_le, Classical.not_not, beq_iff_eq, beq_eq_false_iff_ne] at hc5
    refine WL.skip rfl rfl rfl rfl rfl ?_
    refine WL.skip rfl rfl rfl rfl rfl ?_
    refine WL.skip rfl rfl rfl rfl rfl ?_
    refine WL.skip rfl rfl rfl rfl rfl ?_
    refine WL.skip rfl rfl rfl rfl rfl ?_
    refine WL.skip rfl rfl rfl rfl rfl ?_
    refine WL.pure rfl rfl rfl (PV.pickF rfl rfl) ?_
    refine WL.pure rfl rfl rfl (PV.move rfl) ?_
    refine WL.skip rfl rfl rfl rfl rfl ?_
    refine WL.skip rfl rfl rfl rfl rfl ?_
    refine WL.skip rfl rfl rfl rfl rfl ?_
    refine WL.skip rfl rfl rfl rfl rfl ?_
    refine WL.skip rfl rfl rfl rfl rfl ?_
    refine WL.skip rfl rfl rfl rfl rfl ?_
    refine WL.pure rfl rfl rfl (PV.pickF rfl rfl) ?_
    refine WL.pure rfl rfl rfl (PV.move rfl) ?_
    refine WL.skip rfl rfl rfl rfl rfl ?_
    refine WL.skip rfl rfl rfl rfl rfl ?_
    refine WL.skip rfl rfl rfl rfl rfl ?_
    refine WL.skip rfl rfl rfl rfl rfl ?_
    refine WL.skip rfl rfl rfl rfl rfl ?_
    refine WL.skip rfl rfl rfl rfl rfl ?_
    refine WL.pure rfl rfl rfl (PV.pickF rfl rfl) ?_
    refine WL.pure rfl rfl rfl (PV.move rfl) ?_
    refine WL.skip rfl rfl rfl rfl rfl ?_
    refine WL.skip rfl rfl rfl rfl rfl ?_
    refine WL.skip rfl rfl rfl rfl rfl ?_
    refine WL.skip rfl rfl rfl rfl rfl ?_
    refine WL.skip rfl rfl rfl rfl rfl ?_
    refine WL.skip rfl rfl rfl rfl rfl ?_
    refine WL.pure rfl rfl rfl (PV.pickF rfl rfl) ?_
    refine WL.pure rfl rfl rfl (PV.assign rfl) ?_
    refine WL.nilS ?_
    refine CW.ret ?_
    refine RQ.r1 rfl ?_
    refine ⟨?_, hB⟩
    first | exact bE (chB_last (by omega) (by assumption) (by assumption) (by assumption)) | exact bE (chB_no1 (by omega)) | exact bE (chB_no2 (by first | exact .inl (by assumption) | exact .inr (.inl (by assumption)) | exact .inr (.inr (by assumption))))
  try simp only [decide_eq_true_eq, decide_eq_false_iff_not, Bool.not_eq_true', Bool.not_eq_false', Bool.not_eq_eq_eq_not, Bool.not_true, Bool.not_false, Int.not_lt, Int.not_le, Classical.not_not, beq_iff_eq, beq_eq_false_iff_ne] at hc5
  refine WL.pureG rfl rfl rfl rfl rfl (PV.move rfl) ?_
  refine WL.pureG rfl rfl rfl rfl rfl (PV.nilCheck rfl) ?_
  refine WL.pureG rfl rfl rfl rfl rfl ((by first | exact PV.fieldAddr T.fl58_0 rfl (by first | assumption | exact Bx.cells (by assumption)) | exact PV.fieldAddrP T.fl58_0 rfl rfl)) ?_
  refine WL.pureG rfl rfl rfl rfl rfl ((by first | exact PV.load0 T.na26 rfl (by first | exact Cells.up (by assumption) hB | exact Bx.cells (by assumption) | assumption) (Ext.refl _) rfl | exact PV.load1 T.na26 rfl (by first | exact Cells.up (by assumption) hB | exact Bx.cells (by assumption) | assumption) (Ext.refl _) rfl)) ?_
  refine WL.pureG rfl rfl rfl rfl rfl (PV.move rfl) ?_
  refine WL.opG rfl rfl rfl (OpK.callR rfl T.cf100 rfl (c_spec_l05Long (by first | assumption | exact Rd.up (by assumption) hB | exact Osl.rd (by assumption) | exact Osn.rdR (by assumption) | exact NL.rd (by assumption) | exact rdII (by assumption) (by assumption) | exact Inn.rd (by assumption) (by omega))) (fun w1 hXw1 => ?_))
  have hB := hB.trans hXw1
  refine WL.pure rfl rfl rfl (PV.pickT rfl rfl) ?_
  refine WL.pure rfl rfl rfl (PV.move rfl) ?_
  refine WL.split (t := 51) rfl (fun hc6 => ?_) (fun hc6 => ?_)
  rotate_left
  · skip
    try simp only [decide_eq_true_eq, decide_eq_false_iff_not, Bool.not_eq_true', Bool.not_eq_false', Bool.not_eq_eq_eq_not, Bool.not_true, Bool.not_false, Int.not_lt, Int.not_le, Classical.not_not, beq_iff_eq, beq_eq_false_iff_ne] at hc6
    refine WL.skip rfl rfl rfl rfl rfl ?_
    refine WL.skip rfl rfl rfl rfl rfl ?_
    refine WL.skip rfl rfl rfl rfl rfl ?_
    refine WL.skip rfl rfl rfl rfl rfl ?_
    refine WL.skip rfl rfl rfl rfl rfl ?_
    refine WL.skip rfl rfl rfl rfl rfl ?_
    refine WL.pure rfl rfl rfl (PV.pickF rfl rfl) ?_
    refine WL.pure rfl rfl rfl (PV.move rfl) ?_
    refine WL.skip rfl rfl rfl rfl rfl ?_
    refine WL.skip rfl rfl rfl rfl rfl ?_
    refine WL.skip rfl rfl rfl rfl rfl ?_
    refine WL.skip rfl rfl rfl rfl rfl ?_
    refine WL.skip rfl rfl rfl rfl rfl ?_
    refine WL.skip rfl rfl rfl rfl rfl ?_
    refine WL.pure rfl rfl rfl (PV.pickF rfl rfl) ?_
    refine WL.pure rfl rfl rfl (PV.move rfl) ?_
    refine WL.skip rfl rfl rfl rfl rfl ?_
    refine WL.skip rfl rfl rfl rfl rfl ?_
    refine WL.skip rfl rfl rfl rfl rfl ?_
    refine WL.skip rfl rfl rfl rfl rfl ?_
    refine WL.skip rfl rfl rfl rfl rfl ?_
    refine WL.skip rfl rfl rfl rfl rfl ?_
    refine WL.pure rfl rfl rfl (PV.pickF rfl rfl) ?_
    refine WL.pure rfl rfl rfl (PV.assign rfl) ?_
    refine WL.nilS ?_
    refine CW.ret ?_
    refine RQ.r1 rfl ?_
    refine ⟨?_, hB⟩
    first | exact bE (chB_last (by omega) (by assumption) (by assumption) (by assumption)) | exact bE (chB_no1 (by omega)) | exact bE (chB_no2 (by first | exact .inl (by assumption) | exact .inr (.inl (by assumption)) | exact .inr (.inr (by assumption))))
  try simp only [decide_eq_true_eq, decide_eq_false_iff_not, Bool.not_eq_true', Bool.not_eq_false', Bool.not_eq_eq_eq_not, Bool.not_true, Bool.not_false, Int.not_lt, Int.not_le, Classical.not_not, beq_iff_eq, beq_eq_false_iff_ne] at hc6
  refine WL.pureG rfl rfl rfl rfl rfl (PV.move rfl) ?_
  refine WL.pureG rfl rfl rfl rfl rfl (PV.nilCheck rfl) ?_
  refine WL.pureG rfl rfl rfl rfl rfl ((by first | exact PV.fieldAddr T.fl58_1 rfl (by first | assumption | exact Bx.cells (by assumption)) | exact PV.fieldAddrP T.fl58_1 rfl rfl)) ?_
  refine WL.pureG rfl rfl rfl rfl rfl ((by first | exact PV.load0 T.na26 rfl (by first | exact Cells.up (by assumption) hB | exact Bx.cells (by assumption) | assumption) (Ext.refl _) rfl | exact PV.load1 T.na26 rfl (by first | exact Cells.up (by assumption) hB | exact Bx.cells (by assumption) | assumption) (Ext.refl _) rfl)) ?_
  refine WL.pureG rfl rfl rfl rfl rfl (PV.move rfl) ?_
  refine WL.opG rfl rfl rfl (OpK.callR rfl T.cf100 rfl (c_spec_l05Long (by first | assumption | exact Rd.up (by assumption) hB | exact Osl.rd (by assumption) | exact Osn.rdR (by assumption) | exact NL.rd (by assumption) | exact rdII (by assumption) (by assumption) | exact Inn.rd (by assumption) (by omega))) (fun w2 hXw2 => ?_))
  have hB := hB.trans hXw2
  refine WL.pure rfl rfl rfl (PV.pickT rfl rfl) ?_
  refine WL.pure rfl rfl rfl (PV.move rfl) ?_
  refine WL.split (t := 59) rfl (fun hc7 => ?_) (fun hc7 => ?_)
  rotate_left
  · skip
    try simp only [decide_eq_true_eq, decide_eq_false_iff_not, Bool.not_eq_true', Bool.not_eq_false', Bool.not_eq_eq_eq_not, Bool.not_true, Bool.not_false, Int.not_lt, Int.not_le, Classical.not_not, beq_iff_eq, beq_eq_false_iff_ne] at hc7
    refine WL.skip rfl rfl rfl rfl rfl ?_
    refine WL.skip rfl rfl rfl rfl rfl ?_
    refine WL.skip rfl rfl rfl rfl rfl ?_
    refine WL.skip rfl rfl rfl rfl rfl ?_
    refine WL.skip rfl rfl rfl rfl rfl ?_
    refine WL.skip rfl rfl rfl rfl rfl ?_
    refine WL.pure rfl rfl rfl (PV.pickF rfl rfl) ?_
    refine WL.pure rfl rfl rfl (PV.move rfl) ?_
    refine WL.skip rfl rfl rfl rfl rfl ?_
    refine WL.skip rfl rfl rfl rfl rfl ?_
    refine WL.skip rfl rfl rfl rfl rfl ?_
    refine WL.skip rfl rfl rfl rfl rfl ?_
    refine WL.skip rfl rfl rfl rfl rfl ?_
    refine WL.skip rfl rfl rfl rfl rfl ?_
    refine WL.pure rfl rfl rfl (PV.pickF rfl rfl) ?_
    refine WL.pure rfl rfl rfl (PV.assign rfl) ?_
    refine WL.nilS ?_
    refine CW.ret ?_
    refine RQ.r1 rfl ?_
    refine ⟨?_, hB⟩
    first | exact bE (chB_last (by omega) (by assumption) (by assumption) (by assumption)) | exact bE (chB_no1 (by omega)) | exact bE (chB_no2 (by first | exact .inl (by assumption) | exact .inr (.inl (by assumption)) | exact .inr (.inr (by assumption))))
  try simp only [decide_eq_true_eq, decide_eq_false_iff_not, Bool.not_eq_true', Bool.not_eq_false', Bool.not_eq_eq_eq_not, Bool.not_true, Bool.not_false, Int.not_lt, Int.not_le, Classical.not_not, beq_iff_eq, beq_eq_false_iff_ne] at hc7
  refine WL.pureG rfl rfl rfl rfl rfl (PV.move rfl) ?_
  refine WL.pureG rfl rfl rfl rfl rfl (PV.nilCheck rfl) ?_
  refine WL.pureG rfl rfl rfl rfl rfl ((by first | exact PV.fieldAddr T.fl58_2 rfl (by first | assumption | exact Bx.cells (by assumption)) | exact PV.fieldAddrP T.fl58_2 rfl rfl)) ?_
  refine WL.pureG rfl rfl rfl rfl rfl ((by first | exact PV.load0 T.na26 rfl (by first | exact Cells.up (by assumption) hB | exact Bx.cells (by assumption) | assumption) (Ext.refl _) rfl | exact PV.load1 T.na26 rfl (by first | exact Cells.up (by assumption) hB | exact Bx.cells (by assumption) | assumption) (Ext.refl _) rfl)) ?_
  refine WL.pureG rfl rfl rfl rfl rfl (PV.move rfl) ?_
  refine WL.opG rfl rfl rfl (OpK.callR rfl T.cf100 rfl (c_spec_l05Long (by first | assumption | exact Rd.up (by assumption) hB | exact Osl.rd (by assumption) | exact Osn.rdR (by assumption) | exact NL.rd (by assumption) | exact rdII (by assumption) (by assumption) | exact Inn.rd (by assumption) (by omega))) (fun w3 hXw3 => ?_))
  have hB := hB.trans hXw3
  refine WL.pure rfl rfl rfl (PV.pickT rfl rfl) ?_
  refine WL.pure rfl rfl rfl (PV.move rfl) ?_
  refine WL.split (t := 67) rfl (fun hc8 => ?_) (fun hc8 => ?_)
  rotate_left
  · skip
    try simp only [decide_eq_true_eq, decide_eq_false_iff_not, Bool.not_eq_true', Bool.not_eq_false', Bool.not_eq_eq_eq_not, Bool.not_true, Bool.not_false, Int.not_lt, Int.not_le, Classical.not_not, beq_iff_eq, beq_eq_false_iff_ne] at hc8
    refine WL.skip rfl rfl rfl rfl rfl ?_
    refine WL.skip rfl rfl rfl rfl rfl ?_
    refine WL.skip rfl rfl rfl rfl rfl ?_
    refine WL.skip rfl rfl rfl rfl rfl ?_
    refine WL.skip rfl rfl rfl rfl rfl ?_
    refine WL.skip rfl rfl rfl rfl rfl ?_
    refine WL.pure rfl rfl rfl (PV.pickF rfl rfl) ?_
    refine WL.pure rfl rfl rfl (PV.assign rfl) ?_
    refine WL.nilS ?_
    refine CW.ret ?_
    refine RQ.r1 rfl ?_
    refine ⟨?_, hB⟩
    first | exact bE (chB_last (by omega) (by assumption) (by assumption) (by assumption)) | exact bE (chB_no1 (by omega)) | exact bE (chB_no2 (by first | exact .inl (by assumption) | exact .inr (.inl (by assumption)) | exact .inr (.inr (by assumption))))
  try simp only [decide_eq_true_eq, decide_eq_false_iff_not, Bool.not_eq_true', Bool.not_eq_false', Bool.not_eq_eq_eq_not, Bool.not_true, Bool.not_false, Int.not_lt, Int.not_le, Classical.not_not, beq_iff_eq, beq_eq_false_iff_ne] at hc8
  refine WL.pureG rfl rfl rfl rfl rfl (PV.move rfl) ?_
  refine WL.pureG rfl rfl rfl rfl rfl (PV.nilCheck rfl) ?_
  refine WL.pureG rfl rfl rfl rfl rfl ((by first | exact PV.fieldAddr T.fl58_3 rfl (by first | assumption | exact Bx.cells (by assumption)) | exact PV.fieldAddrP T.fl58_3 rfl rfl)) ?_
  refine WL.pureG rfl rfl rfl rfl rfl ((by first | exact PV.load0 T.na26 rfl (by first | exact Cells.up (by assumption) hB | exact Bx.cells (by assumption) | assumption) (Ext.refl _) rfl | exact PV.load1 T.na26 rfl (by first | exact Cells.up (by assumption) hB | exact Bx.cells (by assumption) | assumption) (Ext.refl _) rfl)) ?_
  refine WL.pureG rfl rfl rfl rfl rfl (PV.move rfl) ?_
  refine WL.opG rfl rfl rfl (OpK.callR rfl T.cf100 rfl (c_spec_l05Long (by first | assumption | exact Rd.up (by assumption) hB | exact Osl.rd (by assumption) | exact Osn.rdR (by assumption) | exact NL.rd (by assumption) | exact rdII (by assumption) (by assumption) | exact Inn.rd (by assumption) (by omega))) (fun w4 hXw4 => ?_))
  have hB := hB.trans hXw4
  refine WL.pure rfl rfl rfl (PV.pickT rfl rfl) ?_
  refine WL.pure rfl rfl rfl (PV.assign rfl) ?_
  refine WL.nilS ?_
  refine CW.ret ?_
  refine RQ.r1 rfl ?_
  refine ⟨?_, hB⟩
  first | exact bE (chB_last (by omega) (by assumption) (by assumption) (by assumption)) | exact bE (chB_no1 (by omega)) | exact bE (chB_no2 (by first | exact .inl (by assumption) | exact .inr (.inl (by assumption)) | exact .inr (.inr (by assumption))))
theorem c_spec_l05List {w : World} {va : Value} {cs : List C4} {L : Int} (ha : Rd ECh w va cs) : Calls Try.prog 105 #[va, .int .i64 L] w (Ret1 (RQt (.bool (listB cs L)) w)) := by
  have hB : Ext w w := Ext.refl w
  have hla := ha.leI
  refine callsOf (vs := [_, _]) Try.func105 rfl Try.ntmps105 rfl rfl ?_
  refine CW.seq ?_
  refine CW.reg ?_
  refine WL.pure rfl rfl rfl (PV.assign rfl) ?_
  refine WL.nilS ?_
  refine CW.seq ?_
  refine CW.seq ?_
  refine CW.reg ?_
  refine WL.pure rfl rfl rfl (PV.move rfl) ?_
  refine WL.pure rfl rfl rfl ((by first | exact PV.len rfl (by assumption) T.sl46 | exact PV.lenOs rfl (by assumption) T.sl46 | exact PV.len rfl (NL.rd (by assumption)) T.sl46 | exact PV.len rfl (Inn.rd (by assumption) (by omega)) T.sl46)) ?_
  refine WL.pure rfl rfl rfl (PV.gtr rfl rfl) ?_
  refine WL.pure rfl rfl rfl (PV.move rfl) ?_
  refine WL.split (t := 9) rfl (fun hc1 => ?_) (fun hc1 => ?_)
  · skip
    try simp only [decide_eq_true_eq, decide_eq_false_iff_not, Bool.not_eq_true', Bool.not_eq_false', Bool.not_eq_eq_eq_not, Bool.not_true, Bool.not_false, Int.not_lt, Int.not_le, Classical.not_not, beq_iff_eq, beq_eq_false_iff_ne] at hc1
    refine WL.skip rfl rfl rfl rfl rfl ?_
    refine WL.skip rfl rfl rfl rfl rfl ?_
    refine WL.skip rfl rfl rfl rfl rfl ?_
    refine WL.pure rfl rfl rfl (PV.pickT rfl rfl) ?_
    refine WL.nilS ?_
    refine CW.condT rfl ?_
    refine CW.seq ?_
    refine CW.reg ?_
    refine WL.pure rfl rfl rfl (PV.assign rfl) ?_
    refine WL.nilS ?_
    refine CW.ret ?_
    refine RQ.then ?_
    refine RQ.r1 rfl ?_
    refine ⟨?_, hB⟩
    first | exact bE (listB_n (k := k) (by omega) (by assumption)) | exact bE (listB_e2 (by omega)) | exact bE (listB_e3 (by omega)) | exact bE (listB_e1 (fun j h => he j (by omega)) (by omega)) | exact bE (listB_y1 (fun j h => he j (by omega)) (by omega) (by omega))
  try simp only [decide_eq_true_eq, decide_eq_false_iff_not, Bool.not_eq_true', Bool.not_eq_false', Bool.not_eq_eq_eq_not, Bool.not_true, Bool.not_false, Int.not_lt, Int.not_le, Classical.not_not, beq_iff_eq, beq_eq_false_iff_ne] at hc1
  refine WL.pureG rfl rfl rfl rfl rfl (PV.move rfl) ?_
  refine WL.opG rfl rfl rfl (OpK.callR rfl T.cf121 rfl (c_spec_l05Letters) (fun w1 hXw1 => ?_))
  have hB := hB.trans hXw1
  refine WL.pureG rfl rfl rfl rfl rfl (PV.not rfl) ?_
  refine WL.pure rfl rfl rfl (PV.pickF rfl rfl) ?_
  refine WL.nilS ?_
  refine CW.cond rfl (fun hc2 => ?_) (fun hc2 => ?_)
  · skip
    try simp only [decide_eq_true_eq, decide_eq_false_iff_not, Bool.not_eq_true', Bool.not_eq_false', Bool.not_eq_eq_eq_not, Bool.not_true, Bool.not_false, Int.not_lt, Int.not_le, Classical.not_not, beq_iff_eq, beq_eq_false_iff_ne] at hc2
    refine CW.seq ?_
    refine CW.reg ?_
    refine WL.pure rfl rfl rfl (PV.assign rfl) ?_
    refine WL.nilS ?_
    refine CW.ret ?_
    refine RQ.then ?_
    refine RQ.r1 rfl ?_
    refine ⟨?_, hB⟩
    first | exact bE (listB_n (k := k) (by omega) (by assumption)) | exact bE (listB_e2 (by omega)) | exact bE (listB_e3 (by omega)) | exact bE (listB_e1 (fun j h => he j (by omega)) (by omega)) | exact bE (listB_y1 (fun j h => he j (by omega)) (by omega) (by omega))
  try simp only [decide_eq_true_eq, decide_eq_false_iff_not, Bool.not_eq_true', Bool.not_eq_false', Bool.not_eq_eq_eq_not, Bool.not_true, Bool.not_false, Int.not_lt, Int.not_le, Classical.not_not, beq_iff_eq, beq_eq_false_iff_ne] at hc2
  refine CW.skipS ?_
  refine CW.seq ?_
  refine CW.seq ?_
  refine CW.reg ?_
  refine WL.pure rfl rfl rfl (PV.move rfl) ?_
  refine WL.pure rfl rfl rfl ((by first | exact PV.len rfl (by assumption) T.sl46 | exact PV.lenOs rfl (by assumption) T.sl46 | exact PV.len rfl (NL.rd (by assumption)) T.sl46 | exact PV.len rfl (Inn.rd (by assumption) (by omega)) T.sl46)) ?_
  refine WL.pure rfl rfl rfl (PV.move rfl) ?_
  refine WL.nilS ?_
  refine CW.block ?_
  refine CW.loop (σk := [(0, _), (1, _), (15, _)]) (fun ρ wz m => ∃ (k : Nat), ρ = [(16, .int .i64 (k : Nat))] ∧ m = cs.length - k ∧ UpdL [] w1 wz ∧ (k ≤ cs.length) ∧ (∀ j : Nat, j < k → chB (cs.getD j d4) L = true)) (ρ₀ := [(16, _)]) (m₀ := _) ⟨rfl, rfl, rfl, rfl, trivial⟩ ⟨0, rfl, rfl, (UpdL.refl _ _), (by first | omega | rfl | (simp; done) | assumption | (simp_all; done)), (by intro j h; omega)⟩ ?_
  rintro _ wl1 _ ⟨k, rfl, rfl, hU0, hk, he⟩
  have hB := hB.loop hU0 trivial
  refine CW.seq ?_
  refine CW.reg ?_
  refine WL.pure rfl rfl rfl (PV.lss rfl rfl) ?_
  refine WL.nilS ?_
  refine CW.seq ?_
  refine CW.cond rfl (fun hc3 => ?_) (fun hc3 => ?_)
  · skip
    try simp only [decide_eq_true_eq, decide_eq_false_iff_not, Bool.not_eq_true', Bool.not_eq_false', Bool.not_eq_eq_eq_not, Bool.not_true, Bool.not_false, Int.not_lt, Int.not_le, Classical.not_not, beq_iff_eq, beq_eq_false_iff_ne] at hc3
    refine CW.skipS ?_
    refine CW.seq ?_
    refine CW.block ?_
    refine CW.seq ?_
    refine CW.reg ?_
    refine WL.pure rfl rfl rfl (PV.move rfl) ?_
    refine WL.pure rfl rfl rfl (PV.assign rfl) ?_
    refine WL.nilS ?_
    refine CW.seq ?_
    refine CW.reg ?_
    refine WL.pure rfl rfl rfl (PV.move rfl) ?_
    refine WL.pure rfl rfl rfl (PV.move rfl) ?_
    first
      | refine WL.at (x := .tmp 19) (y := .tmp 20) (E := ECh) (d4) rfl rfl (by first | assumption | exact Inn.rd (by assumption) (by omega)) (by first | omega | (simp only [List.length_set]; omega) | (simp only [List.length_append, List.length_take, List.length_replicate, List.length_drop]; omega)) (fun p1 csp1 hpp1 hcp1 hq => ?_)
      | refine WL.atZ (x := .tmp 19) (y := .tmp 20) (E := ECh) (d4) rfl rfl (by first | assumption | exact Inn.rd (by assumption) (by omega)) (by first | omega | (simp only [List.length_set]; omega) | (simp only [List.length_append, List.length_take, List.length_replicate, List.length_drop]; omega)) (fun p1 csp1 hpp1 hzp1 hcp1 hq => ?_)
    obtain ⟨vq0, vq1, vq2, vq3, rfl, hq0, hq1, hq2, hq3⟩ := ECh.parts hq
    refine WL.pure rfl rfl rfl ((by first | exact PV.indexAddr hpp1 rfl rfl T.sl46 | exact PV.indexAddr hpp1 rfl (by rw [← hzp1]; rfl) T.sl46)) ?_
    refine WL.pure rfl rfl rfl (PV.move rfl) ?_
    refine WL.op rfl (OpK.callR rfl T.cf99 rfl (c_spec_l05Is (by first | exact Bx.cells (by assumption) | exact Cells.up (by assumption) hB | assumption | exact Cells.add (Bx.cells (by assumption)) _ | exact Cells.add (Cells.up (by assumption) hB) _) (by first | assumption | exact Rd.up (by assumption) hB | exact Osl.rd (by assumption) | exact Osn.rdR (by assumption) | exact NL.rd (by assumption) | exact rdII (by assumption) (by assumption) | exact Inn.rd (by assumption) (by omega)) (by first | assumption | exact Rd.up (by assumption) hB | exact Osl.rd (by assumption) | exact Osn.rdR (by assumption) | exact NL.rd (by assumption) | exact rdII (by assumption) (by assumption) | exact Inn.rd (by assumption) (by omega)) (by first | assumption | exact Rd.up (by assumption) hB | exact Osl.rd (by assumption) | exact Osn.rdR (by assumption) | exact NL.rd (by assumption) | exact rdII (by assumption) (by assumption) | exact Inn.rd (by assumption) (by omega)) (by first | assumption | exact Rd.up (by assumption) hB | exact Osl.rd (by assumption) | exact Osn.rdR (by assumption) | exact NL.rd (by assumption) | exact rdII (by assumption) (by assumption) | exact Inn.rd (by assumption) (by omega))) (fun w2 hXw2 => ?_))
    have hB := hB.trans hXw2
    have hU0 := hU0.ext hXw2
    refine WL.pure rfl rfl rfl (PV.not rfl) ?_
    refine WL.nilS ?_
    refine CW.cond rfl (fun hc4 => ?_) (fun hc4 => ?_)
    · skip
      try simp only [decide_eq_true_eq, decide_eq_false_iff_not, Bool.not_eq_true', Bool.not_eq_false', Bool.not_eq_eq_eq_not, Bool.not_true, Bool.not_false, Int.not_lt, Int.not_le, Classical.not_not, beq_iff_eq, beq_eq_false_iff_ne] at hc4
      refine CW.seq ?_
      refine CW.reg ?_
      refine WL.pure rfl rfl rfl (PV.assign rfl) ?_
      refine WL.nilS ?_
      refine CW.ret ?_
      refine RQ.block ?_
      refine RQ.then ?_
      refine RQ.then ?_
      refine RQ.block ?_
      refine RQ.then ?_
      refine RQ.r1 rfl ?_
      refine ⟨?_, hB⟩
      first | exact bE (listB_n (k := k) (by omega) (by assumption)) | exact bE (listB_e2 (by omega)) | exact bE (listB_e3 (by omega)) | exact bE (listB_e1 (fun j h => he j (by omega)) (by omega)) | exact bE (listB_y1 (fun j h => he j (by omega)) (by omega) (by omega))
    try simp only [decide_eq_true_eq, decide_eq_false_iff_not, Bool.not_eq_true', Bool.not_eq_false', Bool.not_eq_eq_eq_not, Bool.not_true, Bool.not_false, Int.not_lt, Int.not_le, Classical.not_not, beq_iff_eq, beq_eq_false_iff_ne] at hc4
    refine CW.skip ?_
    refine NQ.block ?_
    refine NQ.then ?_
    refine CW.reg ?_
    refine WL.pure rfl rfl rfl (PV.add rfl rfl (by constructor <;> omega)) ?_
    refine WL.pure rfl rfl rfl (PV.move rfl) ?_
    refine WL.nil ?_
    refine NQ.next (ρ := [(16, _)]) ⟨rfl, rfl, rfl, rfl, trivial⟩ ?_
    exact ⟨_, ⟨k + 1, rfl, rfl, hU0, (by first | omega | assumption | (simp_all; done) | (simp_all; omega)), (by intro j h; rcases Nat.lt_succ_iff_lt_or_eq.1 h with h | rfl; exact he j h; assumption)⟩, by omega⟩
  try simp only [decide_eq_true_eq, decide_eq_false_iff_not, Bool.not_eq_true', Bool.not_eq_false', Bool.not_eq_eq_eq_not, Bool.not_true, Bool.not_false, Int.not_lt, Int.not_le, Classical.not_not, beq_iff_eq, beq_eq_false_iff_ne] at hc3
  refine CW.exit ?_
  refine XQ.then ?_
  refine XQ.then ?_
  refine XQ.here ?_
  refine NQ.then ?_
  refine CW.seq ?_
  refine CW.reg ?_
  refine WL.pure rfl rfl rfl (PV.assign rfl) ?_
  refine WL.nilS ?_
  refine CW.ret ?_
  refine RQ.r1 rfl ?_
  refine ⟨?_, hB⟩
  first | exact bE (listB_n (k := k) (by omega) (by assumption)) | exact bE (listB_e2 (by omega)) | exact bE (listB_e3 (by omega)) | exact bE (listB_e1 (fun j h => he j (by omega)) (by omega)) | exact bE (listB_y1 (fun j h => he j (by omega)) (by omega) (by omega))
theorem c_spec_l05Plain {w : World} {va : Value} {cs : List C4} {L : Int} (ha : Rd ECh w va cs) : Calls Try.prog 88 #[va, .int .i64 L] w (Ret1 (RQt (.bool (plnB cs L)) w)) := by
  have hB : Ext w w := Ext.refl w
  have hla := ha.leI
  refine callsOf (vs := [_, _]) Try.func88 rfl Try.ntmps88 rfl rfl ?_
  refine CW.seq ?_
  refine CW.reg ?_
  refine WL.pure rfl rfl rfl (PV.assign rfl) ?_
  refine WL.nilS ?_
  refine CW.seq ?_
  refine CW.seq ?_
  refine CW.reg ?_
  refine WL.pure rfl rfl rfl (PV.move rfl) ?_
  refine WL.pure rfl rfl rfl ((by first | exact PV.len rfl (by assumption) T.sl46 | exact PV.lenOs rfl (by assumption) T.sl46 | exact PV.len rfl (NL.rd (by assumption)) T.sl46 | exact PV.len rfl (Inn.rd (by assumption) (by omega)) T.sl46)) ?_
  refine WL.pure rfl rfl rfl (PV.move rfl) ?_
  refine WL.nilS ?_
  refine CW.block ?_
  refine CW.loop (σk := [(0, _), (1, _), (7, _)]) (fun ρ wz m => ∃ (k : Nat), ρ = [(8, .int .i64 (k : Nat))] ∧ m = cs.length - k ∧ UpdL [] w wz ∧ (k ≤ cs.length) ∧ (∀ j : Nat, j < k → platP cs j = false)) (ρ₀ := [(8, _)]) (m₀ := _) ⟨rfl, rfl, rfl, rfl, trivial⟩ ⟨0, rfl, rfl, (UpdL.refl _ _), (by first | omega | rfl | (simp; done) | assumption | (simp_all; done)), (by intro j h; omega)⟩ ?_
  rintro _ wl1 _ ⟨k, rfl, rfl, hU0, hk, he⟩
  have hB := hB.loop hU0 trivial
  refine CW.seq ?_
  refine CW.reg ?_
  refine WL.pure rfl rfl rfl (PV.lss rfl rfl) ?_
  refine WL.nilS ?_
  refine CW.seq ?_
  refine CW.cond rfl (fun hc1 => ?_) (fun hc1 => ?_)
  · skip
    try simp only [decide_eq_true_eq, decide_eq_false_iff_not, Bool.not_eq_true', Bool.not_eq_false', Bool.not_eq_eq_eq_not, Bool.not_true, Bool.not_false, Int.not_lt, Int.not_le, Classical.not_not, beq_iff_eq, beq_eq_false_iff_ne] at hc1
    refine CW.skipS ?_
    refine CW.seq ?_
    refine CW.block ?_
    refine CW.seq ?_
    refine CW.reg ?_
    refine WL.pure rfl rfl rfl (PV.move rfl) ?_
    refine WL.pure rfl rfl rfl (PV.assign rfl) ?_
    refine WL.nilS ?_
    refine CW.seq ?_
    refine CW.reg ?_
    refine WL.pure rfl rfl rfl (PV.move rfl) ?_
    refine WL.pure rfl rfl rfl (PV.move rfl) ?_
    first
      | refine WL.at (x := .tmp 11) (y := .tmp 12) (E := ECh) (d4) rfl rfl (by first | assumption | exact Inn.rd (by assumption) (by omega)) (by first | omega | (simp only [List.length_set]; omega) | (simp only [List.length_append, List.length_take, List.length_replicate, List.length_drop]; omega)) (fun p1 csp1 hpp1 hcp1 hq => ?_)
      | refine WL.atZ (x := .tmp 11) (y := .tmp 12) (E := ECh) (d4) rfl rfl (by first | assumption | exact Inn.rd (by assumption) (by omega)) (by first | omega | (simp only [List.length_set]; omega) | (simp only [List.length_append, List.length_take, List.length_replicate, List.length_drop]; omega)) (fun p1 csp1 hpp1 hzp1 hcp1 hq => ?_)
    obtain ⟨vq0, vq1, vq2, vq3, rfl, hq0, hq1, hq2, hq3⟩ := ECh.parts hq
    refine WL.pure rfl rfl rfl ((by first | exact PV.indexAddr hpp1 rfl rfl T.sl46 | exact PV.indexAddr hpp1 rfl (by rw [← hzp1]; rfl) T.sl46)) ?_
    refine WL.pure rfl rfl rfl ((by first | exact PV.fieldAddr T.fl58_0 rfl (by first | assumption | exact Bx.cells (by assumption)) | exact PV.fieldAddrP T.fl58_0 rfl rfl)) ?_
    refine WL.pure rfl rfl rfl ((by first | exact PV.load0 T.na26 rfl (by first | exact Cells.up (by assumption) hB | exact Bx.cells (by assumption) | assumption) (Ext.refl _) rfl | exact PV.load1 T.na26 rfl (by first | exact Cells.up (by assumption) hB | exact Bx.cells (by assumption) | assumption) (Ext.refl _) rfl)) ?_
    refine WL.pure rfl rfl rfl ((by first | exact PV.len rfl (by assumption) T.sl26 | exact PV.lenOs rfl (by assumption) T.sl26 | exact PV.len rfl (NL.rd (by assumption)) T.sl26 | exact PV.len rfl (Inn.rd (by assumption) (by omega)) T.sl26)) ?_
    refine WL.pure rfl rfl rfl (PV.neq rfl rfl) ?_
    refine WL.pure rfl rfl rfl (PV.move rfl) ?_
    refine WL.split (t := 18) rfl (fun hc2 => ?_) (fun hc2 => ?_)
    · skip
      try simp only [decide_eq_true_eq, decide_eq_false_iff_not, Bool.not_eq_true', Bool.not_eq_false', Bool.not_eq_eq_eq_not, Bool.not_true, Bool.not_false, Int.not_lt, Int.not_le, Classical.not_not, beq_iff_eq, beq_eq_false_iff_ne] at hc2
      refine WL.skip rfl rfl rfl rfl rfl ?_
      refine WL.skip rfl rfl rfl rfl rfl ?_
      refine WL.skip rfl rfl rfl rfl rfl ?_
      refine WL.skip rfl rfl rfl rfl rfl ?_
      refine WL.skip rfl rfl rfl rfl rfl ?_
      refine WL.skip rfl rfl rfl rfl rfl ?_
      refine WL.skip rfl rfl rfl rfl rfl ?_
      refine WL.pure rfl rfl rfl (PV.pickT rfl rfl) ?_
      refine WL.nilS ?_
      refine CW.condT rfl ?_
      refine CW.seq ?_
      refine CW.reg ?_
      refine WL.pure rfl rfl rfl (PV.assign rfl) ?_
      refine WL.nilS ?_
      refine CW.ret ?_
      refine RQ.block ?_
      refine RQ.then ?_
      refine RQ.then ?_
      refine RQ.block ?_
      refine RQ.then ?_
      refine RQ.r1 rfl ?_
      refine ⟨?_, hB⟩
      first | exact bE (pln_n2 (k := k) (by omega) (decide_eq_true (by omega))) | exact bE (pln_e2 (fun j h => he j (by omega)))
    try simp only [decide_eq_true_eq, decide_eq_false_iff_not, Bool.not_eq_true', Bool.not_eq_false', Bool.not_eq_eq_eq_not, Bool.not_true, Bool.not_false, Int.not_lt, Int.not_le, Classical.not_not, beq_iff_eq, beq_eq_false_iff_ne] at hc2
    refine WL.pureG rfl rfl rfl rfl rfl (PV.move rfl) ?_
    refine WL.pureG rfl rfl rfl rfl rfl (PV.move rfl) ?_
    first
      | refine WL.at (x := .tmp 19) (y := .tmp 20) (E := ECh) (d4) rfl rfl (by first | assumption | exact Inn.rd (by assumption) (by omega)) (by first | omega | (simp only [List.length_set]; omega) | (simp only [List.length_append, List.length_take, List.length_replicate, List.length_drop]; omega)) (fun p2 csp2 hpp2 hcp2 hq => ?_)
      | refine WL.atZ (x := .tmp 19) (y := .tmp 20) (E := ECh) (d4) rfl rfl (by first | assumption | exact Inn.rd (by assumption) (by omega)) (by first | omega | (simp only [List.length_set]; omega) | (simp only [List.length_append, List.length_take, List.length_replicate, List.length_drop]; omega)) (fun p2 csp2 hpp2 hzp2 hcp2 hq => ?_)
    obtain ⟨vq0, vq1, vq2, vq3, rfl, hq0, hq1, hq2, hq3⟩ := ECh.parts hq
    refine WL.pureG rfl rfl rfl rfl rfl ((by first | exact PV.indexAddr hpp2 rfl rfl T.sl46 | exact PV.indexAddr hpp2 rfl (by rw [← hzp2]; rfl) T.sl46)) ?_
    refine WL.pureG rfl rfl rfl rfl rfl ((by first | exact PV.fieldAddr T.fl58_3 rfl (by first | assumption | exact Bx.cells (by assumption)) | exact PV.fieldAddrP T.fl58_3 rfl rfl)) ?_
    refine WL.pureG rfl rfl rfl rfl rfl ((by first | exact PV.load0 T.na26 rfl (by first | exact Cells.up (by assumption) hB | exact Bx.cells (by assumption) | assumption) (Ext.refl _) rfl | exact PV.load1 T.na26 rfl (by first | exact Cells.up (by assumption) hB | exact Bx.cells (by assumption) | assumption) (Ext.refl _) rfl)) ?_
    refine WL.pureG rfl rfl rfl rfl rfl ((by first | exact PV.len rfl (by assumption) T.sl26 | exact PV.lenOs rfl (by assumption) T.sl26 | exact PV.len rfl (NL.rd (by assumption)) T.sl26 | exact PV.len rfl (Inn.rd (by assumption) (by omega)) T.sl26)) ?_
    refine WL.pureG rfl rfl rfl rfl rfl (PV.neq rfl rfl) ?_
    refine WL.pure rfl rfl rfl (PV.pickF rfl rfl) ?_
    refine WL.nilS ?_
    refine CW.cond rfl (fun hc3 => ?_) (fun hc3 => ?_)
    · skip
      try simp only [decide_eq_true_eq, decide_eq_false_iff_not, Bool.not_eq_true', Bool.not_eq_false', Bool.not_eq_eq_eq_not, Bool.not_true, Bool.not_false, Int.not_lt, Int.not_le, Classical.not_not, beq_iff_eq, beq_eq_false_iff_ne] at hc3
      refine CW.seq ?_
      refine CW.reg ?_
      refine WL.pure rfl rfl rfl (PV.assign rfl) ?_
      refine WL.nilS ?_
      refine CW.ret ?_
      refine RQ.block ?_
      refine RQ.then ?_
      refine RQ.then ?_
      refine RQ.block ?_
      refine RQ.then ?_
      refine RQ.r1 rfl ?_
      refine ⟨?_, hB⟩
      first | exact bE (pln_n2 (k := k) (by omega) (decide_eq_true (by omega))) | exact bE (pln_e2 (fun j h => he j (by omega)))
    try simp only [decide_eq_true_eq, decide_eq_false_iff_not, Bool.not_eq_true', Bool.not_eq_false', Bool.not_eq_eq_eq_not, Bool.not_true, Bool.not_false, Int.not_lt, Int.not_le, Classical.not_not, beq_iff_eq, beq_eq_false_iff_ne] at hc3
    refine CW.skip ?_
    refine NQ.block ?_
    refine NQ.then ?_
    refine CW.reg ?_
    refine WL.pure rfl rfl rfl (PV.add rfl rfl (by constructor <;> omega)) ?_
    refine WL.pure rfl rfl rfl (PV.move rfl) ?_
    refine WL.nil ?_
    refine NQ.next (ρ := [(8, _)]) ⟨rfl, rfl, rfl, rfl, trivial⟩ ?_
    exact ⟨_, ⟨k + 1, rfl, rfl, hU0, (by first | omega | assumption | (simp_all; done) | (simp_all; omega)), (by intro j h; rcases Nat.lt_succ_iff_lt_or_eq.1 h with h | rfl; exact he j h; exact decide_eq_false (by omega))⟩, by omega⟩
  try simp only [decide_eq_true_eq, decide_eq_false_iff_not, Bool.not_eq_true', Bool.not_eq_false', Bool.not_eq_eq_eq_not, Bool.not_true, Bool.not_false, Int.not_lt, Int.not_le, Classical.not_not, beq_iff_eq, beq_eq_false_iff_ne] at hc1
  refine CW.exit ?_
  refine XQ.then ?_
  refine XQ.then ?_
  refine XQ.here ?_
  refine NQ.then ?_
  refine CW.seq ?_
  refine CW.reg ?_
  refine WL.pure rfl rfl rfl (PV.move rfl) ?_
  refine WL.pure rfl rfl rfl (PV.move rfl) ?_
  refine WL.op rfl (OpK.callR rfl T.cf105 rfl (c_spec_l05List (by first | assumption | exact Rd.up (by assumption) hB | exact rdCh (by assumption) (by assumption))) (fun w1 hXw1 => ?_))
  have hB := hB.trans hXw1
  refine WL.pure rfl rfl rfl (PV.assign rfl) ?_
  refine WL.nilS ?_
  refine CW.ret ?_
  refine RQ.r1 rfl ?_
  refine ⟨?_, hB⟩
  first | exact bE (pln_n2 (k := k) (by omega) (decide_eq_true (by omega))) | exact bE (pln_e2 (fun j h => he j (by omega)))
theorem c_spec_l00Same {w : World} {va vb : Value} {xs ys : List Int} (ha : Rd EI w va xs) (hb : Rd EI w vb ys) : Calls Try.prog 92 #[va, vb] w (Ret1 (RQt (.bool (decide (xs = ys))) w)) := by
  have hB : Ext w w := Ext.refl w
  have hla := ha.leI; have hlb := hb.leI
  refine callsOf (vs := [_, _]) Try.func92 rfl Try.ntmps92 rfl rfl ?_
  refine CW.seq ?_
  refine CW.reg ?_
  refine WL.pure rfl rfl rfl (PV.assign rfl) ?_
  refine WL.nilS ?_
  refine CW.seq ?_
  refine CW.seq ?_
  refine CW.reg ?_
  refine WL.pure rfl rfl rfl (PV.move rfl) ?_
  refine WL.pure rfl rfl rfl ((by first | exact PV.len rfl (by assumption) T.sl26 | exact PV.lenOs rfl (by assumption) T.sl26 | exact PV.len rfl (NL.rd (by assumption)) T.sl26 | exact PV.len rfl (Inn.rd (by assumption) (by omega)) T.sl26)) ?_
  refine WL.pure rfl rfl rfl (PV.move rfl) ?_
  refine WL.pure rfl rfl rfl ((by first | exact PV.len rfl (by assumption) T.sl26 | exact PV.lenOs rfl (by assumption) T.sl26 | exact PV.len rfl (NL.rd (by assumption)) T.sl26 | exact PV.len rfl (Inn.rd (by assumption) (by omega)) T.sl26)) ?_
  refine WL.pure rfl rfl rfl (PV.neq rfl rfl) ?_
  refine WL.nilS ?_
  refine CW.cond rfl (fun hc1 => ?_) (fun hc1 => ?_)
  · skip
    try simp only [decide_eq_true_eq, decide_eq_false_iff_not, Bool.not_eq_true', Bool.not_eq_false', Bool.not_eq_eq_eq_not, Bool.not_true, Bool.not_false, Int.not_lt, Int.not_le, Classical.not_not, beq_iff_eq, beq_eq_false_iff_ne] at hc1
    refine CW.seq ?_
    refine CW.reg ?_
    refine WL.pure rfl rfl rfl (PV.assign rfl) ?_
    refine WL.nilS ?_
    refine CW.ret ?_
    refine RQ.then ?_
    refine RQ.r1 rfl ?_
    refine ⟨?_, hB⟩
    first | exact bT (eq_of_takes (by omega) (by omega) he) | exact bF (by rintro rfl; simp_all)
  try simp only [decide_eq_true_eq, decide_eq_false_iff_not, Bool.not_eq_true', Bool.not_eq_false', Bool.not_eq_eq_eq_not, Bool.not_true, Bool.not_false, Int.not_lt, Int.not_le, Classical.not_not, beq_iff_eq, beq_eq_false_iff_ne] at hc1
  refine CW.skipS ?_
  refine CW.seq ?_
  refine CW.seq ?_
  refine CW.reg ?_
  refine WL.pure rfl rfl rfl (PV.assign rfl) ?_
  refine WL.nilS ?_
  refine CW.block ?_
  refine CW.loop (σk := [(0, _), (1, _)]) (fun ρ wz m => ∃ (k : Nat), ρ = [(5, .int .i64 (k : Nat))] ∧ m = xs.length - k ∧ UpdL [] w wz ∧ (k ≤ xs.length) ∧ (xs.take k = ys.take k)) (ρ₀ := [(5, _)]) (m₀ := _) ⟨rfl, rfl, rfl, trivial⟩ ⟨0, rfl, rfl, (UpdL.refl _ _), (by first | omega | rfl | (simp; done) | assumption | (simp_all; done)), (by first | omega | rfl | (simp; done) | assumption | (simp_all; done))⟩ ?_
  rintro _ wl1 _ ⟨k, rfl, rfl, hU0, hk, he⟩
  have hB := hB.loop hU0 trivial
  refine CW.seq ?_
  refine CW.seq ?_
  refine CW.reg ?_
  refine WL.pure rfl rfl rfl (PV.move rfl) ?_
  refine WL.pure rfl rfl rfl (PV.move rfl) ?_
  refine WL.pure rfl rfl rfl ((by first | exact PV.len rfl (by assumption) T.sl26 | exact PV.lenOs rfl (by assumption) T.sl26 | exact PV.len rfl (NL.rd (by assumption)) T.sl26 | exact PV.len rfl (Inn.rd (by assumption) (by omega)) T.sl26)) ?_
  refine WL.pure rfl rfl rfl (PV.lss rfl rfl) ?_
  refine WL.nilS ?_
  refine CW.cond rfl (fun hc2 => ?_) (fun hc2 => ?_)
  · skip
    try simp only [decide_eq_true_eq, decide_eq_false_iff_not, Bool.not_eq_true', Bool.not_eq_false', Bool.not_eq_eq_eq_not, Bool.not_true, Bool.not_false, Int.not_lt, Int.not_le, Classical.not_not, beq_iff_eq, beq_eq_false_iff_ne] at hc2
    refine CW.skipS ?_
    refine CW.seq ?_
    refine CW.block ?_
    refine CW.seq ?_
    refine CW.draw T.mixed (by kernel_rfl) (fun _ _ _ _ _ h => h) (fun w8 w9 => Upd none w8 w9) 9 (.take 0 (.take 1 (.take 2 (.take 3 (.take 4 (.take 5 (.take 6 (.take 7 (.take 8 .done))))))))) (by kernel_rfl) (fun w1 hXd => ?_)
    have hB := hB.trans hXd
    have hU0 := hU0.ext hXd
    have hBr := hB
    have hS : Upd none w1 w1 := Ext.toUpd (Ext.refl _)
    refine HP.take rfl rfl rfl rfl hS (fun wS hS1 => PV.move rfl) ?_
    refine HP.take rfl rfl rfl rfl hS (fun wS hS1 => PV.move rfl) ?_
    first
      | refine HP.at (x := .tmp 17) (y := .tmp 18) (E := EI) (0) rfl rfl (by first | assumption | exact Inn.rd (by assumption) (by omega)) (by first | omega | (simp only [List.length_set]; omega) | (simp only [List.length_append, List.length_take, List.length_replicate, List.length_drop]; omega)) (fun p1 csp1 hpp1 hcp1 hq => ?_)
      | refine HP.atZ (x := .tmp 17) (y := .tmp 18) (E := EI) (0) rfl rfl (by first | assumption | exact Inn.rd (by assumption) (by omega)) (by first | omega | (simp only [List.length_set]; omega) | (simp only [List.length_append, List.length_take, List.length_replicate, List.length_drop]; omega)) (fun p1 csp1 hpp1 hzp1 hcp1 hq => ?_)
    cases hq
    refine HP.take rfl rfl rfl rfl hS (fun wS hS1 => (by first | exact PV.indexAddr hpp1 rfl rfl T.sl26 | exact PV.indexAddr hpp1 rfl (by rw [← hzp1]; rfl) T.sl26)) ?_
    refine HP.take rfl rfl rfl rfl hS (fun wS hS1 => (by first | exact PV.load0 T.na2 rfl (by first | exact Cells.up (by assumption) (hBr.trans hS1) | exact Bx.cells (Bx.updD (by assumption) hS1 (Dj.nlR _)) | exact Cells.upd (by assumption) hS1 (by simp)) (Ext.refl _) rfl | exact PV.load1 T.na2 rfl (by first | exact Cells.up (by assumption) (hBr.trans hS1) | exact Bx.cells (Bx.updD (by assumption) hS1 (Dj.nlR _)) | exact Cells.upd (by assumption) hS1 (by simp)) (Ext.refl _) rfl)) ?_
    refine HP.take rfl rfl rfl rfl hS (fun wS hS1 => PV.move rfl) ?_
    refine HP.take rfl rfl rfl rfl hS (fun wS hS1 => PV.move rfl) ?_
    first
      | refine HP.at (x := .tmp 21) (y := .tmp 22) (E := EI) (0) rfl rfl (by first | assumption | exact Inn.rd (by assumption) (by omega)) (by first | omega | (simp only [List.length_set]; omega) | (simp only [List.length_append, List.length_take, List.length_replicate, List.length_drop]; omega)) (fun p2 csp2 hpp2 hcp2 hq => ?_)
      | refine HP.atZ (x := .tmp 21) (y := .tmp 22) (E := EI) (0) rfl rfl (by first | assumption | exact Inn.rd (by assumption) (by omega)) (by first | omega | (simp only [List.length_set]; omega) | (simp only [List.length_append, List.length_take, List.length_replicate, List.length_drop]; omega)) (fun p2 csp2 hpp2 hzp2 hcp2 hq => ?_)
    cases hq
    refine HP.take rfl rfl rfl rfl hS (fun wS hS1 => (by first | exact PV.indexAddr hpp2 rfl rfl T.sl26 | exact PV.indexAddr hpp2 rfl (by rw [← hzp2]; rfl) T.sl26)) ?_
    refine HP.take rfl rfl rfl rfl hS (fun wS hS1 => (by first | exact PV.load0 T.na2 rfl (by first | exact Cells.up (by assumption) (hBr.trans hS1) | exact Bx.cells (Bx.updD (by assumption) hS1 (Dj.nlR _)) | exact Cells.upd (by assumption) hS1 (by simp)) (Ext.refl _) rfl | exact PV.load1 T.na2 rfl (by first | exact Cells.up (by assumption) (hBr.trans hS1) | exact Bx.cells (Bx.updD (by assumption) hS1 (Dj.nlR _)) | exact Cells.upd (by assumption) hS1 (by simp)) (Ext.refl _) rfl)) ?_
    refine HP.take rfl rfl rfl rfl hS (fun wS hS1 => PV.neq rfl rfl) ?_
    refine HP.doneS ?_
    refine CW.cond rfl (fun hc3 => ?_) (fun hc3 => ?_)
    · skip
      try simp only [decide_eq_true_eq, decide_eq_false_iff_not, Bool.not_eq_true', Bool.not_eq_false', Bool.not_eq_eq_eq_not, Bool.not_true, Bool.not_false, Int.not_lt, Int.not_le, Classical.not_not, beq_iff_eq, beq_eq_false_iff_ne] at hc3
      refine CW.seq ?_
      refine CW.reg ?_
      refine WL.pure rfl rfl rfl (PV.assign rfl) ?_
      refine WL.nilS ?_
      refine CW.ret ?_
      refine RQ.block ?_
      refine RQ.then ?_
      refine RQ.then ?_
      refine RQ.block ?_
      refine RQ.then ?_
      refine RQ.r1 rfl ?_
      refine ⟨?_, hB⟩
      first | exact bT (eq_of_takes (by omega) (by omega) he) | exact bF (by rintro rfl; simp_all)
    try simp only [decide_eq_true_eq, decide_eq_false_iff_not, Bool.not_eq_true', Bool.not_eq_false', Bool.not_eq_eq_eq_not, Bool.not_true, Bool.not_false, Int.not_lt, Int.not_le, Classical.not_not, beq_iff_eq, beq_eq_false_iff_ne] at hc3
    refine CW.skip ?_
    refine NQ.block ?_
    refine NQ.then ?_
    refine CW.reg ?_
    refine WL.pure rfl rfl rfl (PV.move rfl) ?_
    refine WL.pure rfl rfl rfl (PV.add rfl rfl (by constructor <;> omega)) ?_
    refine WL.pure rfl rfl rfl (PV.assign rfl) ?_
    refine WL.nil ?_
    refine NQ.next (ρ := [(5, _)]) ⟨rfl, rfl, rfl, trivial⟩ ?_
    exact ⟨_, ⟨k + 1, rfl, rfl, hU0, (by first | omega | assumption | (simp_all; done) | (simp_all; omega)), (by exact take_eq_succ (by omega) (by omega) he (by assumption))⟩, by omega⟩
  try simp only [decide_eq_true_eq, decide_eq_false_iff_not, Bool.not_eq_true', Bool.not_eq_false', Bool.not_eq_eq_eq_not, Bool.not_true, Bool.not_false, Int.not_lt, Int.not_le, Classical.not_not, beq_iff_eq, beq_eq_false_iff_ne] at hc2
  refine CW.exit ?_
  refine XQ.then ?_
  refine XQ.then ?_
  refine XQ.here ?_
  refine NQ.then ?_
  refine CW.seq ?_
  refine CW.reg ?_
  refine WL.pure rfl rfl rfl (PV.assign rfl) ?_
  refine WL.nilS ?_
  refine CW.ret ?_
  refine RQ.r1 rfl ?_
  refine ⟨?_, hB⟩
  first | exact bT (eq_of_takes (by omega) (by omega) he) | exact bF (by rintro rfl; simp_all)
theorem c_spec_l05Meets {w : World} {va : Value} {cs : List C4}  (ha : Rd ECh w va cs) (hoks : ∀ k : Nat, k < cs.length → okC (cs.getD k d4)) (h8 : cs.length ≤ 8) : Calls Try.prog 89 #[va] w (Ret1 (fun v w' => Ext w w' ∧ ∃ (u : Value) (og_u : Option Nat) (vs_u : List M4) (os_u : List (Option Nat)), v = u ∧ (MO cs vs_u (ov1 cs cs.length)) ∧ Osn 4 gM w' og_u u vs_u ∧ Lo w og_u ∧ Inn w' os_u (vs_u.map fM) ((ov1 cs cs.length).map (ovW cs)) ∧ LoI w os_u ∧ DI os_u og_u)) := by
  have hB : Ext w w := Ext.refl w
  have hla := ha.leI
  refine callsOf (vs := [_]) Try.func89 rfl Try.ntmps89 rfl rfl ?_
  refine CW.seq ?_
  refine CW.reg ?_
  refine WL.pure rfl rfl rfl (PV.assign rfl) ?_
  refine WL.nilS ?_
  refine CW.seq ?_
  refine CW.reg ?_
  refine WL.op rfl (OpK.buildN (g := gM) (os := []) [] gM_ok rfl T.sl98 rfl rfl T.zv102 rfl rfl (fun v1 g1 w1 hXw1 ho1 hge1 => ?_))
  have hl1 := Lo.new hB hge1
  have hB := hB.trans hXw1
  refine WL.pure rfl rfl rfl (PV.assign rfl) ?_
  refine WL.nilS ?_
  refine CW.seq ?_
  refine CW.seq ?_
  refine CW.reg ?_
  refine WL.pure rfl rfl rfl (PV.move rfl) ?_
  refine WL.pure rfl rfl rfl ((by first | exact PV.len rfl (by assumption) T.sl46 | exact PV.lenOs rfl (by assumption) T.sl46 | exact PV.len rfl (NL.rd (by assumption)) T.sl46 | exact PV.len rfl (Inn.rd (by assumption) (by omega)) T.sl46)) ?_
  refine WL.pure rfl rfl rfl (PV.move rfl) ?_
  refine WL.nilS ?_
  refine CW.block ?_
  have hn2 := Inn.zero w1
  have hl2 := LoI.nl w
  have hd1_2 : DI [] (some g1) := DI.zero _
  have hlt1 := ho1.ltO
  have hlt2 := hn2.ltO
  refine CW.loop (σk := [(0, _), (13, _)]) (fun ρ wz m => ∃ (v3 : Value) (og3 : Option Nat) (vs3 : List M4) (os3 : List (Option Nat)) (i : Nat), ρ = [(3, v3), (14, .int .i64 (i : Nat))] ∧ m = cs.length - i ∧ UpdL [(some g1)] w1 wz ∧ Osn 4 gM wz og3 v3 (vs3) ∧ OgR w1 (some g1) og3 ∧ Inn wz os3 (vs3.map fM) ((ov1 cs i).map (ovW cs)) ∧ BlR w1 [] os3 ∧ DI os3 og3 ∧ (i ≤ cs.length) ∧ (MO cs vs3 (ov1 cs i))) (ρ₀ := [(3, _), (14, _)]) (m₀ := _) ⟨rfl, rfl, rfl, rfl, trivial⟩ ⟨v1, (some g1), _, [], 0, rfl, rfl, (UpdL.refl _ _), ho1, OgR.refl _ _, innE hn2 (by rfl), BlR.refl _ _, hd1_2, (by first | omega | rfl | (simp; done) | assumption | (simp_all; done)), (by exact MO.zero _)⟩ ?_
  rintro _ wl1 _ ⟨v3, og3, vs3, os3, i, rfl, rfl, hU0, ho3, ha3, hn4, hy4, hd3_4, hi, hC⟩
  have hl3 := Lo.ogr hl1 hB ha3
  have hg0_3 := ha3
  have hk0_3 : OkB [(some g1)] w1 og3 := OkB.ogr (OkB.mem (by simp)) (Nat.le_refl _) ha3
  have hBpre0 := hB
  have hB := hB.loop hU0 ⟨hl1, trivial⟩
  have hlv4 := hn4.lv
  have hz0_4 := hy4
  have hl4 := LoI.blr hl2 hBpre0 hy4
  refine CW.seq ?_
  refine CW.reg ?_
  refine WL.pure rfl rfl rfl (PV.lss rfl rfl) ?_
  refine WL.nilS ?_
  refine CW.seq ?_
  refine CW.cond rfl (fun hc1 => ?_) (fun hc1 => ?_)
  · skip
    try simp only [decide_eq_true_eq, decide_eq_false_iff_not, Bool.not_eq_true', Bool.not_eq_false', Bool.not_eq_eq_eq_not, Bool.not_true, Bool.not_false, Int.not_lt, Int.not_le, Classical.not_not, beq_iff_eq, beq_eq_false_iff_ne] at hc1
    refine CW.skipS ?_
    refine CW.seq ?_
    refine CW.block ?_
    refine CW.seq ?_
    refine CW.reg ?_
    have hoki := hoks i (by omega); have hok1i := hoki.2.1
    refine WL.pure rfl rfl rfl (PV.move rfl) ?_
    refine WL.pure rfl rfl rfl (PV.assign rfl) ?_
    refine WL.nilS ?_
    refine CW.seq ?_
    refine CW.reg ?_
    refine WL.pure rfl rfl rfl (PV.move rfl) ?_
    refine WL.pure rfl rfl rfl ((by first | exact PV.len rfl (by assumption) T.sl46 | exact PV.lenOs rfl (by assumption) T.sl46 | exact PV.len rfl (NL.rd (by assumption)) T.sl46 | exact PV.len rfl (Inn.rd (by assumption) (by omega)) T.sl46)) ?_
    refine WL.pure rfl rfl rfl (PV.move rfl) ?_
    refine WL.nilS ?_
    refine CW.block ?_
    have hlt4 := hn4.ltO
    have hlt3 := ho3.ltO
    refine CW.loop (σk := [(0, _), (4, _), (13, _), (14, _), (18, _)]) (fun ρ wz m => ∃ (v5 : Value) (og5 : Option Nat) (vs5 : List M4) (os5 : List (Option Nat)) (j : Nat), ρ = [(3, v5), (19, .int .i64 (j : Nat))] ∧ m = cs.length - j ∧ UpdL [og3] wl1 wz ∧ Osn 4 gM wz og5 v5 (vs5) ∧ OgR wl1 og3 og5 ∧ Inn wz os5 (vs5.map fM) ((ov1 cs i ++ ov2 cs i j).map (ovW cs)) ∧ BlR wl1 os3 os5 ∧ DI os5 og5 ∧ (j ≤ cs.length) ∧ (MO cs vs5 (ov1 cs i ++ ov2 cs i j))) (ρ₀ := [(3, _), (19, _)]) (m₀ := _) ⟨rfl, rfl, rfl, rfl, rfl, rfl, rfl, trivial⟩ ⟨v3, og3, _, os3, 0, rfl, rfl, (UpdL.refl _ _), ho3, OgR.refl _ _, innE hn4 (by rw [← ovQ_zero2]), BlR.refl _ _, hd3_4, (by first | omega | rfl | (simp; done) | assumption | (simp_all; done)), (by rw [← ovQ_zero2]; exact hC)⟩ ?_
    rintro _ wl2 _ ⟨v5, og5, vs5, os5, j, rfl, rfl, hU1, ho5, ha5, hn6, hy6, hd5_6, hj, hC⟩
    have hU0 := hU0.trans hU1 ⟨hk0_3, trivial⟩
    have hl5 := Lo.ogr hl3 hB ha5
    have hg1_5 := ha5
    have hk1_5 : OkB [og3] wl1 og5 := OkB.ogr (OkB.mem (by simp)) (Nat.le_refl _) ha5
    have hk0_5 := OkB.ogr hk0_3 (by first | assumption | exact UpdL.size (by assumption)) ha5
    have hg0_5 := OgR.trans hg0_3 (by first | assumption | exact UpdL.size (by assumption)) ha5
    have hBpre1 := hB
    have hB := hB.loop hU1 ⟨hl3, trivial⟩
    have hlv6 := hn6.lv
    have hz1_6 := hy6
    have hz0_6 := BlR.trans hz0_4 (by first | assumption | exact UpdL.size (by assumption)) hy6
    have hl6 := LoI.blr hl4 hBpre1 hy6
    refine CW.seq ?_
    refine CW.reg ?_
    refine WL.pure rfl rfl rfl (PV.lss rfl rfl) ?_
    refine WL.nilS ?_
    refine CW.seq ?_
    refine CW.cond rfl (fun hc2 => ?_) (fun hc2 => ?_)
    · skip
      try simp only [decide_eq_true_eq, decide_eq_false_iff_not, Bool.not_eq_true', Bool.not_eq_false', Bool.not_eq_eq_eq_not, Bool.not_true, Bool.not_false, Int.not_lt, Int.not_le, Classical.not_not, beq_iff_eq, beq_eq_false_iff_ne] at hc2
      refine CW.skipS ?_
      refine CW.seq ?_
      refine CW.block ?_
      refine CW.seq ?_
      refine CW.reg ?_
      have hokj := hoks j (by omega); have hok1j := hokj.2.1
      refine WL.pure rfl rfl rfl (PV.move rfl) ?_
      refine WL.pure rfl rfl rfl (PV.assign rfl) ?_
      refine WL.nilS ?_
      refine CW.seq ?_
      refine CW.reg ?_
      refine WL.pure rfl rfl rfl (PV.move rfl) ?_
      refine WL.pure rfl rfl rfl (PV.move rfl) ?_
      first
        | refine WL.at (x := .tmp 22) (y := .tmp 23) (E := ECh) (d4) rfl rfl (by first | assumption | exact Inn.rd (by assumption) (by omega)) (by first | omega | (simp only [List.length_set]; omega) | (simp only [List.length_append, List.length_take, List.length_replicate, List.length_drop]; omega)) (fun p1 csp1 hpp1 hcp1 hq => ?_)
        | refine WL.atZ (x := .tmp 22) (y := .tmp 23) (E := ECh) (d4) rfl rfl (by first | assumption | exact Inn.rd (by assumption) (by omega)) (by first | omega | (simp only [List.length_set]; omega) | (simp only [List.length_append, List.length_take, List.length_replicate, List.length_drop]; omega)) (fun p1 csp1 hpp1 hzp1 hcp1 hq => ?_)
      obtain ⟨vq0, vq1, vq2, vq3, rfl, hq0, hq1, hq2, hq3⟩ := ECh.parts hq
      refine WL.pure rfl rfl rfl ((by first | exact PV.indexAddr hpp1 rfl rfl T.sl46 | exact PV.indexAddr hpp1 rfl (by rw [← hzp1]; rfl) T.sl46)) ?_
      refine WL.pure rfl rfl rfl ((by first | exact PV.fieldAddr T.fl58_1 rfl (by first | assumption | exact Bx.cells (by assumption)) | exact PV.fieldAddrP T.fl58_1 rfl rfl)) ?_
      refine WL.pure rfl rfl rfl ((by first | exact PV.load0 T.na26 rfl (by first | exact Cells.up (by assumption) hB | exact Bx.cells (by assumption) | assumption) (Ext.refl _) rfl | exact PV.load1 T.na26 rfl (by first | exact Cells.up (by assumption) hB | exact Bx.cells (by assumption) | assumption) (Ext.refl _) rfl)) ?_
      refine WL.pure rfl rfl rfl (PV.assign rfl) ?_
      refine WL.nilS ?_
      refine CW.seq ?_
      refine CW.reg ?_
      refine WL.pure rfl rfl rfl (PV.move rfl) ?_
      refine WL.pure rfl rfl rfl (PV.move rfl) ?_
      first
        | refine WL.at (x := .tmp 27) (y := .tmp 28) (E := ECh) (d4) rfl rfl (by first | assumption | exact Inn.rd (by assumption) (by omega)) (by first | omega | (simp only [List.length_set]; omega) | (simp only [List.length_append, List.length_take, List.length_replicate, List.length_drop]; omega)) (fun p2 csp2 hpp2 hcp2 hq => ?_)
        | refine WL.atZ (x := .tmp 27) (y := .tmp 28) (E := ECh) (d4) rfl rfl (by first | assumption | exact Inn.rd (by assumption) (by omega)) (by first | omega | (simp only [List.length_set]; omega) | (simp only [List.length_append, List.length_take, List.length_replicate, List.length_drop]; omega)) (fun p2 csp2 hpp2 hzp2 hcp2 hq => ?_)
      obtain ⟨vq0, vq1, vq2, vq3, rfl, hq0, hq1, hq2, hq3⟩ := ECh.parts hq
      refine WL.pure rfl rfl rfl ((by first | exact PV.indexAddr hpp2 rfl rfl T.sl46 | exact PV.indexAddr hpp2 rfl (by rw [← hzp2]; rfl) T.sl46)) ?_
      refine WL.pure rfl rfl rfl ((by first | exact PV.fieldAddr T.fl58_1 rfl (by first | assumption | exact Bx.cells (by assumption)) | exact PV.fieldAddrP T.fl58_1 rfl rfl)) ?_
      refine WL.pure rfl rfl rfl ((by first | exact PV.load0 T.na26 rfl (by first | exact Cells.up (by assumption) hB | exact Bx.cells (by assumption) | assumption) (Ext.refl _) rfl | exact PV.load1 T.na26 rfl (by first | exact Cells.up (by assumption) hB | exact Bx.cells (by assumption) | assumption) (Ext.refl _) rfl)) ?_
      refine WL.pure rfl rfl rfl (PV.assign rfl) ?_
      refine WL.nilS ?_
      refine CW.seq ?_
      refine CW.reg ?_
      refine WL.pure rfl rfl rfl (PV.move rfl) ?_
      refine WL.pure rfl rfl rfl ((by first | exact PV.len rfl (by assumption) T.sl26 | exact PV.lenOs rfl (by assumption) T.sl26 | exact PV.len rfl (NL.rd (by assumption)) T.sl26 | exact PV.len rfl (Inn.rd (by assumption) (by omega)) T.sl26)) ?_
      refine WL.pure rfl rfl rfl (PV.move rfl) ?_
      refine WL.pure rfl rfl rfl ((by first | exact PV.len rfl (by assumption) T.sl26 | exact PV.lenOs rfl (by assumption) T.sl26 | exact PV.len rfl (NL.rd (by assumption)) T.sl26 | exact PV.len rfl (Inn.rd (by assumption) (by omega)) T.sl26)) ?_
      refine WL.pure rfl rfl rfl (PV.min2 rfl rfl) ?_
      refine WL.pure rfl rfl rfl (PV.assign rfl) ?_
      refine WL.nilS ?_
      refine CW.seq ?_
      refine CW.seq ?_
      refine CW.reg ?_
      refine WL.pure rfl rfl rfl (PV.move rfl) ?_
      refine WL.pure rfl rfl rfl (PV.move rfl) ?_
      refine WL.pure rfl rfl rfl (PV.eql rfl rfl) ?_
      refine WL.nilS ?_
      refine CW.cond rfl (fun hc3 => ?_) (fun hc3 => ?_)
      · skip
        try simp only [decide_eq_true_eq, decide_eq_false_iff_not, Bool.not_eq_true', Bool.not_eq_false', Bool.not_eq_eq_eq_not, Bool.not_true, Bool.not_false, Int.not_lt, Int.not_le, Classical.not_not, beq_iff_eq, beq_eq_false_iff_ne] at hc3
        have hmo := mostN_eq (cs := cs) (i := i) (j := j) (by omega) hok1i.1; unfold patL at hmo
        refine CW.reg ?_
        refine WL.pure rfl rfl rfl (PV.move rfl) ?_
        refine WL.pure rfl rfl rfl (PV.sub rfl rfl (by constructor <;> omega)) ?_
        refine WL.pure rfl rfl rfl (PV.assign rfl) ?_
        refine WL.nilS ?_
        refine CW.seq ?_
        refine CW.reg ?_
        refine WL.pure rfl rfl rfl (PV.assign rfl) ?_
        refine WL.nilS ?_
        refine CW.block ?_
        have hlt6 := hn6.ltO
        have hlt5 := ho5.ltO
        refine CW.loop (σk := [(0, _), (4, _), (5, _), (6, _), (7, _), (8, _), (13, _), (14, _), (18, _), (19, _)]) (fun ρ wz m => ∃ (v7 : Value) (og7 : Option Nat) (vs7 : List M4) (os7 : List (Option Nat)) (n : Nat), ρ = [(3, v7), (9, .int .i64 ((n + 1 : Nat) : Int))] ∧ m = mostN cs i j - n ∧ UpdL [og5] wl2 wz ∧ Osn 4 gM wz og7 v7 (vs7) ∧ OgR wl2 og5 og7 ∧ Inn wz os7 (vs7.map fM) ((ovQ cs i j n).map (ovW cs)) ∧ BlR wl2 os5 os7 ∧ DI os7 og7 ∧ (n ≤ mostN cs i j) ∧ (MO cs vs7 (ovQ cs i j n))) (ρ₀ := [(3, _), (9, _)]) (m₀ := _) ⟨rfl, rfl, rfl, rfl, rfl, rfl, rfl, rfl, rfl, rfl, rfl, rfl, trivial⟩ ⟨v5, og5, _, os5, 0, rfl, rfl, (UpdL.refl _ _), ho5, OgR.refl _ _, innE hn6 (by rw [← ovQ_zero3]), BlR.refl _ _, hd5_6, (by first | omega | rfl | (simp; done) | assumption | (simp_all; done)), (by rw [← ovQ_zero3]; exact hC)⟩ ?_
        rintro _ wl3 _ ⟨v7, og7, vs7, os7, n, rfl, rfl, hU2, ho7, ha7, hn8, hy8, hd7_8, hn, hC⟩
        have hU0 := hU0.trans hU2 ⟨hk0_5, trivial⟩
        have hU1 := hU1.trans hU2 ⟨hk1_5, trivial⟩
        have hl7 := Lo.ogr hl5 hB ha7
        have hg2_7 := ha7
        have hk2_7 : OkB [og5] wl2 og7 := OkB.ogr (OkB.mem (by simp)) (Nat.le_refl _) ha7
        have hk0_7 := OkB.ogr hk0_5 (by first | assumption | exact UpdL.size (by assumption)) ha7
        have hg0_7 := OgR.trans hg0_5 (by first | assumption | exact UpdL.size (by assumption)) ha7
        have hk1_7 := OkB.ogr hk1_5 (by first | assumption | exact UpdL.size (by assumption)) ha7
        have hg1_7 := OgR.trans hg1_5 (by first | assumption | exact UpdL.size (by assumption)) ha7
        have hBpre2 := hB
        have hB := hB.loop hU2 ⟨hl5, trivial⟩
        have hlv8 := hn8.lv
        have hz2_8 := hy8
        have hz0_8 := BlR.trans hz0_6 (by first | assumption | exact UpdL.size (by assumption)) hy8
        have hz1_8 := BlR.trans hz1_6 (by first | assumption | exact UpdL.size (by assumption)) hy8
        have hl8 := LoI.blr hl6 hBpre2 hy8
        have hq300 := ovQ_300 (n := n) h8 hoks (show i ≤ cs.length by omega) (show j ≤ cs.length by omega) hn
        refine CW.seq ?_
        refine CW.seq ?_
        refine CW.reg ?_
        refine WL.pure rfl rfl rfl (PV.move rfl) ?_
        refine WL.pure rfl rfl rfl (PV.move rfl) ?_
        refine WL.pure rfl rfl rfl (PV.leq rfl rfl) ?_
        refine WL.nilS ?_
        refine CW.cond rfl (fun hc4 => ?_) (fun hc4 => ?_)
        · skip
          try simp only [decide_eq_true_eq, decide_eq_false_iff_not, Bool.not_eq_true', Bool.not_eq_false', Bool.not_eq_eq_eq_not, Bool.not_true, Bool.not_false, Int.not_lt, Int.not_le, Classical.not_not, beq_iff_eq, beq_eq_false_iff_ne] at hc4
          refine CW.skipS ?_
          refine CW.seq ?_
          refine CW.block ?_
          refine CW.seq ?_
          refine CW.draw T.mixed (by kernel_rfl) (fun _ _ _ _ _ h => h) (fun w8 w9 => Upd none w8 w9) 10 (.take 0 (.take 1 (.take 2 (.take 3 (.take 4 (.take 5 (.take 6 (.take 7 (.take 8 (.must 9 .done)))))))))) (by kernel_rfl) (fun w2 hXd => ?_)
          have hB := hB.trans hXd
          have hn8 := hn8.up hXd
          have ho7 := ho7.up hXd
          have hU0 := hU0.ext hXd
          have hU1 := hU1.ext hXd
          have hU2 := hU2.ext hXd
          have hBr := hB
          have hS : Upd none w2 w2 := Ext.toUpd (Ext.refl _)
          have hmr := mostN_rng cs i j; have hmr1 : mostN cs i j ≤ (cs.getD i d4).2.1.length := hmr.1; have hmr2 : mostN cs i j ≤ (cs.getD j d4).2.1.length := hmr.2; have hov : decide ((cs.getD i d4).2.1.drop (((cs.getD i d4).2.1.length : Int) - ((n + 1 : Nat) : Int)).toNat = (cs.getD j d4).2.1.take ((n + 1 : Nat) : Int).toNat) = ovP cs i j (n + 1) := (by rw [show (((cs.getD i d4).2.1.length : Int) - ((n + 1 : Nat) : Int)).toNat = (cs.getD i d4).2.1.length - (n + 1) from (by omega)]; rfl)
          refine HP.take rfl rfl rfl rfl hS (fun wS hS1 => PV.move rfl) ?_
          refine HP.take rfl rfl rfl rfl hS (fun wS hS1 => PV.move rfl) ?_
          refine HP.take rfl rfl rfl rfl hS (fun wS hS1 => (by first | exact PV.len rfl (by assumption) T.sl26 | exact PV.lenOs rfl (by assumption) T.sl26 | exact PV.len rfl (NL.rd (by assumption)) T.sl26 | exact PV.len rfl (Inn.rd (by assumption) (by omega)) T.sl26)) ?_
          refine HP.take rfl rfl rfl rfl hS (fun wS hS1 => PV.move rfl) ?_
          refine HP.take rfl rfl rfl rfl hS (fun wS hS1 => PV.sub rfl rfl (by constructor <;> omega)) ?_
          refine HP.slRL (x := .tmp 47) (lo := .tmp 51) (E := EI) T.sl26 rfl rfl  (by first | assumption | exact Osl.rd (by assumption)) (by first | omega | (simp; omega) | (simp_all; omega)) (fun u1 huu1 hru1 => ?_)
          refine HP.take rfl rfl rfl rfl hS (fun wS hS1 => (huu1 _ _ _ _ _ _)) ?_
          refine HP.take rfl rfl rfl rfl hS (fun wS hS1 => PV.move rfl) ?_
          refine HP.take rfl rfl rfl rfl hS (fun wS hS1 => PV.move rfl) ?_
          refine HP.slRH (x := .tmp 53) (hi := .tmp 54) (E := EI) T.sl26 rfl rfl  (by first | assumption | exact Osl.rd (by assumption)) (by first | omega | (simp; omega) | (simp_all; omega)) (fun u2 huu2 hru2 => ?_)
          refine HP.take rfl rfl rfl rfl hS (fun wS hS1 => (huu2 _ _ _ _ _ _)) ?_
          refine HP.must rfl rfl (OpK.callR rfl T.cf92 rfl (c_spec_l00Same (by first | assumption | exact Rd.up (by assumption) hB | exact Osl.rd (by assumption) | exact Osn.rdR (by assumption) | exact NL.rd (by assumption) | exact rdII (by assumption) (by assumption) | exact Inn.rd (by assumption) (by omega)) (by first | assumption | exact Rd.up (by assumption) hB | exact Osl.rd (by assumption) | exact Osn.rdR (by assumption) | exact NL.rd (by assumption) | exact rdII (by assumption) (by assumption) | exact Inn.rd (by assumption) (by omega))) (fun w3 hXw3 => ?_))
          refine ⟨Upd.trans hS hXw3, ?_⟩
          have hS := Upd.trans hS hXw3
          have hB := hB.trans hXw3
          have hn8 := hn8.up hXw3
          have ho7 := ho7.up hXw3
          have hU0 := hU0.ext hXw3
          have hU1 := hU1.ext hXw3
          have hU2 := hU2.ext hXw3
          refine HP.doneS ?_
          refine CW.cond rfl (fun hc5 => ?_) (fun hc5 => ?_)
          · skip
            try simp only [decide_eq_true_eq, decide_eq_false_iff_not, Bool.not_eq_true', Bool.not_eq_false', Bool.not_eq_eq_eq_not, Bool.not_true, Bool.not_false, Int.not_lt, Int.not_le, Classical.not_not, beq_iff_eq, beq_eq_false_iff_ne] at hc5
            have hyes : ovP cs i j (n + 1) = true := hov.symm.trans (decide_eq_true (by assumption))
            refine CW.seq ?_
            refine CW.draw T.mixed (by kernel_rfl) (fun _ _ _ _ _ h => h) (fun w8 w9 => Upd none w8 w9) 8 (.take 1 (.take 3 (.take 4 (.take 5 (.must 0 (.must 2 (.must 6 (.take 7 .done)))))))) (by kernel_rfl) (fun w4 hXd => ?_)
            have hB := hB.trans hXd
            have hn8 := hn8.up hXd
            have ho7 := ho7.up hXd
            have hU0 := hU0.ext hXd
            have hU1 := hU1.ext hXd
            have hU2 := hU2.ext hXd
            have hBr := hB
            have hS : Upd none w4 w4 := Ext.toUpd (Ext.refl _)
            refine HP.take rfl rfl rfl rfl hS (fun wS hS1 => PV.move rfl) ?_
            refine HP.take rfl rfl rfl rfl hS (fun wS hS1 => PV.move rfl) ?_
            refine HP.take rfl rfl rfl rfl hS (fun wS hS1 => PV.move rfl) ?_
            refine HP.slRL (x := .tmp 60) (lo := .tmp 61) (E := EI) T.sl26 rfl rfl  (by first | assumption | exact Osl.rd (by assumption)) (by first | omega | (simp; omega) | (simp_all; omega)) (fun u3 huu3 hru3 => ?_)
            refine HP.take rfl rfl rfl rfl hS (fun wS hS1 => (huu3 _ _ _ _ _ _)) ?_
            refine HP.must rfl rfl (OpK.buildS VI (os := []) [] rfl T.sl26 rfl rfl T.zv2 rfl (by intro z hz; cases hz) rfl (fun v9 g9 w5 hXw5 ho9 hge9 => ?_))
            have hl9 := Lo.new hB hge9
            have hv9 := Lo.new hS hge9
            have hd8_9 := DI.new hn8 hge9
            have hd7_9 := Dj.new ho7.ltO hge9
            have hk0_9 := OkN.new hU0 hge9
            have hg0_9 := OgR.new hU0.size hge9
            have hk1_9 := OkN.new hU1 hge9
            have hg1_9 := OgR.new hU1.size hge9
            have hk2_9 := OkN.new hU2 hge9
            have hg2_9 := OgR.new hU2.size hge9
            refine ⟨Upd.trans hS hXw5, ?_⟩
            have hS := Upd.trans hS hXw5
            have hB := hB.trans hXw5
            have hn8 := hn8.up hXw5
            have ho7 := ho7.up hXw5
            have hU0 := hU0.ext hXw5
            have hU1 := hU1.ext hXw5
            have hU2 := hU2.ext hXw5
            refine HP.must rfl rfl (OpK.appendS (f := VI) rfl T.sl26 T.zv2 rfl rfl ho9 rfl (Rd.src (by first | assumption | exact Rd.up (by assumption) hB | exact Inn.rd (by assumption) (by omega)) (fun _ => rfl)) (by first | (simp only [List.length_cons, List.length_nil]; omega) | (simp only [List.length_append, List.length_drop, List.length_nil]; omega)) (fun v10 og10 w6 hXw6 ho10 hap10 => ?_))
            have hl10 := Lo.app hl9 hB hap10
            have hv10 := Lo.app hv9 hS hap10
            have hd8_10 := DI.app hd8_9 hn8 hap10
            have hd7_10 := Dj.app hd7_9 ho7.ltO hap10
            have hk0_10 := OkN.app hU0 hk0_9 hap10
            have hg0_10 := OgR.app hg0_9 hU0.size hap10
            have hk1_10 := OkN.app hU1 hk1_9 hap10
            have hg1_10 := OgR.app hg1_9 hU1.size hap10
            have hk2_10 := OkN.app hU2 hk2_9 hap10
            have hg2_10 := OgR.app hg2_9 hU2.size hap10
            refine ⟨Ext.updL hS hXw6 hv9, ?_⟩
            have hS := Ext.updL hS hXw6 hv9
            have hB := hB.updL hXw6 hl9
            have hn8 := hn8.updD hXw6 hd8_9
            have ho7 := ho7.updD hXw6 hd7_9
            have hU0 := hU0.step hXw6 hk0_9
            have hU1 := hU1.step hXw6 hk1_9
            have hU2 := hU2.step hXw6 hk2_9
            refine HP.must rfl rfl (OpK.appendS (f := VI) rfl T.sl26 T.zv2 rfl rfl ho10 rfl (Rd.src (by first | assumption | exact Rd.up (by assumption) hB | exact Inn.rd (by assumption) (by omega)) (fun _ => rfl)) (by first | (simp only [List.length_cons, List.length_nil]; omega) | (simp only [List.length_append, List.length_drop, List.length_nil]; omega)) (fun v11 og11 w7 hXw7 ho11 hap11 => ?_))
            have hl11 := Lo.app hl10 hB hap11
            have hv11 := Lo.app hv10 hS hap11
            have hd8_11 := DI.app hd8_10 hn8 hap11
            have hd7_11 := Dj.app hd7_10 ho7.ltO hap11
            have hk0_11 := OkN.app hU0 hk0_10 hap11
            have hg0_11 := OgR.app hg0_10 hU0.size hap11
            have hk1_11 := OkN.app hU1 hk1_10 hap11
            have hg1_11 := OgR.app hg1_10 hU1.size hap11
            have hk2_11 := OkN.app hU2 hk2_10 hap11
            have hg2_11 := OgR.app hg2_10 hU2.size hap11
            refine ⟨Ext.updL hS hXw7 hv10, ?_⟩
            have hS := Ext.updL hS hXw7 hv10
            have hB := hB.updL hXw7 hl10
            have hn8 := hn8.updD hXw7 hd8_10
            have ho7 := ho7.updD hXw7 hd7_10
            have hU0 := hU0.step hXw7 hk0_10
            have hU1 := hU1.step hXw7 hk1_10
            have hU2 := hU2.step hXw7 hk2_10
            refine HP.take rfl rfl rfl rfl hS (fun wS hS1 => PV.assign rfl) ?_
            refine HP.doneS ?_
            refine CW.reg ?_
            refine WL.pure rfl rfl rfl (PV.move rfl) ?_
            refine WL.pure rfl rfl rfl (PV.move rfl) ?_
            refine WL.pure rfl rfl rfl (PV.move rfl) ?_
            refine WL.pure rfl rfl rfl ((by first | exact PV.len rfl (by assumption) T.sl26 | exact PV.lenOs rfl (by assumption) T.sl26 | exact PV.len rfl (NL.rd (by assumption)) T.sl26 | exact PV.len rfl (Inn.rd (by assumption) (by omega)) T.sl26)) ?_
            refine WL.pure rfl rfl rfl (PV.move rfl) ?_
            refine WL.pure rfl rfl rfl (PV.sub rfl rfl (by constructor <;> omega)) ?_
            refine WL.pure rfl rfl rfl (PV.move rfl) ?_
            refine WL.pure rfl rfl rfl (PV.move rfl) ?_
            refine WL.pure rfl rfl rfl (PV.build (ks := [0, 1, 2, 3]) (os := [.tmp 65, .tmp 69, .tmp 70, .tmp 71]) (css := [[_], [_], [_], [_]]) (ds := [_, _, _, _]) T.bu102 rfl rfl ⟨(by first | exact Rd.cells1 (by assumption) | exact Osl.cells1 (by assumption) | exact Osn.cells1 (by assumption) | exact Rd.cells1 (NL.rd (by assumption)) | exact Inn.cell1 (by assumption) (by omega) | rfl), (by first | exact Rd.cells1 (by assumption) | exact Osl.cells1 (by assumption) | exact Osn.cells1 (by assumption) | exact Rd.cells1 (NL.rd (by assumption)) | exact Inn.cell1 (by assumption) (by omega) | rfl), (by first | exact Rd.cells1 (by assumption) | exact Osl.cells1 (by assumption) | exact Osn.cells1 (by assumption) | exact Rd.cells1 (NL.rd (by assumption)) | exact Inn.cell1 (by assumption) (by omega) | rfl), (by first | exact Rd.cells1 (by assumption) | exact Osl.cells1 (by assumption) | exact Osn.cells1 (by assumption) | exact Rd.cells1 (NL.rd (by assumption)) | exact Inn.cell1 (by assumption) (by omega) | rfl), trivial⟩ rfl) ?_
            have hga12 := gM_agg (Osl.rd ho11) (((cs.getD i d4).2.1.length : Int) - ((n + 1 : Nat) : Int)) ((i : Nat) : Int) ((j : Nat) : Int)
            refine WL.op rfl (OpK.buildN (g := gM) (os := [.tmp 72]) [(shOf v11, (((cs.getD i d4).2.1.length : Int) - ((n + 1 : Nat) : Int), ((i : Nat) : Int), ((j : Nat) : Int)))] gM_ok rfl T.sl98 rfl rfl T.zv102 (congrArg (fun z => some [z]) hga12) rfl (fun v12 g12 w8 hXw8 ho12 hge12 => ?_))
            have hl12 := Lo.new hB hge12
            have hd8_12 := DI.new hn8 hge12
            have hd7_12 := Dj.new ho7.ltO hge12
            have hd11_12 := Dj.new ho11.ltO hge12
            have hk0_12 := OkN.new hU0 hge12
            have hg0_12 := OgR.new hU0.size hge12
            have hk1_12 := OkN.new hU1 hge12
            have hg1_12 := OgR.new hU1.size hge12
            have hk2_12 := OkN.new hU2 hge12
            have hg2_12 := OgR.new hU2.size hge12
            have hB := hB.trans hXw8
            have hn8 := hn8.up hXw8
            have ho7 := ho7.up hXw8
            have ho11 := ho11.up hXw8
            have hU0 := hU0.ext hXw8
            have hU1 := hU1.ext hXw8
            have hU2 := hU2.ext hXw8
            refine WL.op rfl (OpK.appendN (g := gM) rfl T.sl98 T.zv102 rfl rfl ho7 rfl (Osn.src ho12) (by first | (simp only [List.length_cons, List.length_nil]; omega) | (simp_all; omega)) (fun v13 og13 w9 hXw9 ho13 hap13 => ?_))
            have hn14 := innVE (Inn.put hn8 ho11 hd8_11) (fM_put (r := ((((cs.getD i d4).2.1.length : Int) - ((n + 1 : Nat) : Int), ((i : Nat) : Int), ((j : Nat) : Int)))) (Osl.rd ho11)) rfl
            have hl14 := LoI.put hl8 hl11
            have hz0_14 := BlR.put hz0_8 hg0_11
            have hz1_14 := BlR.put hz1_8 hg1_11
            have hz2_14 := BlR.put hz2_8 hg2_11
            have hd7_14 := DI.put hd7_8 (Dj.symm hd7_11)
            have hd12_14 := DI.put hd8_12 hd11_12
            have hnp14 := hn14
            have hl13 := Lo.app hl7 hB hap13
            have hd12_13 := Dj.app (Dj.symm hd7_12) ho12.ltO hap13
            have hd13_14 := DI.app hd7_14 hn14 hap13
            have hk0_13 := OkN.app hU0 hk0_7 hap13
            have hg0_13 := OgR.app hg0_7 hU0.size hap13
            have hk1_13 := OkN.app hU1 hk1_7 hap13
            have hg1_13 := OgR.app hg1_7 hU1.size hap13
            have hk2_13 := OkN.app hU2 hk2_7 hap13
            have hg2_13 := OgR.app hg2_7 hU2.size hap13
            have hB := hB.updL hXw9 hl7
            have ho12 := ho12.updD hXw9 (Dj.symm hd7_12)
            have hn14 := hn14.updD hXw9 hd7_14
            have hU0 := hU0.step hXw9 hk0_7
            have hU1 := hU1.step hXw9 hk1_7
            have hU2 := hU2.step hXw9 hk2_7
            refine WL.pure rfl rfl rfl (PV.assign rfl) ?_
            refine WL.nil ?_
            refine NQ.block ?_
            refine NQ.then ?_
            refine CW.reg ?_
            refine WL.pure rfl rfl rfl (PV.move rfl) ?_
            refine WL.pure rfl rfl rfl (PV.add rfl rfl (by constructor <;> omega)) ?_
            refine WL.pure rfl rfl rfl (PV.assign rfl) ?_
            refine WL.nil ?_
            refine NQ.next (ρ := [(3, _), (9, _)]) ⟨rfl, rfl, rfl, rfl, rfl, rfl, rfl, rfl, rfl, rfl, rfl, rfl, trivial⟩ ?_
            exact ⟨_, ⟨v13, og13, _, (os7 ++ [og11]), n + 1, rfl, rfl, hU2, ho13, (by first | exact hg2_13 | exact OgR.weak hg2_13), innE hn14 (by first | exact ovW_put hyes rfl (by simp [patL]) | (rw [← ovQ_no hnot])), (by first | exact hz2_14 | exact BlR.weak hz2_14), hd13_14, (by first | omega | assumption | (simp_all; done) | (simp_all; omega)), (by first | (rw [← ovQ_put hyes]; exact hC.put rfl) | (rw [← ovQ_no hnot]; exact hC))⟩, by omega⟩
          try simp only [decide_eq_true_eq, decide_eq_false_iff_not, Bool.not_eq_true', Bool.not_eq_false', Bool.not_eq_eq_eq_not, Bool.not_true, Bool.not_false, Int.not_lt, Int.not_le, Classical.not_not, beq_iff_eq, beq_eq_false_iff_ne] at hc5
          have hnot : ovP cs i j (n + 1) = false := hov.symm.trans (decide_eq_false (by assumption))
          refine CW.skip ?_
          refine NQ.block ?_
          refine NQ.then ?_
          refine CW.reg ?_
          refine WL.pure rfl rfl rfl (PV.move rfl) ?_
          refine WL.pure rfl rfl rfl (PV.add rfl rfl (by constructor <;> omega)) ?_
          refine WL.pure rfl rfl rfl (PV.assign rfl) ?_
          refine WL.nil ?_
          refine NQ.next (ρ := [(3, _), (9, _)]) ⟨rfl, rfl, rfl, rfl, rfl, rfl, rfl, rfl, rfl, rfl, rfl, rfl, trivial⟩ ?_
          exact ⟨_, ⟨v7, og7, _, os7, n + 1, rfl, rfl, hU2, ho7, (by first | exact hg2_7 | exact OgR.weak hg2_7), innE hn8 (by first | exact ovW_put hyes rfl (by simp [patL]) | (rw [← ovQ_no hnot])), (by first | exact hz2_8 | exact BlR.weak hz2_8), hd7_8, (by first | omega | assumption | (simp_all; done) | (simp_all; omega)), (by first | (rw [← ovQ_put hyes]; exact hC.put rfl) | (rw [← ovQ_no hnot]; exact hC))⟩, by omega⟩
        try simp only [decide_eq_true_eq, decide_eq_false_iff_not, Bool.not_eq_true', Bool.not_eq_false', Bool.not_eq_eq_eq_not, Bool.not_true, Bool.not_false, Int.not_lt, Int.not_le, Classical.not_not, beq_iff_eq, beq_eq_false_iff_ne] at hc4
        refine CW.exit ?_
        refine XQ.then ?_
        refine XQ.then ?_
        refine XQ.here ?_
        refine NQ.block ?_
        refine NQ.then ?_
        refine CW.reg ?_
        refine WL.pure rfl rfl rfl (PV.add rfl rfl (by constructor <;> omega)) ?_
        refine WL.pure rfl rfl rfl (PV.move rfl) ?_
        refine WL.nil ?_
        refine NQ.next (ρ := [(3, _), (19, _)]) ⟨rfl, rfl, rfl, rfl, rfl, rfl, rfl, trivial⟩ ?_
        exact ⟨_, ⟨v7, og7, _, os7, j + 1, rfl, rfl, hU1, ho7, (by first | exact hg1_7 | exact OgR.weak hg1_7), innE hn8 (by rw [← ovQ_next (n := n) (by omega)]), (by first | exact hz1_8 | exact BlR.weak hz1_8), hd7_8, (by first | omega | assumption | (simp_all; done) | (simp_all; omega)), (by rw [← ovQ_next (n := n) (by omega)]; exact hC)⟩, by omega⟩
      try simp only [decide_eq_true_eq, decide_eq_false_iff_not, Bool.not_eq_true', Bool.not_eq_false', Bool.not_eq_eq_eq_not, Bool.not_true, Bool.not_false, Int.not_lt, Int.not_le, Classical.not_not, beq_iff_eq, beq_eq_false_iff_ne] at hc3
      have hmo := mostN_ne (cs := cs) (i := i) (j := j) (by omega); unfold patL at hmo
      refine CW.skipS ?_
      refine CW.seq ?_
      refine CW.reg ?_
      refine WL.pure rfl rfl rfl (PV.assign rfl) ?_
      refine WL.nilS ?_
      refine CW.block ?_
      have hlt6 := hn6.ltO
      have hlt5 := ho5.ltO
      refine CW.loop (σk := [(0, _), (4, _), (5, _), (6, _), (7, _), (8, _), (13, _), (14, _), (18, _), (19, _)]) (fun ρ wz m => ∃ (v15 : Value) (og15 : Option Nat) (vs15 : List M4) (os15 : List (Option Nat)) (n : Nat), ρ = [(3, v15), (9, .int .i64 ((n + 1 : Nat) : Int))] ∧ m = mostN cs i j - n ∧ UpdL [og5] wl2 wz ∧ Osn 4 gM wz og15 v15 (vs15) ∧ OgR wl2 og5 og15 ∧ Inn wz os15 (vs15.map fM) ((ovQ cs i j n).map (ovW cs)) ∧ BlR wl2 os5 os15 ∧ DI os15 og15 ∧ (n ≤ mostN cs i j) ∧ (MO cs vs15 (ovQ cs i j n))) (ρ₀ := [(3, _), (9, _)]) (m₀ := _) ⟨rfl, rfl, rfl, rfl, rfl, rfl, rfl, rfl, rfl, rfl, rfl, rfl, trivial⟩ ⟨v5, og5, _, os5, 0, rfl, rfl, (UpdL.refl _ _), ho5, OgR.refl _ _, innE hn6 (by rw [← ovQ_zero3]), BlR.refl _ _, hd5_6, (by first | omega | rfl | (simp; done) | assumption | (simp_all; done)), (by rw [← ovQ_zero3]; exact hC)⟩ ?_
      rintro _ wl4 _ ⟨v15, og15, vs15, os15, n, rfl, rfl, hU2, ho15, ha15, hn16, hy16, hd15_16, hn, hC⟩
      have hU0 := hU0.trans hU2 ⟨hk0_5, trivial⟩
      have hU1 := hU1.trans hU2 ⟨hk1_5, trivial⟩
      have hl15 := Lo.ogr hl5 hB ha15
      have hg2_15 := ha15
      have hk2_15 : OkB [og5] wl2 og15 := OkB.ogr (OkB.mem (by simp)) (Nat.le_refl _) ha15
      have hk0_15 := OkB.ogr hk0_5 (by first | assumption | exact UpdL.size (by assumption)) ha15
      have hg0_15 := OgR.trans hg0_5 (by first | assumption | exact UpdL.size (by assumption)) ha15
      have hk1_15 := OkB.ogr hk1_5 (by first | assumption | exact UpdL.size (by assumption)) ha15
      have hg1_15 := OgR.trans hg1_5 (by first | assumption | exact UpdL.size (by assumption)) ha15
      have hBpre2 := hB
      have hB := hB.loop hU2 ⟨hl5, trivial⟩
      have hlv16 := hn16.lv
      have hz2_16 := hy16
      have hz0_16 := BlR.trans hz0_6 (by first | assumption | exact UpdL.size (by assumption)) hy16
      have hz1_16 := BlR.trans hz1_6 (by first | assumption | exact UpdL.size (by assumption)) hy16
      have hl16 := LoI.blr hl6 hBpre2 hy16
      have hq300 := ovQ_300 (n := n) h8 hoks (show i ≤ cs.length by omega) (show j ≤ cs.length by omega) hn
      refine CW.seq ?_
      refine CW.seq ?_
      refine CW.reg ?_
      refine WL.pure rfl rfl rfl (PV.move rfl) ?_
      refine WL.pure rfl rfl rfl (PV.move rfl) ?_
      refine WL.pure rfl rfl rfl (PV.leq rfl rfl) ?_
      refine WL.nilS ?_
      refine CW.cond rfl (fun hc6 => ?_) (fun hc6 => ?_)
      · skip
        try simp only [decide_eq_true_eq, decide_eq_false_iff_not, Bool.not_eq_true', Bool.not_eq_false', Bool.not_eq_eq_eq_not, Bool.not_true, Bool.not_false, Int.not_lt, Int.not_le, Classical.not_not, beq_iff_eq, beq_eq_false_iff_ne] at hc6
        refine CW.skipS ?_
        refine CW.seq ?_
        refine CW.block ?_
        refine CW.seq ?_
        refine CW.draw T.mixed (by kernel_rfl) (fun _ _ _ _ _ h => h) (fun w8 w9 => Upd none w8 w9) 10 (.take 0 (.take 1 (.take 2 (.take 3 (.take 4 (.take 5 (.take 6 (.take 7 (.take 8 (.must 9 .done)))))))))) (by kernel_rfl) (fun w10 hXd => ?_)
        have hB := hB.trans hXd
        have hn16 := hn16.up hXd
        have ho15 := ho15.up hXd
        have hU0 := hU0.ext hXd
        have hU1 := hU1.ext hXd
        have hU2 := hU2.ext hXd
        have hBr := hB
        have hS : Upd none w10 w10 := Ext.toUpd (Ext.refl _)
        have hmr := mostN_rng cs i j; have hmr1 : mostN cs i j ≤ (cs.getD i d4).2.1.length := hmr.1; have hmr2 : mostN cs i j ≤ (cs.getD j d4).2.1.length := hmr.2; have hov : decide ((cs.getD i d4).2.1.drop (((cs.getD i d4).2.1.length : Int) - ((n + 1 : Nat) : Int)).toNat = (cs.getD j d4).2.1.take ((n + 1 : Nat) : Int).toNat) = ovP cs i j (n + 1) := (by rw [show (((cs.getD i d4).2.1.length : Int) - ((n + 1 : Nat) : Int)).toNat = (cs.getD i d4).2.1.length - (n + 1) from (by omega)]; rfl)
        refine HP.take rfl rfl rfl rfl hS (fun wS hS1 => PV.move rfl) ?_
        refine HP.take rfl rfl rfl rfl hS (fun wS hS1 => PV.move rfl) ?_
        refine HP.take rfl rfl rfl rfl hS (fun wS hS1 => (by first | exact PV.len rfl (by assumption) T.sl26 | exact PV.lenOs rfl (by assumption) T.sl26 | exact PV.len rfl (NL.rd (by assumption)) T.sl26 | exact PV.len rfl (Inn.rd (by assumption) (by omega)) T.sl26)) ?_
        refine HP.take rfl rfl rfl rfl hS (fun wS hS1 => PV.move rfl) ?_
        refine HP.take rfl rfl rfl rfl hS (fun wS hS1 => PV.sub rfl rfl (by constructor <;> omega)) ?_
        refine HP.slRL (x := .tmp 47) (lo := .tmp 51) (E := EI) T.sl26 rfl rfl  (by first | assumption | exact Osl.rd (by assumption)) (by first | omega | (simp; omega) | (simp_all; omega)) (fun u4 huu4 hru4 => ?_)
        refine HP.take rfl rfl rfl rfl hS (fun wS hS1 => (huu4 _ _ _ _ _ _)) ?_
        refine HP.take rfl rfl rfl rfl hS (fun wS hS1 => PV.move rfl) ?_
        refine HP.take rfl rfl rfl rfl hS (fun wS hS1 => PV.move rfl) ?_
        refine HP.slRH (x := .tmp 53) (hi := .tmp 54) (E := EI) T.sl26 rfl rfl  (by first | assumption | exact Osl.rd (by assumption)) (by first | omega | (simp; omega) | (simp_all; omega)) (fun u5 huu5 hru5 => ?_)
        refine HP.take rfl rfl rfl rfl hS (fun wS hS1 => (huu5 _ _ _ _ _ _)) ?_
        refine HP.must rfl rfl (OpK.callR rfl T.cf92 rfl (c_spec_l00Same (by first | assumption | exact Rd.up (by assumption) hB | exact Osl.rd (by assumption) | exact Osn.rdR (by assumption) | exact NL.rd (by assumption) | exact rdII (by assumption) (by assumption) | exact Inn.rd (by assumption) (by omega)) (by first | assumption | exact Rd.up (by assumption) hB | exact Osl.rd (by assumption) | exact Osn.rdR (by assumption) | exact NL.rd (by assumption) | exact rdII (by assumption) (by assumption) | exact Inn.rd (by assumption) (by omega))) (fun w11 hXw11 => ?_))
        refine ⟨Upd.trans hS hXw11, ?_⟩
        have hS := Upd.trans hS hXw11
        have hB := hB.trans hXw11
        have hn16 := hn16.up hXw11
        have ho15 := ho15.up hXw11
        have hU0 := hU0.ext hXw11
        have hU1 := hU1.ext hXw11
        have hU2 := hU2.ext hXw11
        refine HP.doneS ?_
        refine CW.cond rfl (fun hc7 => ?_) (fun hc7 => ?_)
        · skip
          try simp only [decide_eq_true_eq, decide_eq_false_iff_not, Bool.not_eq_true', Bool.not_eq_false', Bool.not_eq_eq_eq_not, Bool.not_true, Bool.not_false, Int.not_lt, Int.not_le, Classical.not_not, beq_iff_eq, beq_eq_false_iff_ne] at hc7
          have hyes : ovP cs i j (n + 1) = true := hov.symm.trans (decide_eq_true (by assumption))
          refine CW.seq ?_
          refine CW.draw T.mixed (by kernel_rfl) (fun _ _ _ _ _ h => h) (fun w8 w9 => Upd none w8 w9) 8 (.take 1 (.take 3 (.take 4 (.take 5 (.must 0 (.must 2 (.must 6 (.take 7 .done)))))))) (by kernel_rfl) (fun w12 hXd => ?_)
          have hB := hB.trans hXd
          have hn16 := hn16.up hXd
          have ho15 := ho15.up hXd
          have hU0 := hU0.ext hXd
          have hU1 := hU1.ext hXd
          have hU2 := hU2.ext hXd
          have hBr := hB
          have hS : Upd none w12 w12 := Ext.toUpd (Ext.refl _)
          refine HP.take rfl rfl rfl rfl hS (fun wS hS1 => PV.move rfl) ?_
          refine HP.take rfl rfl rfl rfl hS (fun wS hS1 => PV.move rfl) ?_
          refine HP.take rfl rfl rfl rfl hS (fun wS hS1 => PV.move rfl) ?_
          refine HP.slRL (x := .tmp 60) (lo := .tmp 61) (E := EI) T.sl26 rfl rfl  (by first | assumption | exact Osl.rd (by assumption)) (by first | omega | (simp; omega) | (simp_all; omega)) (fun u6 huu6 hru6 => ?_)
          refine HP.take rfl rfl rfl rfl hS (fun wS hS1 => (huu6 _ _ _ _ _ _)) ?_
          refine HP.must rfl rfl (OpK.buildS VI (os := []) [] rfl T.sl26 rfl rfl T.zv2 rfl (by intro z hz; cases hz) rfl (fun v17 g17 w13 hXw13 ho17 hge17 => ?_))
          have hl17 := Lo.new hB hge17
          have hv17 := Lo.new hS hge17
          have hd16_17 := DI.new hn16 hge17
          have hd15_17 := Dj.new ho15.ltO hge17
          have hk0_17 := OkN.new hU0 hge17
          have hg0_17 := OgR.new hU0.size hge17
          have hk1_17 := OkN.new hU1 hge17
          have hg1_17 := OgR.new hU1.size hge17
          have hk2_17 := OkN.new hU2 hge17
          have hg2_17 := OgR.new hU2.size hge17
          refine ⟨Upd.trans hS hXw13, ?_⟩
          have hS := Upd.trans hS hXw13
          have hB := hB.trans hXw13
          have hn16 := hn16.up hXw13
          have ho15 := ho15.up hXw13
          have hU0 := hU0.ext hXw13
          have hU1 := hU1.ext hXw13
          have hU2 := hU2.ext hXw13
          refine HP.must rfl rfl (OpK.appendS (f := VI) rfl T.sl26 T.zv2 rfl rfl ho17 rfl (Rd.src (by first | assumption | exact Rd.up (by assumption) hB | exact Inn.rd (by assumption) (by omega)) (fun _ => rfl)) (by first | (simp only [List.length_cons, List.length_nil]; omega) | (simp only [List.length_append, List.length_drop, List.length_nil]; omega)) (fun v18 og18 w14 hXw14 ho18 hap18 => ?_))
          have hl18 := Lo.app hl17 hB hap18
          have hv18 := Lo.app hv17 hS hap18
          have hd16_18 := DI.app hd16_17 hn16 hap18
          have hd15_18 := Dj.app hd15_17 ho15.ltO hap18
          have hk0_18 := OkN.app hU0 hk0_17 hap18
          have hg0_18 := OgR.app hg0_17 hU0.size hap18
          have hk1_18 := OkN.app hU1 hk1_17 hap18
          have hg1_18 := OgR.app hg1_17 hU1.size hap18
          have hk2_18 := OkN.app hU2 hk2_17 hap18
          have hg2_18 := OgR.app hg2_17 hU2.size hap18
          refine ⟨Ext.updL hS hXw14 hv17, ?_⟩
          have hS := Ext.updL hS hXw14 hv17
          have hB := hB.updL hXw14 hl17
          have hn16 := hn16.updD hXw14 hd16_17
          have ho15 := ho15.updD hXw14 hd15_17
          have hU0 := hU0.step hXw14 hk0_17
          have hU1 := hU1.step hXw14 hk1_17
          have hU2 := hU2.step hXw14 hk2_17
          refine HP.must rfl rfl (OpK.appendS (f := VI) rfl T.sl26 T.zv2 rfl rfl ho18 rfl (Rd.src (by first | assumption | exact Rd.up (by assumption) hB | exact Inn.rd (by assumption) (by omega)) (fun _ => rfl)) (by first | (simp only [List.length_cons, List.length_nil]; omega) | (simp only [List.length_append, List.length_drop, List.length_nil]; omega)) (fun v19 og19 w15 hXw15 ho19 hap19 => ?_))
          have hl19 := Lo.app hl18 hB hap19
          have hv19 := Lo.app hv18 hS hap19
          have hd16_19 := DI.app hd16_18 hn16 hap19
          have hd15_19 := Dj.app hd15_18 ho15.ltO hap19
          have hk0_19 := OkN.app hU0 hk0_18 hap19
          have hg0_19 := OgR.app hg0_18 hU0.size hap19
          have hk1_19 := OkN.app hU1 hk1_18 hap19
          have hg1_19 := OgR.app hg1_18 hU1.size hap19
          have hk2_19 := OkN.app hU2 hk2_18 hap19
          have hg2_19 := OgR.app hg2_18 hU2.size hap19
          refine ⟨Ext.updL hS hXw15 hv18, ?_⟩
          have hS := Ext.updL hS hXw15 hv18
          have hB := hB.updL hXw15 hl18
          have hn16 := hn16.updD hXw15 hd16_18
          have ho15 := ho15.updD hXw15 hd15_18
          have hU0 := hU0.step hXw15 hk0_18
          have hU1 := hU1.step hXw15 hk1_18
          have hU2 := hU2.step hXw15 hk2_18
          refine HP.take rfl rfl rfl rfl hS (fun wS hS1 => PV.assign rfl) ?_
          refine HP.doneS ?_
          refine CW.reg ?_
          refine WL.pure rfl rfl rfl (PV.move rfl) ?_
          refine WL.pure rfl rfl rfl (PV.move rfl) ?_
          refine WL.pure rfl rfl rfl (PV.move rfl) ?_
          refine WL.pure rfl rfl rfl ((by first | exact PV.len rfl (by assumption) T.sl26 | exact PV.lenOs rfl (by assumption) T.sl26 | exact PV.len rfl (NL.rd (by assumption)) T.sl26 | exact PV.len rfl (Inn.rd (by assumption) (by omega)) T.sl26)) ?_
          refine WL.pure rfl rfl rfl (PV.move rfl) ?_
          refine WL.pure rfl rfl rfl (PV.sub rfl rfl (by constructor <;> omega)) ?_
          refine WL.pure rfl rfl rfl (PV.move rfl) ?_
          refine WL.pure rfl rfl rfl (PV.move rfl) ?_
          refine WL.pure rfl rfl rfl (PV.build (ks := [0, 1, 2, 3]) (os := [.tmp 65, .tmp 69, .tmp 70, .tmp 71]) (css := [[_], [_], [_], [_]]) (ds := [_, _, _, _]) T.bu102 rfl rfl ⟨(by first | exact Rd.cells1 (by assumption) | exact Osl.cells1 (by assumption) | exact Osn.cells1 (by assumption) | exact Rd.cells1 (NL.rd (by assumption)) | exact Inn.cell1 (by assumption) (by omega) | rfl), (by first | exact Rd.cells1 (by assumption) | exact Osl.cells1 (by assumption) | exact Osn.cells1 (by assumption) | exact Rd.cells1 (NL.rd (by assumption)) | exact Inn.cell1 (by assumption) (by omega) | rfl), (by first | exact Rd.cells1 (by assumption) | exact Osl.cells1 (by assumption) | exact Osn.cells1 (by assumption) | exact Rd.cells1 (NL.rd (by assumption)) | exact Inn.cell1 (by assumption) (by omega) | rfl), (by first | exact Rd.cells1 (by assumption) | exact Osl.cells1 (by assumption) | exact Osn.cells1 (by assumption) | exact Rd.cells1 (NL.rd (by assumption)) | exact Inn.cell1 (by assumption) (by omega) | rfl), trivial⟩ rfl) ?_
          have hga20 := gM_agg (Osl.rd ho19) (((cs.getD i d4).2.1.length : Int) - ((n + 1 : Nat) : Int)) ((i : Nat) : Int) ((j : Nat) : Int)
          refine WL.op rfl (OpK.buildN (g := gM) (os := [.tmp 72]) [(shOf v19, (((cs.getD i d4).2.1.length : Int) - ((n + 1 : Nat) : Int), ((i : Nat) : Int), ((j : Nat) : Int)))] gM_ok rfl T.sl98 rfl rfl T.zv102 (congrArg (fun z => some [z]) hga20) rfl (fun v20 g20 w16 hXw16 ho20 hge20 => ?_))
          have hl20 := Lo.new hB hge20
          have hd16_20 := DI.new hn16 hge20
          have hd15_20 := Dj.new ho15.ltO hge20
          have hd19_20 := Dj.new ho19.ltO hge20
          have hk0_20 := OkN.new hU0 hge20
          have hg0_20 := OgR.new hU0.size hge20
          have hk1_20 := OkN.new hU1 hge20
          have hg1_20 := OgR.new hU1.size hge20
          have hk2_20 := OkN.new hU2 hge20
          have hg2_20 := OgR.new hU2.size hge20
          have hB := hB.trans hXw16
          have hn16 := hn16.up hXw16
          have ho15 := ho15.up hXw16
          have ho19 := ho19.up hXw16
          have hU0 := hU0.ext hXw16
          have hU1 := hU1.ext hXw16
          have hU2 := hU2.ext hXw16
          refine WL.op rfl (OpK.appendN (g := gM) rfl T.sl98 T.zv102 rfl rfl ho15 rfl (Osn.src ho20) (by first | (simp only [List.length_cons, List.length_nil]; omega) | (simp_all; omega)) (fun v21 og21 w17 hXw17 ho21 hap21 => ?_))
          have hn22 := innVE (Inn.put hn16 ho19 hd16_19) (fM_put (r := ((((cs.getD i d4).2.1.length : Int) - ((n + 1 : Nat) : Int), ((i : Nat) : Int), ((j : Nat) : Int)))) (Osl.rd ho19)) rfl
          have hl22 := LoI.put hl16 hl19
          have hz0_22 := BlR.put hz0_16 hg0_19
          have hz1_22 := BlR.put hz1_16 hg1_19
          have hz2_22 := BlR.put hz2_16 hg2_19
          have hd15_22 := DI.put hd15_16 (Dj.symm hd15_19)
          have hd20_22 := DI.put hd16_20 hd19_20
          have hnp22 := hn22
          have hl21 := Lo.app hl15 hB hap21
          have hd20_21 := Dj.app (Dj.symm hd15_20) ho20.ltO hap21
          have hd21_22 := DI.app hd15_22 hn22 hap21
          have hk0_21 := OkN.app hU0 hk0_15 hap21
          have hg0_21 := OgR.app hg0_15 hU0.size hap21
          have hk1_21 := OkN.app hU1 hk1_15 hap21
          have hg1_21 := OgR.app hg1_15 hU1.size hap21
          have hk2_21 := OkN.app hU2 hk2_15 hap21
          have hg2_21 := OgR.app hg2_15 hU2.size hap21
          have hB := hB.updL hXw17 hl15
          have ho20 := ho20.updD hXw17 (Dj.symm hd15_20)
          have hn22 := hn22.updD hXw17 hd15_22
          have hU0 := hU0.step hXw17 hk0_15
          have hU1 := hU1.step hXw17 hk1_15
          have hU2 := hU2.step hXw17 hk2_15
          refine WL.pure rfl rfl rfl (PV.assign rfl) ?_
          refine WL.nil ?_
          refine NQ.block ?_
          refine NQ.then ?_
          refine CW.reg ?_
          refine WL.pure rfl rfl rfl (PV.move rfl) ?_
          refine WL.pure rfl rfl rfl (PV.add rfl rfl (by constructor <;> omega)) ?_
          refine WL.pure rfl rfl rfl (PV.assign rfl) ?_
          refine WL.nil ?_
          refine NQ.next (ρ := [(3, _), (9, _)]) ⟨rfl, rfl, rfl, rfl, rfl, rfl, rfl, rfl, rfl, rfl, rfl, rfl, trivial⟩ ?_
          exact ⟨_, ⟨v21, og21, _, (os15 ++ [og19]), n + 1, rfl, rfl, hU2, ho21, (by first | exact hg2_21 | exact OgR.weak hg2_21), innE hn22 (by first | exact ovW_put hyes rfl (by simp [patL]) | (rw [← ovQ_no hnot])), (by first | exact hz2_22 | exact BlR.weak hz2_22), hd21_22, (by first | omega | assumption | (simp_all; done) | (simp_all; omega)), (by first | (rw [← ovQ_put hyes]; exact hC.put rfl) | (rw [← ovQ_no hnot]; exact hC))⟩, by omega⟩
        try simp only [decide_eq_true_eq, decide_eq_false_iff_not, Bool.not_eq_true', Bool.not_eq_false', Bool.not_eq_eq_eq_not, Bool.not_true, Bool.not_false, Int.not_lt, Int.not_le, Classical.not_not, beq_iff_eq, beq_eq_false_iff_ne] at hc7
        have hnot : ovP cs i j (n + 1) = false := hov.symm.trans (decide_eq_false (by assumption))
        refine CW.skip ?_
        refine NQ.block ?_
        refine NQ.then ?_
        refine CW.reg ?_
        refine WL.pure rfl rfl rfl (PV.move rfl) ?_
        refine WL.pure rfl rfl rfl (PV.add rfl rfl (by constructor <;> omega)) ?_
        refine WL.pure rfl rfl rfl (PV.assign rfl) ?_
        refine WL.nil ?_
        refine NQ.next (ρ := [(3, _), (9, _)]) ⟨rfl, rfl, rfl, rfl, rfl, rfl, rfl, rfl, rfl, rfl, rfl, rfl, trivial⟩ ?_
        exact ⟨_, ⟨v15, og15, _, os15, n + 1, rfl, rfl, hU2, ho15, (by first | exact hg2_15 | exact OgR.weak hg2_15), innE hn16 (by first | exact ovW_put hyes rfl (by simp [patL]) | (rw [← ovQ_no hnot])), (by first | exact hz2_16 | exact BlR.weak hz2_16), hd15_16, (by first | omega | assumption | (simp_all; done) | (simp_all; omega)), (by first | (rw [← ovQ_put hyes]; exact hC.put rfl) | (rw [← ovQ_no hnot]; exact hC))⟩, by omega⟩
      try simp only [decide_eq_true_eq, decide_eq_false_iff_not, Bool.not_eq_true', Bool.not_eq_false', Bool.not_eq_eq_eq_not, Bool.not_true, Bool.not_false, Int.not_lt, Int.not_le, Classical.not_not, beq_iff_eq, beq_eq_false_iff_ne] at hc6
      refine CW.exit ?_
      refine XQ.then ?_
      refine XQ.then ?_
      refine XQ.here ?_
      refine NQ.block ?_
      refine NQ.then ?_
      refine CW.reg ?_
      refine WL.pure rfl rfl rfl (PV.add rfl rfl (by constructor <;> omega)) ?_
      refine WL.pure rfl rfl rfl (PV.move rfl) ?_
      refine WL.nil ?_
      refine NQ.next (ρ := [(3, _), (19, _)]) ⟨rfl, rfl, rfl, rfl, rfl, rfl, rfl, trivial⟩ ?_
      exact ⟨_, ⟨v15, og15, _, os15, j + 1, rfl, rfl, hU1, ho15, (by first | exact hg1_15 | exact OgR.weak hg1_15), innE hn16 (by rw [← ovQ_next (n := n) (by omega)]), (by first | exact hz1_16 | exact BlR.weak hz1_16), hd15_16, (by first | omega | assumption | (simp_all; done) | (simp_all; omega)), (by rw [← ovQ_next (n := n) (by omega)]; exact hC)⟩, by omega⟩
    try simp only [decide_eq_true_eq, decide_eq_false_iff_not, Bool.not_eq_true', Bool.not_eq_false', Bool.not_eq_eq_eq_not, Bool.not_true, Bool.not_false, Int.not_lt, Int.not_le, Classical.not_not, beq_iff_eq, beq_eq_false_iff_ne] at hc2
    refine CW.exit ?_
    refine XQ.then ?_
    refine XQ.then ?_
    refine XQ.here ?_
    refine NQ.block ?_
    refine NQ.then ?_
    refine CW.reg ?_
    refine WL.pure rfl rfl rfl (PV.add rfl rfl (by constructor <;> omega)) ?_
    refine WL.pure rfl rfl rfl (PV.move rfl) ?_
    refine WL.nil ?_
    refine NQ.next (ρ := [(3, _), (14, _)]) ⟨rfl, rfl, rfl, rfl, trivial⟩ ?_
    exact ⟨_, ⟨v5, og5, _, os5, i + 1, rfl, rfl, hU0, ho5, (by first | exact hg0_5 | exact OgR.weak hg0_5), innE hn6 (by rw [← ov1_next (i := i) (show j = cs.length by omega)]), (by first | exact hz0_6 | exact BlR.weak hz0_6), hd5_6, (by first | omega | assumption | (simp_all; done) | (simp_all; omega)), (by have e9 := ov1_next (i := i) (show j = cs.length by omega); rw [← e9]; exact hC)⟩, by omega⟩
  try simp only [decide_eq_true_eq, decide_eq_false_iff_not, Bool.not_eq_true', Bool.not_eq_false', Bool.not_eq_eq_eq_not, Bool.not_true, Bool.not_false, Int.not_lt, Int.not_le, Classical.not_not, beq_iff_eq, beq_eq_false_iff_ne] at hc1
  refine CW.exit ?_
  refine XQ.then ?_
  refine XQ.then ?_
  refine XQ.here ?_
  refine NQ.then ?_
  refine CW.seq ?_
  refine CW.reg ?_
  refine WL.pure rfl rfl rfl (PV.move rfl) ?_
  refine WL.pure rfl rfl rfl (PV.assign rfl) ?_
  refine WL.nilS ?_
  refine CW.ret ?_
  refine RQ.r1 rfl ?_
  obtain rfl : i = cs.length := (by omega); exact ⟨hB, _, _, _, _, rfl, hC, ho3, hl3, hn4, hl4, hd3_4⟩
theorem c_spec_l05Put {w : World} {vw : Value} {xs : List Int} {vg : Value} {gs : List Int} {a m : Int} (hw : Rd EI w vw xs) (hg : Rd EI w vg gs) (hwn : xs.length ≤ 10000) (hgn : gs.length ≤ 1000) (hfa : 0 ≤ a ∧ 0 ≤ m ∧ a + m ≤ xs.length) : Calls Try.prog 91 #[vw, .int .i64 a, .int .i64 m, vg] w (Ret1 (fun v w' => Ext w w' ∧ ∃ u og_u, v = u ∧ Osl VI w' og_u u (xs.take a.toNat ++ gs ++ xs.drop (a + m).toNat) ∧ Lo w og_u)) := by
  have hB : Ext w w := Ext.refl w
  have hlw := hw.leI; have hlg := hg.leI
  refine callsOf (vs := [_, _, _, _]) Try.func91 rfl Try.ntmps91 rfl rfl ?_
  refine CW.seq ?_
  refine CW.reg ?_
  refine WL.pure rfl rfl rfl (PV.assign rfl) ?_
  refine WL.nilS ?_
  refine CW.seq ?_
  refine CW.reg ?_
  refine WL.op rfl (OpK.buildS VI (os := []) [] rfl T.sl26 rfl rfl T.zv2 rfl (by intro z hz; cases hz) rfl (fun v1 g1 w1 hXw1 ho1 hge1 => ?_))
  have hl1 := Lo.new hB hge1
  have hB := hB.trans hXw1
  refine WL.pure rfl rfl rfl (PV.move rfl) ?_
  refine WL.pure rfl rfl rfl (PV.move rfl) ?_
  refine WL.slRH (x := .tmp 11) (hi := .tmp 12) (E := EI) T.sl26 rfl rfl  (by first | assumption | exact Osl.rd (by assumption)) (by first | omega | (simp; omega) | (simp_all; omega)) (fun u1 huu1 hru1 => ?_)
  refine WL.pure rfl rfl rfl ((huu1 _ _ _ _ _ _)) ?_
  refine WL.op rfl (OpK.appendS (f := VI) rfl T.sl26 T.zv2 rfl rfl ho1 rfl (Rd.src (by first | assumption | exact Rd.up (by assumption) hB | exact Inn.rd (by assumption) (by omega)) (fun _ => rfl)) (by first | (simp only [List.length_cons, List.length_nil]; omega) | (simp_all; omega)) (fun v2 og2 w2 hXw2 ho2 hap2 => ?_))
  have hl2 := Lo.app hl1 hB hap2
  have hB := hB.updL hXw2 hl1
  refine WL.pure rfl rfl rfl (PV.assign rfl) ?_
  refine WL.nilS ?_
  refine CW.seq ?_
  refine CW.reg ?_
  refine WL.pure rfl rfl rfl (PV.move rfl) ?_
  refine WL.pure rfl rfl rfl (PV.move rfl) ?_
  refine WL.op rfl (OpK.appendS (f := VI) rfl T.sl26 T.zv2 rfl rfl ho2 rfl (Rd.src (by first | assumption | exact Rd.up (by assumption) hB | exact Inn.rd (by assumption) (by omega)) (fun _ => rfl)) (by first | (simp only [List.length_cons, List.length_nil]; omega) | (simp_all; omega)) (fun v3 og3 w3 hXw3 ho3 hap3 => ?_))
  have hl3 := Lo.app hl2 hB hap3
  have hB := hB.updL hXw3 hl2
  refine WL.pure rfl rfl rfl (PV.assign rfl) ?_
  refine WL.nilS ?_
  refine CW.seq ?_
  refine CW.reg ?_
  refine WL.pure rfl rfl rfl (PV.move rfl) ?_
  refine WL.pure rfl rfl rfl (PV.move rfl) ?_
  refine WL.pure rfl rfl rfl (PV.move rfl) ?_
  refine WL.pure rfl rfl rfl (PV.move rfl) ?_
  refine WL.pure rfl rfl rfl (PV.add rfl rfl (by constructor <;> omega)) ?_
  refine WL.slRL (x := .tmp 19) (lo := .tmp 22) (E := EI) T.sl26 rfl rfl  (by first | assumption | exact Osl.rd (by assumption)) (by first | omega | (simp; omega) | (simp_all; omega)) (fun u2 huu2 hru2 => ?_)
  refine WL.pure rfl rfl rfl ((huu2 _ _ _ _ _ _)) ?_
  refine WL.op rfl (OpK.appendS (f := VI) rfl T.sl26 T.zv2 rfl rfl ho3 rfl (Rd.src (by first | assumption | exact Rd.up (by assumption) hB | exact Inn.rd (by assumption) (by omega)) (fun _ => rfl)) (by first | (simp only [List.length_cons, List.length_nil]; omega) | (simp_all; omega)) (fun v4 og4 w4 hXw4 ho4 hap4 => ?_))
  have hl4 := Lo.app hl3 hB hap4
  have hB := hB.updL hXw4 hl3
  refine WL.pure rfl rfl rfl (PV.assign rfl) ?_
  refine WL.nilS ?_
  refine CW.ret ?_
  refine RQ.r1 rfl ?_
  refine ⟨hB, v4, og4, ?_, osE ho4 ?_, hl4⟩
  · skip
    rfl
  · skip
    first | rfl | (simp; done)
theorem c_spec_l05There {w : World} {vw vp : Value} {xs ys : List Int} {a : Int}  (hw : Rd EI w vw xs) (hp : Rd EI w vp ys) (hab : -64 ≤ a ∧ a ≤ 1000000) (hpl : ys.length ≤ 1000000) : Calls Try.prog 135 #[vw, vp, .int .i64 a] w (Ret1 (RQt (.bool (thereB xs ys a)) w)) := by
  have hB : Ext w w := Ext.refl w
  have hlw := hw.leI; have hlp := hp.leI
  refine callsOf (vs := [_, _, _]) Try.func135 rfl Try.ntmps135 rfl rfl ?_
  refine CW.seq ?_
  refine CW.reg ?_
  refine WL.pure rfl rfl rfl (PV.assign rfl) ?_
  refine WL.nilS ?_
  refine CW.seq ?_
  refine CW.seq ?_
  refine CW.reg ?_
  refine WL.pure rfl rfl rfl (PV.move rfl) ?_
  refine WL.pure rfl rfl rfl (PV.lss rfl rfl) ?_
  refine WL.pure rfl rfl rfl (PV.move rfl) ?_
  refine WL.split (t := 9) rfl (fun hc1 => ?_) (fun hc1 => ?_)
  · skip
    try simp only [decide_eq_true_eq, decide_eq_false_iff_not, Bool.not_eq_true', Bool.not_eq_false', Bool.not_eq_eq_eq_not, Bool.not_true, Bool.not_false, Int.not_lt, Int.not_le, Classical.not_not, beq_iff_eq, beq_eq_false_iff_ne] at hc1
    refine WL.skip rfl rfl rfl rfl rfl ?_
    refine WL.skip rfl rfl rfl rfl rfl ?_
    refine WL.skip rfl rfl rfl rfl rfl ?_
    refine WL.skip rfl rfl rfl rfl rfl ?_
    refine WL.skip rfl rfl rfl rfl rfl ?_
    refine WL.skip rfl rfl rfl rfl rfl ?_
    refine WL.skip rfl rfl rfl rfl rfl ?_
    refine WL.pure rfl rfl rfl (PV.pickT rfl rfl) ?_
    refine WL.nilS ?_
    refine CW.condT rfl ?_
    refine CW.seq ?_
    refine CW.reg ?_
    refine WL.pure rfl rfl rfl (PV.assign rfl) ?_
    refine WL.nilS ?_
    refine CW.ret ?_
    refine RQ.then ?_
    refine RQ.r1 rfl ?_
    refine ⟨?_, hB⟩
    first | exact bE (there_n1 (by omega)) | exact bE (there_n2 (by omega)) | exact bE (there_e (by omega) (by omega))
  try simp only [decide_eq_true_eq, decide_eq_false_iff_not, Bool.not_eq_true', Bool.not_eq_false', Bool.not_eq_eq_eq_not, Bool.not_true, Bool.not_false, Int.not_lt, Int.not_le, Classical.not_not, beq_iff_eq, beq_eq_false_iff_ne] at hc1
  refine WL.pureG rfl rfl rfl rfl rfl (PV.move rfl) ?_
  refine WL.pureG rfl rfl rfl rfl rfl (PV.move rfl) ?_
  refine WL.pureG rfl rfl rfl rfl rfl ((by first | exact PV.len rfl (by assumption) T.sl26 | exact PV.lenOs rfl (by assumption) T.sl26 | exact PV.len rfl (NL.rd (by assumption)) T.sl26 | exact PV.len rfl (Inn.rd (by assumption) (by omega)) T.sl26)) ?_
  refine WL.pureG rfl rfl rfl rfl rfl (PV.add rfl rfl (by constructor <;> omega)) ?_
  refine WL.pureG rfl rfl rfl rfl rfl (PV.move rfl) ?_
  refine WL.pureG rfl rfl rfl rfl rfl ((by first | exact PV.len rfl (by assumption) T.sl26 | exact PV.lenOs rfl (by assumption) T.sl26 | exact PV.len rfl (NL.rd (by assumption)) T.sl26 | exact PV.len rfl (Inn.rd (by assumption) (by omega)) T.sl26)) ?_
  refine WL.pureG rfl rfl rfl rfl rfl (PV.gtr rfl rfl) ?_
  refine WL.pure rfl rfl rfl (PV.pickF rfl rfl) ?_
  refine WL.nilS ?_
  refine CW.cond rfl (fun hc2 => ?_) (fun hc2 => ?_)
  · skip
    try simp only [decide_eq_true_eq, decide_eq_false_iff_not, Bool.not_eq_true', Bool.not_eq_false', Bool.not_eq_eq_eq_not, Bool.not_true, Bool.not_false, Int.not_lt, Int.not_le, Classical.not_not, beq_iff_eq, beq_eq_false_iff_ne] at hc2
    refine CW.seq ?_
    refine CW.reg ?_
    refine WL.pure rfl rfl rfl (PV.assign rfl) ?_
    refine WL.nilS ?_
    refine CW.ret ?_
    refine RQ.then ?_
    refine RQ.r1 rfl ?_
    refine ⟨?_, hB⟩
    first | exact bE (there_n1 (by omega)) | exact bE (there_n2 (by omega)) | exact bE (there_e (by omega) (by omega))
  try simp only [decide_eq_true_eq, decide_eq_false_iff_not, Bool.not_eq_true', Bool.not_eq_false', Bool.not_eq_eq_eq_not, Bool.not_true, Bool.not_false, Int.not_lt, Int.not_le, Classical.not_not, beq_iff_eq, beq_eq_false_iff_ne] at hc2
  refine CW.skipS ?_
  refine CW.seq ?_
  refine CW.reg ?_
  refine WL.pure rfl rfl rfl (PV.move rfl) ?_
  refine WL.pure rfl rfl rfl (PV.move rfl) ?_
  refine WL.pure rfl rfl rfl (PV.move rfl) ?_
  refine WL.pure rfl rfl rfl (PV.move rfl) ?_
  refine WL.pure rfl rfl rfl ((by first | exact PV.len rfl (by assumption) T.sl26 | exact PV.lenOs rfl (by assumption) T.sl26 | exact PV.len rfl (NL.rd (by assumption)) T.sl26 | exact PV.len rfl (Inn.rd (by assumption) (by omega)) T.sl26)) ?_
  refine WL.pure rfl rfl rfl (PV.add rfl rfl (by constructor <;> omega)) ?_
  refine WL.slRLH (x := .tmp 18) (lo := .tmp 19) (hi := .tmp 23) (E := EI) T.sl26 rfl rfl rfl  (by first | assumption | exact Osl.rd (by assumption)) (by first | omega | (simp; omega) | (simp_all; omega)) (fun u1 huu1 hru1 => ?_)
  refine WL.pure rfl rfl rfl ((huu1 _ _ _ _ _ _)) ?_
  refine WL.pure rfl rfl rfl (PV.move rfl) ?_
  refine WL.op rfl (OpK.callR rfl T.cf92 rfl (c_spec_l00Same (by first | assumption | exact Rd.up (by assumption) hB | exact Osl.rd (by assumption) | exact Osn.rdR (by assumption) | exact NL.rd (by assumption) | exact rdII (by assumption) (by assumption) | exact Inn.rd (by assumption) (by omega)) (by first | assumption | exact Rd.up (by assumption) hB | exact Osl.rd (by assumption) | exact Osn.rdR (by assumption) | exact NL.rd (by assumption) | exact rdII (by assumption) (by assumption) | exact Inn.rd (by assumption) (by omega))) (fun w1 hXw1 => ?_))
  have hB := hB.trans hXw1
  refine WL.pure rfl rfl rfl (PV.assign rfl) ?_
  refine WL.nilS ?_
  refine CW.ret ?_
  refine RQ.r1 rfl ?_
  refine ⟨?_, hB⟩
  first | exact bE (there_n1 (by omega)) | exact bE (there_n2 (by omega)) | exact bE (there_e (by omega) (by omega))
theorem c_spec_l05Fits {w : World} {pc : Addr} {uc0 uc1 uc2 uc3 : Value} {c : C4} {vw : Value} {xs : List Int} {a : Int} (hbc : Cells w pc [uc0, uc1, uc2, uc3]) (hch0 : Rd EI w uc0 c.1) (hch1 : Rd EI w uc1 c.2.1) (hch2 : Rd EI w uc2 c.2.2.1) (hch3 : Rd EI w uc3 c.2.2.2) (hw : Rd EI w vw xs) (hok : okC c) (hab : 0 ≤ a ∧ a ≤ 100000) : Calls Try.prog 133 #[.pointer (some pc), vw, .int .i64 a] w (Ret1 (RQt (.bool (fitsB c xs a)) w)) := by
  have hB : Ext w w := Ext.refl w
  have hlc0 := hch0.leI; have hlc1 := hch1.leI; have hlc2 := hch2.leI; have hlc3 := hch3.leI; have hlw := hw.leI; have hok0 := hok.1; have hok1 := hok.2.1; have hok2 := hok.2.2.1; have hok3 := hok.2.2.2
  refine callsOf (vs := [_, _, _]) Try.func133 rfl Try.ntmps133 rfl rfl ?_
  refine CW.seq ?_
  refine CW.reg ?_
  refine WL.pure rfl rfl rfl (PV.assign rfl) ?_
  refine WL.nilS ?_
  refine CW.seq ?_
  refine CW.draw T.mixed (by kernel_rfl) (fun _ _ _ _ _ h => h) (fun w8 w9 => Upd none w8 w9) 38 (.take 0 (.take 1 (.take 2 (.take 3 (.take 4 (.take 5 (.must 6 (.take 7 (.split (.take 8 (.take 9 (.take 10 (.take 11 (.take 12 (.take 13 (.take 14 (.take 15 (.take 16 (.take 17 (.take 18 (.take 19 (.must 20 (.take 21 (.take 22 (.split (.take 23 (.take 24 (.take 25 (.take 26 (.take 27 (.take 28 (.take 29 (.take 30 (.take 31 (.take 32 (.take 33 (.take 34 (.must 35 (.take 36 (.take 37 .done))))))))))))))) (.take 23 (.take 24 (.take 25 (.take 26 (.take 27 (.take 28 (.take 29 (.take 30 (.take 31 (.take 32 (.take 33 (.take 34 (.take 35 (.take 36 (.take 37 .done))))))))))))))))))))))))))))))) (.take 8 (.take 9 (.take 10 (.take 11 (.take 12 (.take 13 (.take 14 (.take 15 (.take 16 (.take 17 (.take 18 (.take 19 (.take 20 (.take 21 (.take 22 (.take 23 (.take 24 (.take 25 (.take 26 (.take 27 (.take 28 (.take 29 (.take 30 (.take 31 (.take 32 (.take 33 (.take 34 (.take 35 (.take 36 (.take 37 .done))))))))))))))))))))))))))))))))))))))) (by kernel_rfl) (fun w1 hXd => ?_)
  have hB := hB.trans hXd
  have hBr := hB
  have hS : Upd none w1 w1 := Ext.toUpd (Ext.refl _)
  refine HP.take rfl rfl rfl rfl hS (fun wS hS1 => PV.move rfl) ?_
  refine HP.take rfl rfl rfl rfl hS (fun wS hS1 => PV.move rfl) ?_
  refine HP.take rfl rfl rfl rfl hS (fun wS hS1 => PV.nilCheck rfl) ?_
  refine HP.take rfl rfl rfl rfl hS (fun wS hS1 => (by first | exact PV.fieldAddr T.fl58_1 rfl (by first | assumption | exact Bx.cells (by assumption)) | exact PV.fieldAddrP T.fl58_1 rfl rfl)) ?_
  refine HP.take rfl rfl rfl rfl hS (fun wS hS1 => (by first | exact PV.load0 T.na26 rfl (by first | exact Cells.up (by assumption) (hBr.trans hS1) | exact Bx.cells (Bx.updD (by assumption) hS1 (Dj.nlR _)) | exact Cells.upd (by assumption) hS1 (by simp)) (Ext.refl _) rfl | exact PV.load1 T.na26 rfl (by first | exact Cells.up (by assumption) (hBr.trans hS1) | exact Bx.cells (Bx.updD (by assumption) hS1 (Dj.nlR _)) | exact Cells.upd (by assumption) hS1 (by simp)) (Ext.refl _) rfl)) ?_
  refine HP.take rfl rfl rfl rfl hS (fun wS hS1 => PV.move rfl) ?_
  refine HP.must rfl rfl (OpK.callR rfl T.cf135 rfl (c_spec_l05There (by first | assumption | exact Rd.up (by assumption) hB | exact Osl.rd (by assumption) | exact Osn.rdR (by assumption) | exact NL.rd (by assumption) | exact rdII (by assumption) (by assumption) | exact Inn.rd (by assumption) (by omega)) (by first | assumption | exact Rd.up (by assumption) hB | exact Osl.rd (by assumption) | exact Osn.rdR (by assumption) | exact NL.rd (by assumption) | exact rdII (by assumption) (by assumption) | exact Inn.rd (by assumption) (by omega)) (by first | assumption | omega | (simp only [marks_len, marksB_len, marksR_len, sumL_marksS, List.length_take]; omega)) (by first | assumption | omega | (simp only [marks_len, marksB_len, marksR_len, sumL_marksS, List.length_take]; omega))) (fun w2 hXw2 => ?_))
  refine ⟨Upd.trans hS hXw2, ?_⟩
  have hS := Upd.trans hS hXw2
  have hB := hB.trans hXw2
  refine HP.take rfl rfl rfl rfl hS (fun wS hS1 => PV.move rfl) ?_
  refine HP.split (t := 14) rfl (fun hc1 => ?_) (fun hc1 => ?_)
  rotate_left
  · skip
    try simp only [decide_eq_true_eq, decide_eq_false_iff_not, Bool.not_eq_true', Bool.not_eq_false', Bool.not_eq_eq_eq_not, Bool.not_true, Bool.not_false, Int.not_lt, Int.not_le, Classical.not_not, beq_iff_eq, beq_eq_false_iff_ne] at hc1
    refine HP.skip rfl rfl rfl rfl rfl rfl hS ?_
    refine HP.skip rfl rfl rfl rfl rfl rfl hS ?_
    refine HP.skip rfl rfl rfl rfl rfl rfl hS ?_
    refine HP.skip rfl rfl rfl rfl rfl rfl hS ?_
    refine HP.skip rfl rfl rfl rfl rfl rfl hS ?_
    refine HP.skip rfl rfl rfl rfl rfl rfl hS ?_
    refine HP.skip rfl rfl rfl rfl rfl rfl hS ?_
    refine HP.skip rfl rfl rfl rfl rfl rfl hS ?_
    refine HP.skip rfl rfl rfl rfl rfl rfl hS ?_
    refine HP.skip rfl rfl rfl rfl rfl rfl hS ?_
    refine HP.skip rfl rfl rfl rfl rfl rfl hS ?_
    refine HP.skip rfl rfl rfl rfl rfl rfl hS ?_
    refine HP.skip rfl rfl rfl rfl rfl rfl hS ?_
    refine HP.take rfl rfl rfl rfl hS (fun wS hS1 => PV.pickF rfl rfl) ?_
    refine HP.take rfl rfl rfl rfl hS (fun wS hS1 => PV.move rfl) ?_
    refine HP.skip rfl rfl rfl rfl rfl rfl hS ?_
    refine HP.skip rfl rfl rfl rfl rfl rfl hS ?_
    refine HP.skip rfl rfl rfl rfl rfl rfl hS ?_
    refine HP.skip rfl rfl rfl rfl rfl rfl hS ?_
    refine HP.skip rfl rfl rfl rfl rfl rfl hS ?_
    refine HP.skip rfl rfl rfl rfl rfl rfl hS ?_
    refine HP.skip rfl rfl rfl rfl rfl rfl hS ?_
    refine HP.skip rfl rfl rfl rfl rfl rfl hS ?_
    refine HP.skip rfl rfl rfl rfl rfl rfl hS ?_
    refine HP.skip rfl rfl rfl rfl rfl rfl hS ?_
    refine HP.skip rfl rfl rfl rfl rfl rfl hS ?_
    refine HP.skip rfl rfl rfl rfl rfl rfl hS ?_
    refine HP.skip rfl rfl rfl rfl rfl rfl hS ?_
    refine HP.take rfl rfl rfl rfl hS (fun wS hS1 => PV.pickF rfl rfl) ?_
    refine HP.take rfl rfl rfl rfl hS (fun wS hS1 => PV.assign rfl) ?_
    refine HP.doneS ?_
    refine CW.ret ?_
    refine RQ.r1 rfl ?_
    refine ⟨?_, hB⟩
    simp only [fitsB]; first | rfl | (simp_all; done)
  try simp only [decide_eq_true_eq, decide_eq_false_iff_not, Bool.not_eq_true', Bool.not_eq_false', Bool.not_eq_eq_eq_not, Bool.not_true, Bool.not_false, Int.not_lt, Int.not_le, Classical.not_not, beq_iff_eq, beq_eq_false_iff_ne] at hc1
  refine HP.takeG rfl rfl rfl rfl rfl rfl hS (fun wS hS1 => PV.move rfl) ?_
  refine HP.takeG rfl rfl rfl rfl rfl rfl hS (fun wS hS1 => PV.move rfl) ?_
  refine HP.takeG rfl rfl rfl rfl rfl rfl hS (fun wS hS1 => PV.nilCheck rfl) ?_
  refine HP.takeG rfl rfl rfl rfl rfl rfl hS (fun wS hS1 => (by first | exact PV.fieldAddr T.fl58_0 rfl (by first | assumption | exact Bx.cells (by assumption)) | exact PV.fieldAddrP T.fl58_0 rfl rfl)) ?_
  refine HP.takeG rfl rfl rfl rfl rfl rfl hS (fun wS hS1 => (by first | exact PV.load0 T.na26 rfl (by first | exact Cells.up (by assumption) (hBr.trans hS1) | exact Bx.cells (Bx.updD (by assumption) hS1 (Dj.nlR _)) | exact Cells.upd (by assumption) hS1 (by simp)) (Ext.refl _) rfl | exact PV.load1 T.na26 rfl (by first | exact Cells.up (by assumption) (hBr.trans hS1) | exact Bx.cells (Bx.updD (by assumption) hS1 (Dj.nlR _)) | exact Cells.upd (by assumption) hS1 (by simp)) (Ext.refl _) rfl)) ?_
  refine HP.takeG rfl rfl rfl rfl rfl rfl hS (fun wS hS1 => PV.move rfl) ?_
  refine HP.takeG rfl rfl rfl rfl rfl rfl hS (fun wS hS1 => PV.move rfl) ?_
  refine HP.takeG rfl rfl rfl rfl rfl rfl hS (fun wS hS1 => PV.nilCheck rfl) ?_
  refine HP.takeG rfl rfl rfl rfl rfl rfl hS (fun wS hS1 => (by first | exact PV.fieldAddr T.fl58_0 rfl (by first | assumption | exact Bx.cells (by assumption)) | exact PV.fieldAddrP T.fl58_0 rfl rfl)) ?_
  refine HP.takeG rfl rfl rfl rfl rfl rfl hS (fun wS hS1 => (by first | exact PV.load0 T.na26 rfl (by first | exact Cells.up (by assumption) (hBr.trans hS1) | exact Bx.cells (Bx.updD (by assumption) hS1 (Dj.nlR _)) | exact Cells.upd (by assumption) hS1 (by simp)) (Ext.refl _) rfl | exact PV.load1 T.na26 rfl (by first | exact Cells.up (by assumption) (hBr.trans hS1) | exact Bx.cells (Bx.updD (by assumption) hS1 (Dj.nlR _)) | exact Cells.upd (by assumption) hS1 (by simp)) (Ext.refl _) rfl)) ?_
  refine HP.takeG rfl rfl rfl rfl rfl rfl hS (fun wS hS1 => (by first | exact PV.len rfl (by assumption) T.sl26 | exact PV.lenOs rfl (by assumption) T.sl26 | exact PV.len rfl (NL.rd (by assumption)) T.sl26 | exact PV.len rfl (Inn.rd (by assumption) (by omega)) T.sl26)) ?_
  refine HP.takeG rfl rfl rfl rfl rfl rfl hS (fun wS hS1 => PV.sub rfl rfl (by constructor <;> omega)) ?_
  refine HP.mustG rfl rfl rfl rfl (OpK.callR rfl T.cf135 rfl (c_spec_l05There (by first | assumption | exact Rd.up (by assumption) hB | exact Osl.rd (by assumption) | exact Osn.rdR (by assumption) | exact NL.rd (by assumption) | exact rdII (by assumption) (by assumption) | exact Inn.rd (by assumption) (by omega)) (by first | assumption | exact Rd.up (by assumption) hB | exact Osl.rd (by assumption) | exact Osn.rdR (by assumption) | exact NL.rd (by assumption) | exact rdII (by assumption) (by assumption) | exact Inn.rd (by assumption) (by omega)) (by first | assumption | omega | (simp only [marks_len, marksB_len, marksR_len, sumL_marksS, List.length_take]; omega)) (by first | assumption | omega | (simp only [marks_len, marksB_len, marksR_len, sumL_marksS, List.length_take]; omega))) (fun w3 hXw3 => ?_))
  refine ⟨Upd.trans hS hXw3, ?_⟩
  have hS := Upd.trans hS hXw3
  have hB := hB.trans hXw3
  refine HP.take rfl rfl rfl rfl hS (fun wS hS1 => PV.pickT rfl rfl) ?_
  refine HP.take rfl rfl rfl rfl hS (fun wS hS1 => PV.move rfl) ?_
  refine HP.split (t := 29) rfl (fun hc2 => ?_) (fun hc2 => ?_)
  rotate_left
  · skip
    try simp only [decide_eq_true_eq, decide_eq_false_iff_not, Bool.not_eq_true', Bool.not_eq_false', Bool.not_eq_eq_eq_not, Bool.not_true, Bool.not_false, Int.not_lt, Int.not_le, Classical.not_not, beq_iff_eq, beq_eq_false_iff_ne] at hc2
    refine HP.skip rfl rfl rfl rfl rfl rfl hS ?_
    refine HP.skip rfl rfl rfl rfl rfl rfl hS ?_
    refine HP.skip rfl rfl rfl rfl rfl rfl hS ?_
    refine HP.skip rfl rfl rfl rfl rfl rfl hS ?_
    refine HP.skip rfl rfl rfl rfl rfl rfl hS ?_
    refine HP.skip rfl rfl rfl rfl rfl rfl hS ?_
    refine HP.skip rfl rfl rfl rfl rfl rfl hS ?_
    refine HP.skip rfl rfl rfl rfl rfl rfl hS ?_
    refine HP.skip rfl rfl rfl rfl rfl rfl hS ?_
    refine HP.skip rfl rfl rfl rfl rfl rfl hS ?_
    refine HP.skip rfl rfl rfl rfl rfl rfl hS ?_
    refine HP.skip rfl rfl rfl rfl rfl rfl hS ?_
    refine HP.skip rfl rfl rfl rfl rfl rfl hS ?_
    refine HP.take rfl rfl rfl rfl hS (fun wS hS1 => PV.pickF rfl rfl) ?_
    refine HP.take rfl rfl rfl rfl hS (fun wS hS1 => PV.assign rfl) ?_
    refine HP.doneS ?_
    refine CW.ret ?_
    refine RQ.r1 rfl ?_
    refine ⟨?_, hB⟩
    simp only [fitsB]; first | rfl | (simp_all; done)
  try simp only [decide_eq_true_eq, decide_eq_false_iff_not, Bool.not_eq_true', Bool.not_eq_false', Bool.not_eq_eq_eq_not, Bool.not_true, Bool.not_false, Int.not_lt, Int.not_le, Classical.not_not, beq_iff_eq, beq_eq_false_iff_ne] at hc2
  refine HP.takeG rfl rfl rfl rfl rfl rfl hS (fun wS hS1 => PV.move rfl) ?_
  refine HP.takeG rfl rfl rfl rfl rfl rfl hS (fun wS hS1 => PV.move rfl) ?_
  refine HP.takeG rfl rfl rfl rfl rfl rfl hS (fun wS hS1 => PV.nilCheck rfl) ?_
  refine HP.takeG rfl rfl rfl rfl rfl rfl hS (fun wS hS1 => (by first | exact PV.fieldAddr T.fl58_3 rfl (by first | assumption | exact Bx.cells (by assumption)) | exact PV.fieldAddrP T.fl58_3 rfl rfl)) ?_
  refine HP.takeG rfl rfl rfl rfl rfl rfl hS (fun wS hS1 => (by first | exact PV.load0 T.na26 rfl (by first | exact Cells.up (by assumption) (hBr.trans hS1) | exact Bx.cells (Bx.updD (by assumption) hS1 (Dj.nlR _)) | exact Cells.upd (by assumption) hS1 (by simp)) (Ext.refl _) rfl | exact PV.load1 T.na26 rfl (by first | exact Cells.up (by assumption) (hBr.trans hS1) | exact Bx.cells (Bx.updD (by assumption) hS1 (Dj.nlR _)) | exact Cells.upd (by assumption) hS1 (by simp)) (Ext.refl _) rfl)) ?_
  refine HP.takeG rfl rfl rfl rfl rfl rfl hS (fun wS hS1 => PV.move rfl) ?_
  refine HP.takeG rfl rfl rfl rfl rfl rfl hS (fun wS hS1 => PV.move rfl) ?_
  refine HP.takeG rfl rfl rfl rfl rfl rfl hS (fun wS hS1 => PV.nilCheck rfl) ?_
  refine HP.takeG rfl rfl rfl rfl rfl rfl hS (fun wS hS1 => (by first | exact PV.fieldAddr T.fl58_1 rfl (by first | assumption | exact Bx.cells (by assumption)) | exact PV.fieldAddrP T.fl58_1 rfl rfl)) ?_
  refine HP.takeG rfl rfl rfl rfl rfl rfl hS (fun wS hS1 => (by first | exact PV.load0 T.na26 rfl (by first | exact Cells.up (by assumption) (hBr.trans hS1) | exact Bx.cells (Bx.updD (by assumption) hS1 (Dj.nlR _)) | exact Cells.upd (by assumption) hS1 (by simp)) (Ext.refl _) rfl | exact PV.load1 T.na26 rfl (by first | exact Cells.up (by assumption) (hBr.trans hS1) | exact Bx.cells (Bx.updD (by assumption) hS1 (Dj.nlR _)) | exact Cells.upd (by assumption) hS1 (by simp)) (Ext.refl _) rfl)) ?_
  refine HP.takeG rfl rfl rfl rfl rfl rfl hS (fun wS hS1 => (by first | exact PV.len rfl (by assumption) T.sl26 | exact PV.lenOs rfl (by assumption) T.sl26 | exact PV.len rfl (NL.rd (by assumption)) T.sl26 | exact PV.len rfl (Inn.rd (by assumption) (by omega)) T.sl26)) ?_
  refine HP.takeG rfl rfl rfl rfl rfl rfl hS (fun wS hS1 => PV.add rfl rfl (by constructor <;> omega)) ?_
  refine HP.mustG rfl rfl rfl rfl (OpK.callR rfl T.cf135 rfl (c_spec_l05There (by first | assumption | exact Rd.up (by assumption) hB | exact Osl.rd (by assumption) | exact Osn.rdR (by assumption) | exact NL.rd (by assumption) | exact rdII (by assumption) (by assumption) | exact Inn.rd (by assumption) (by omega)) (by first | assumption | exact Rd.up (by assumption) hB | exact Osl.rd (by assumption) | exact Osn.rdR (by assumption) | exact NL.rd (by assumption) | exact rdII (by assumption) (by assumption) | exact Inn.rd (by assumption) (by omega)) (by first | assumption | omega | (simp only [marks_len, marksB_len, marksR_len, sumL_marksS, List.length_take]; omega)) (by first | assumption | omega | (simp only [marks_len, marksB_len, marksR_len, sumL_marksS, List.length_take]; omega))) (fun w4 hXw4 => ?_))
  refine ⟨Upd.trans hS hXw4, ?_⟩
  have hS := Upd.trans hS hXw4
  have hB := hB.trans hXw4
  refine HP.take rfl rfl rfl rfl hS (fun wS hS1 => PV.pickT rfl rfl) ?_
  refine HP.take rfl rfl rfl rfl hS (fun wS hS1 => PV.assign rfl) ?_
  refine HP.doneS ?_
  refine CW.ret ?_
  refine RQ.r1 rfl ?_
  refine ⟨?_, hB⟩
  simp only [fitsB]; first | rfl | (simp_all; done)
theorem c_spec_l05Places {w : World} {pc : Addr} {uc0 uc1 uc2 uc3 : Value} {c : C4} {vw : Value} {xs : List Int}  (hbc : Cells w pc [uc0, uc1, uc2, uc3]) (hch0 : Rd EI w uc0 c.1) (hch1 : Rd EI w uc1 c.2.1) (hch2 : Rd EI w uc2 c.2.2.1) (hch3 : Rd EI w uc3 c.2.2.2) (hw : Rd EI w vw xs) (hok : okC c) (hwn : xs.length ≤ 10000) : Calls Try.prog 101 #[.pointer (some pc), vw] w (Ret1 (fun v w' => Ext w w' ∧ ∃ u og_u, v = u ∧ Osl VI w' og_u u (placesL c xs xs.length) ∧ Lo w og_u)) := by
  have hB : Ext w w := Ext.refl w
  have hlc0 := hch0.leI; have hlc1 := hch1.leI; have hlc2 := hch2.leI; have hlc3 := hch3.leI; have hlw := hw.leI
  refine callsOf (vs := [_, _]) Try.func101 rfl Try.ntmps101 rfl rfl ?_
  refine CW.seq ?_
  refine CW.reg ?_
  refine WL.pure rfl rfl rfl (PV.assign rfl) ?_
  refine WL.nilS ?_
  refine CW.seq ?_
  refine CW.reg ?_
  refine WL.op rfl (OpK.buildS VI (os := []) [] rfl T.sl26 rfl rfl T.zv2 rfl (by intro z hz; cases hz) rfl (fun v1 g1 w1 hXw1 ho1 hge1 => ?_))
  have hl1 := Lo.new hB hge1
  have hB := hB.trans hXw1
  refine WL.pure rfl rfl rfl (PV.assign rfl) ?_
  refine WL.nilS ?_
  refine CW.seq ?_
  refine CW.seq ?_
  refine CW.reg ?_
  refine WL.pure rfl rfl rfl (PV.move rfl) ?_
  refine WL.pure rfl rfl rfl ((by first | exact PV.len rfl (by assumption) T.sl26 | exact PV.lenOs rfl (by assumption) T.sl26 | exact PV.len rfl (NL.rd (by assumption)) T.sl26 | exact PV.len rfl (Inn.rd (by assumption) (by omega)) T.sl26)) ?_
  refine WL.pure rfl rfl rfl (PV.move rfl) ?_
  refine WL.nilS ?_
  refine CW.block ?_
  have hlt1 := ho1.ltO
  refine CW.loop (σk := [(0, _), (1, _), (9, _)]) (fun ρ wz m => ∃ (v2 : Value) (og2 : Option Nat) (k : Nat), ρ = [(5, v2), (10, .int .i64 (k : Nat))] ∧ m = xs.length - k ∧ UpdL [(some g1)] w1 wz ∧ Osl VI wz og2 v2 (placesL c xs k) ∧ OgR w1 (some g1) og2 ∧ (k ≤ xs.length)) (ρ₀ := [(5, _), (10, _)]) (m₀ := _) ⟨rfl, rfl, rfl, rfl, rfl, trivial⟩ ⟨v1, (some g1), 0, rfl, rfl, (UpdL.refl _ _), osE ho1 (by exact places_zero _ _), OgR.refl _ _, (by first | omega | rfl | (simp; done) | assumption | (simp_all; done))⟩ ?_
  rintro _ wl1 _ ⟨v2, og2, k, rfl, rfl, hU0, ho2, ha2, hk⟩
  have hl2 := Lo.ogr hl1 hB ha2
  have hg0_2 := ha2
  have hk0_2 : OkB [(some g1)] w1 og2 := OkB.ogr (OkB.mem (by simp)) (Nat.le_refl _) ha2
  have hB := hB.loop hU0 ⟨hl1, trivial⟩
  have hpl := places_len c xs k
  refine CW.seq ?_
  refine CW.reg ?_
  refine WL.pure rfl rfl rfl (PV.lss rfl rfl) ?_
  refine WL.nilS ?_
  refine CW.seq ?_
  refine CW.cond rfl (fun hc1 => ?_) (fun hc1 => ?_)
  · skip
    try simp only [decide_eq_true_eq, decide_eq_false_iff_not, Bool.not_eq_true', Bool.not_eq_false', Bool.not_eq_eq_eq_not, Bool.not_true, Bool.not_false, Int.not_lt, Int.not_le, Classical.not_not, beq_iff_eq, beq_eq_false_iff_ne] at hc1
    refine CW.skipS ?_
    refine CW.seq ?_
    refine CW.block ?_
    refine CW.seq ?_
    refine CW.reg ?_
    refine WL.pure rfl rfl rfl (PV.move rfl) ?_
    refine WL.pure rfl rfl rfl (PV.assign rfl) ?_
    refine WL.nilS ?_
    refine CW.seq ?_
    refine CW.reg ?_
    refine WL.pure rfl rfl rfl (PV.move rfl) ?_
    refine WL.pure rfl rfl rfl (PV.move rfl) ?_
    refine WL.pure rfl rfl rfl (PV.move rfl) ?_
    refine WL.op rfl (OpK.callR rfl T.cf133 rfl (c_spec_l05Fits (by first | exact Bx.cells (by assumption) | exact Cells.up (by assumption) hB | assumption | exact Cells.add (Bx.cells (by assumption)) _ | exact Cells.add (Cells.up (by assumption) hB) _) (by first | assumption | exact Rd.up (by assumption) hB | exact Osl.rd (by assumption) | exact Osn.rdR (by assumption) | exact NL.rd (by assumption) | exact rdII (by assumption) (by assumption) | exact Inn.rd (by assumption) (by omega)) (by first | assumption | exact Rd.up (by assumption) hB | exact Osl.rd (by assumption) | exact Osn.rdR (by assumption) | exact NL.rd (by assumption) | exact rdII (by assumption) (by assumption) | exact Inn.rd (by assumption) (by omega)) (by first | assumption | exact Rd.up (by assumption) hB | exact Osl.rd (by assumption) | exact Osn.rdR (by assumption) | exact NL.rd (by assumption) | exact rdII (by assumption) (by assumption) | exact Inn.rd (by assumption) (by omega)) (by first | assumption | exact Rd.up (by assumption) hB | exact Osl.rd (by assumption) | exact Osn.rdR (by assumption) | exact NL.rd (by assumption) | exact rdII (by assumption) (by assumption) | exact Inn.rd (by assumption) (by omega)) (by first | assumption | exact Rd.up (by assumption) hB | exact Osl.rd (by assumption) | exact Osn.rdR (by assumption) | exact NL.rd (by assumption) | exact rdII (by assumption) (by assumption) | exact Inn.rd (by assumption) (by omega)) (by first | assumption | omega | (simp only [marks_len, marksB_len, marksR_len, sumL_marksS, List.length_take]; omega)) (by first | assumption | omega | (simp only [marks_len, marksB_len, marksR_len, sumL_marksS, List.length_take]; omega))) (fun w2 hXw2 => ?_))
    have hB := hB.trans hXw2
    have ho2 := ho2.up hXw2
    have hU0 := hU0.ext hXw2
    refine WL.nilS ?_
    refine CW.cond rfl (fun hc2 => ?_) (fun hc2 => ?_)
    · skip
      try simp only [decide_eq_true_eq, decide_eq_false_iff_not, Bool.not_eq_true', Bool.not_eq_false', Bool.not_eq_eq_eq_not, Bool.not_true, Bool.not_false, Int.not_lt, Int.not_le, Classical.not_not, beq_iff_eq, beq_eq_false_iff_ne] at hc2
      refine CW.reg ?_
      refine WL.pure rfl rfl rfl (PV.move rfl) ?_
      refine WL.pure rfl rfl rfl (PV.move rfl) ?_
      refine WL.op rfl (OpK.buildS VI (os := [.tmp 18]) [_] rfl T.sl26 rfl rfl T.zv2 rfl (by intro z hz; first | rfl | (simp only [List.mem_cons, List.not_mem_nil, or_false] at hz; subst hz; exact (by first | exact Rd.cells1 (by assumption) | exact Osl.cells1 (by assumption) | exact Osn.cells1 (by assumption) | exact Rd.cells1 (NL.rd (by assumption)) | exact Inn.cell1 (by assumption) (by omega) | rfl))) rfl (fun v3 g3 w3 hXw3 ho3 hge3 => ?_))
      have hl3 := Lo.new hB hge3
      have hd2_3 := Dj.new ho2.ltO hge3
      have hk0_3 := OkN.new hU0 hge3
      have hg0_3 := OgR.new hU0.size hge3
      have hB := hB.trans hXw3
      have ho2 := ho2.up hXw3
      have hU0 := hU0.ext hXw3
      refine WL.op rfl (OpK.appendS (f := VI) rfl T.sl26 T.zv2 rfl rfl ho2 rfl (Osl.src ho3 (fun _ => rfl)) (by first | (simp only [List.length_cons, List.length_nil]; omega) | (simp_all; omega)) (fun v4 og4 w4 hXw4 ho4 hap4 => ?_))
      have hl4 := Lo.app hl2 hB hap4
      have hd3_4 := Dj.app (Dj.symm hd2_3) ho3.ltO hap4
      have hk0_4 := OkN.app hU0 hk0_2 hap4
      have hg0_4 := OgR.app hg0_2 hU0.size hap4
      have hB := hB.updL hXw4 hl2
      have ho3 := ho3.updD hXw4 (Dj.symm hd2_3)
      have hU0 := hU0.step hXw4 hk0_2
      refine WL.pure rfl rfl rfl (PV.assign rfl) ?_
      refine WL.nil ?_
      refine NQ.block ?_
      refine NQ.then ?_
      refine CW.reg ?_
      refine WL.pure rfl rfl rfl (PV.add rfl rfl (by constructor <;> omega)) ?_
      refine WL.pure rfl rfl rfl (PV.move rfl) ?_
      refine WL.nil ?_
      refine NQ.next (ρ := [(5, _), (10, _)]) ⟨rfl, rfl, rfl, rfl, rfl, trivial⟩ ?_
      exact ⟨_, ⟨v4, og4, k + 1, rfl, rfl, hU0, osE ho4 (by first | exact places_y (by assumption) | exact places_n (by assumption)), (by first | exact hg0_4 | exact OgR.weak hg0_4), (by first | omega | assumption | (simp_all; done) | (simp_all; omega))⟩, by omega⟩
    try simp only [decide_eq_true_eq, decide_eq_false_iff_not, Bool.not_eq_true', Bool.not_eq_false', Bool.not_eq_eq_eq_not, Bool.not_true, Bool.not_false, Int.not_lt, Int.not_le, Classical.not_not, beq_iff_eq, beq_eq_false_iff_ne] at hc2
    refine CW.skip ?_
    refine NQ.block ?_
    refine NQ.then ?_
    refine CW.reg ?_
    refine WL.pure rfl rfl rfl (PV.add rfl rfl (by constructor <;> omega)) ?_
    refine WL.pure rfl rfl rfl (PV.move rfl) ?_
    refine WL.nil ?_
    refine NQ.next (ρ := [(5, _), (10, _)]) ⟨rfl, rfl, rfl, rfl, rfl, trivial⟩ ?_
    exact ⟨_, ⟨v2, og2, k + 1, rfl, rfl, hU0, osE ho2 (by first | exact places_y (by assumption) | exact places_n (by assumption)), (by first | exact hg0_2 | exact OgR.weak hg0_2), (by first | omega | assumption | (simp_all; done) | (simp_all; omega))⟩, by omega⟩
  try simp only [decide_eq_true_eq, decide_eq_false_iff_not, Bool.not_eq_true', Bool.not_eq_false', Bool.not_eq_eq_eq_not, Bool.not_true, Bool.not_false, Int.not_lt, Int.not_le, Classical.not_not, beq_iff_eq, beq_eq_false_iff_ne] at hc1
  refine CW.exit ?_
  refine XQ.then ?_
  refine XQ.then ?_
  refine XQ.here ?_
  refine NQ.then ?_
  refine CW.seq ?_
  refine CW.reg ?_
  refine WL.pure rfl rfl rfl (PV.move rfl) ?_
  refine WL.pure rfl rfl rfl (PV.assign rfl) ?_
  refine WL.nilS ?_
  refine CW.ret ?_
  refine RQ.r1 rfl ?_
  refine ⟨hB, v2, og2, ?_, osE ho2 ?_, hl2⟩
  · skip
    rfl
  · skip
    rw [show k = xs.length from (by omega)]
theorem c_spec_l05Once {w : World} {pc : Addr} {uc0 uc1 uc2 uc3 : Value} {c : C4} {vw : Value} {xs : List Int}  (hbc : Cells w pc [uc0, uc1, uc2, uc3]) (hch0 : Rd EI w uc0 c.1) (hch1 : Rd EI w uc1 c.2.1) (hch2 : Rd EI w uc2 c.2.2.1) (hch3 : Rd EI w uc3 c.2.2.2) (hw : Rd EI w vw xs) (hok : okC c) (hwn : xs.length ≤ 10000) : Calls Try.prog 102 #[.pointer (some pc), vw] w (Ret1 (fun v w' => Ext w w' ∧ ∃ u og_u, v = .tuple #[u, .bool (onceB c xs)] ∧ Osl VI w' og_u u (onceL c xs) ∧ Lo w og_u)) := by
  have hB : Ext w w := Ext.refl w
  have hlc0 := hch0.leI; have hlc1 := hch1.leI; have hlc2 := hch2.leI; have hlc3 := hch3.leI; have hlw := hw.leI; have hok0 := hok.1; have hok1 := hok.2.1; have hok2 := hok.2.2.1; have hok3 := hok.2.2.2; have hpf := places_first c xs; have hfr := first_rng c xs
  refine callsOf (vs := [_, _]) Try.func102 rfl Try.ntmps102 rfl rfl ?_
  refine CW.seq ?_
  refine CW.reg ?_
  refine WL.pure rfl rfl rfl (PV.assign rfl) ?_
  refine WL.pure rfl rfl rfl (PV.assign rfl) ?_
  refine WL.nilS ?_
  refine CW.seq ?_
  refine CW.reg ?_
  refine WL.pure rfl rfl rfl (PV.move rfl) ?_
  refine WL.pure rfl rfl rfl (PV.move rfl) ?_
  refine WL.op rfl (OpK.call rfl T.cf101 rfl (c_spec_l05Places (by first | exact Bx.cells (by assumption) | exact Cells.up (by assumption) hB | assumption | exact Cells.add (Bx.cells (by assumption)) _ | exact Cells.add (Cells.up (by assumption) hB) _) (by first | assumption | exact Rd.up (by assumption) hB | exact Osl.rd (by assumption) | exact Osn.rdR (by assumption) | exact NL.rd (by assumption) | exact rdII (by assumption) (by assumption) | exact Inn.rd (by assumption) (by omega)) (by first | assumption | exact Rd.up (by assumption) hB | exact Osl.rd (by assumption) | exact Osn.rdR (by assumption) | exact NL.rd (by assumption) | exact rdII (by assumption) (by assumption) | exact Inn.rd (by assumption) (by omega)) (by first | assumption | exact Rd.up (by assumption) hB | exact Osl.rd (by assumption) | exact Osn.rdR (by assumption) | exact NL.rd (by assumption) | exact rdII (by assumption) (by assumption) | exact Inn.rd (by assumption) (by omega)) (by first | assumption | exact Rd.up (by assumption) hB | exact Osl.rd (by assumption) | exact Osn.rdR (by assumption) | exact NL.rd (by assumption) | exact rdII (by assumption) (by assumption) | exact Inn.rd (by assumption) (by omega)) (by first | assumption | exact Rd.up (by assumption) hB | exact Osl.rd (by assumption) | exact Osn.rdR (by assumption) | exact NL.rd (by assumption) | exact rdII (by assumption) (by assumption) | exact Inn.rd (by assumption) (by omega)) (by first | assumption | omega | (simp only [marks_len, marksB_len, marksR_len, sumL_marksS, List.length_take]; omega)) (by first | assumption | omega | (simp only [marks_len, marksB_len, marksR_len, sumL_marksS, List.length_take]; omega))) (fun rv1 w1 hR => ?_))
  obtain ⟨hXw1, v1, og1, rfl, ho1, hq1⟩ := hR
  have hl1 := Lo.up hq1 hB
  have hB := hB.trans hXw1
  refine WL.pure rfl rfl rfl (PV.assign rfl) ?_
  refine WL.nilS ?_
  refine CW.seq ?_
  refine CW.seq ?_
  refine CW.reg ?_
  refine WL.pure rfl rfl rfl (PV.move rfl) ?_
  refine WL.pure rfl rfl rfl ((PV.lenOs rfl ho1 T.sl26)) ?_
  refine WL.pure rfl rfl rfl (PV.eql rfl rfl) ?_
  refine WL.nilS ?_
  refine CW.cond rfl (fun hc1 => ?_) (fun hc1 => ?_)
  · skip
    try simp only [decide_eq_true_eq, decide_eq_false_iff_not, Bool.not_eq_true', Bool.not_eq_false', Bool.not_eq_eq_eq_not, Bool.not_true, Bool.not_false, Int.not_lt, Int.not_le, Classical.not_not, beq_iff_eq, beq_eq_false_iff_ne] at hc1
    have hfn := hpf.1.1 (by omega)
    refine CW.seq ?_
    refine CW.reg ?_
    refine WL.op rfl (OpK.buildS VI (os := []) [] rfl T.sl26 rfl rfl T.zv2 rfl (by intro z hz; cases hz) rfl (fun v2 g2 w2 hXw2 ho2 hge2 => ?_))
    have hl2 := Lo.new hB hge2
    have hd1_2 := Dj.new ho1.ltO hge2
    have hB := hB.trans hXw2
    have ho1 := ho1.up hXw2
    refine WL.pure rfl rfl rfl (PV.move rfl) ?_
    refine WL.op rfl (OpK.appendS (f := VI) rfl T.sl26 T.zv2 rfl rfl ho2 rfl (Rd.src (by first | assumption | exact Rd.up (by assumption) hB | exact Inn.rd (by assumption) (by omega)) (fun _ => rfl)) (by first | (simp only [List.length_cons, List.length_nil]; omega) | (simp_all; omega)) (fun v3 og3 w3 hXw3 ho3 hap3 => ?_))
    have hl3 := Lo.app hl2 hB hap3
    have hd1_3 := Dj.app hd1_2 ho1.ltO hap3
    have hB := hB.updL hXw3 hl2
    have ho1 := ho1.updD hXw3 hd1_2
    refine WL.pure rfl rfl rfl (PV.assign rfl) ?_
    refine WL.pure rfl rfl rfl (PV.assign rfl) ?_
    refine WL.nilS ?_
    refine CW.ret ?_
    refine RQ.then ?_
    refine RQ.r2 rfl rfl ?_
    refine ⟨hB, v3, og3, ?_, osE ho3 ?_, hl3⟩
    · skip
      first | exact tE2 rfl (bE (onceB_n hfn).symm) | exact tE2 rfl (bE ((show decide (((putL c xs (firstI c xs)).length : Int) ≤ 24) = decide ((putL c xs (firstI c xs)).length ≤ 24) from decide_eq_decide.2 (by omega)).trans (onceB_y hfy).symm))
    · skip
      first | (rw [once_n hfn]; first | done | (simp; done)) | (rw [once_y hfy]; first | done | rfl)
  try simp only [decide_eq_true_eq, decide_eq_false_iff_not, Bool.not_eq_true', Bool.not_eq_false', Bool.not_eq_eq_eq_not, Bool.not_true, Bool.not_false, Int.not_lt, Int.not_le, Classical.not_not, beq_iff_eq, beq_eq_false_iff_ne] at hc1
  have hpl0 : (placesL c xs xs.length).length ≠ 0 := (by omega); have hfy : 0 ≤ firstI c xs := Int.not_lt.1 (fun h9 => hpl0 (hpf.1.2 h9)); have hff := fits_y (first_fits hfy); have hpg := hpf.2 hfy
  refine CW.skipS ?_
  refine CW.seq ?_
  refine CW.draw T.mixed (by kernel_rfl) (fun _ _ _ _ _ h => h) (fun w8 w9 => Upd none w8 w9) 15 (.take 0 (.take 1 (.take 2 (.take 3 (.take 4 (.take 5 (.take 6 (.take 7 (.take 8 (.take 9 (.take 10 (.take 11 (.take 12 (.must 13 (.take 14 .done))))))))))))))) (by kernel_rfl) (fun w4 hXd => ?_)
  have hB := hB.trans hXd
  have ho1 := ho1.up hXd
  have hBr := hB
  have hS : Upd none w4 w4 := Ext.toUpd (Ext.refl _)
  refine HP.take rfl rfl rfl rfl hS (fun wS hS1 => PV.move rfl) ?_
  refine HP.take rfl rfl rfl rfl hS (fun wS hS1 => PV.move rfl) ?_
  first
    | refine HP.atO (wb := w4) (x := .tmp 18) (y := .const (.int .i64 0)) (f := VI) (0) rfl rfl (by assumption) (by first | omega | (simp only [List.length_set]; omega) | (simp only [List.length_append, List.length_take, List.length_replicate, List.length_drop]; omega)) (fun p1 hpp1 hcp1 => ?_)
    | refine HP.atOZ (wb := w4) (x := .tmp 18) (y := .const (.int .i64 0)) (f := VI) (0) rfl rfl (by assumption) (by first | omega | (simp only [List.length_set]; omega) | (simp only [List.length_append, List.length_take, List.length_replicate, List.length_drop]; omega)) (fun p1 hpp1 hzp1 hcp1 => ?_)
  refine HP.take rfl rfl rfl rfl hS (fun wS hS1 => (by first | exact PV.indexAddr hpp1 rfl rfl T.sl26 | exact PV.indexAddr hpp1 rfl (by rw [← hzp1]; rfl) T.sl26)) ?_
  refine HP.take rfl rfl rfl rfl hS (fun wS hS1 => (by first | exact PV.load0 T.na2 rfl (by first | exact Cells.up (by assumption) (hBr.trans hS1) | exact Bx.cells (Bx.updD (by assumption) hS1 (Dj.nlR _)) | exact Cells.upd (by assumption) hS1 (by simp)) (Ext.refl _) rfl | exact PV.load1 T.na2 rfl (by first | exact Cells.up (by assumption) (hBr.trans hS1) | exact Bx.cells (Bx.updD (by assumption) hS1 (Dj.nlR _)) | exact Cells.upd (by assumption) hS1 (by simp)) (Ext.refl _) rfl)) ?_
  refine HP.take rfl rfl rfl rfl hS (fun wS hS1 => PV.move rfl) ?_
  refine HP.take rfl rfl rfl rfl hS (fun wS hS1 => PV.nilCheck rfl) ?_
  refine HP.take rfl rfl rfl rfl hS (fun wS hS1 => (by first | exact PV.fieldAddr T.fl58_1 rfl (by first | assumption | exact Bx.cells (by assumption)) | exact PV.fieldAddrP T.fl58_1 rfl rfl)) ?_
  refine HP.take rfl rfl rfl rfl hS (fun wS hS1 => (by first | exact PV.load0 T.na26 rfl (by first | exact Cells.up (by assumption) (hBr.trans hS1) | exact Bx.cells (Bx.updD (by assumption) hS1 (Dj.nlR _)) | exact Cells.upd (by assumption) hS1 (by simp)) (Ext.refl _) rfl | exact PV.load1 T.na26 rfl (by first | exact Cells.up (by assumption) (hBr.trans hS1) | exact Bx.cells (Bx.updD (by assumption) hS1 (Dj.nlR _)) | exact Cells.upd (by assumption) hS1 (by simp)) (Ext.refl _) rfl)) ?_
  refine HP.take rfl rfl rfl rfl hS (fun wS hS1 => (by first | exact PV.len rfl (by assumption) T.sl26 | exact PV.lenOs rfl (by assumption) T.sl26 | exact PV.len rfl (NL.rd (by assumption)) T.sl26 | exact PV.len rfl (Inn.rd (by assumption) (by omega)) T.sl26)) ?_
  refine HP.take rfl rfl rfl rfl hS (fun wS hS1 => PV.move rfl) ?_
  refine HP.take rfl rfl rfl rfl hS (fun wS hS1 => PV.nilCheck rfl) ?_
  refine HP.take rfl rfl rfl rfl hS (fun wS hS1 => (by first | exact PV.fieldAddr T.fl58_2 rfl (by first | assumption | exact Bx.cells (by assumption)) | exact PV.fieldAddrP T.fl58_2 rfl rfl)) ?_
  refine HP.take rfl rfl rfl rfl hS (fun wS hS1 => (by first | exact PV.load0 T.na26 rfl (by first | exact Cells.up (by assumption) (hBr.trans hS1) | exact Bx.cells (Bx.updD (by assumption) hS1 (Dj.nlR _)) | exact Cells.upd (by assumption) hS1 (by simp)) (Ext.refl _) rfl | exact PV.load1 T.na26 rfl (by first | exact Cells.up (by assumption) (hBr.trans hS1) | exact Bx.cells (Bx.updD (by assumption) hS1 (Dj.nlR _)) | exact Cells.upd (by assumption) hS1 (by simp)) (Ext.refl _) rfl)) ?_
  rw [hpg]
  refine HP.must rfl rfl (OpK.call rfl T.cf91 rfl (c_spec_l05Put (by first | assumption | exact Rd.up (by assumption) hB | exact Osl.rd (by assumption) | exact Osn.rdR (by assumption) | exact NL.rd (by assumption) | exact rdII (by assumption) (by assumption) | exact Inn.rd (by assumption) (by omega)) (by first | assumption | exact Rd.up (by assumption) hB | exact Osl.rd (by assumption) | exact Osn.rdR (by assumption) | exact NL.rd (by assumption) | exact rdII (by assumption) (by assumption) | exact Inn.rd (by assumption) (by omega)) (by first | assumption | omega | (simp only [marks_len, marksB_len, marksR_len, sumL_marksS, List.length_take]; omega)) (by first | assumption | omega | (simp only [marks_len, marksB_len, marksR_len, sumL_marksS, List.length_take]; omega)) (by first | assumption | omega | (simp only [marks_len, marksB_len, marksR_len, sumL_marksS, List.length_take]; omega))) (fun rv2 w5 hR => ?_))
  obtain ⟨hXw5, v4, og4, rfl, ho4, hq4⟩ := hR
  have hl4 := Lo.up hq4 hB
  have hv4 := Lo.up hq4 hS
  have hd1_4 := Dj.lo ho1.ltO hq4
  refine ⟨Upd.trans hS hXw5, ?_⟩
  have hS := Upd.trans hS hXw5
  have hB := hB.trans hXw5
  have ho1 := ho1.up hXw5
  refine HP.take rfl rfl rfl rfl hS (fun wS hS1 => PV.assign rfl) ?_
  refine HP.doneS ?_
  refine CW.seq ?_
  refine CW.reg ?_
  refine WL.pure rfl rfl rfl (PV.move rfl) ?_
  refine WL.pure rfl rfl rfl (PV.move rfl) ?_
  refine WL.pure rfl rfl rfl ((PV.lenOs rfl ho4 T.sl26)) ?_
  refine WL.pure rfl rfl rfl (PV.leq rfl rfl) ?_
  refine WL.pure rfl rfl rfl (PV.assign rfl) ?_
  refine WL.pure rfl rfl rfl (PV.assign rfl) ?_
  refine WL.nilS ?_
  refine CW.ret ?_
  refine RQ.r2 rfl rfl ?_
  refine ⟨hB, rv2, og4, ?_, osE ho4 ?_, hl4⟩
  · skip
    first | exact tE2 rfl (bE (onceB_n hfn).symm) | exact tE2 rfl (bE ((show decide (((putL c xs (firstI c xs)).length : Int) ≤ 24) = decide ((putL c xs (firstI c xs)).length ≤ 24) from decide_eq_decide.2 (by omega)).trans (onceB_y hfy).symm))
  · skip
    first | (rw [once_n hfn]; first | done | (simp; done)) | (rw [once_y hfy]; first | done | rfl)

end Go.Proofs.Ythjeebjgdeldkaa
