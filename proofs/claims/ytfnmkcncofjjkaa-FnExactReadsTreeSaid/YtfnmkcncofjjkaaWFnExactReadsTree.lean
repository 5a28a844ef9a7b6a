/- Walks of the functions that the law FnExactReadsTree reaches: each says what its function computes. No condition. -/
import Derived.Test.YtfnmkcncofjjkaaProg
import Derived.Test.YtfnmkcncofjjkaaLibM
import Derived.Test.YtfnmkcncofjjkaaPlA
import Derived.Test.YtfnmkcncofjjkaaPlM
import Derived.Test.YtfnmkcncofjjkaaLibRf
import Derived.Test.YtfnmkcncofjjkaaPlTr
import Derived.Test.YtfnmkcncofjjkaaPlTs
import Derived.Test.YtfnmkcncofjjkaaWFnExactReadsTreeb
namespace Go.Proofs.Ytfnmkcncofjjkaa
open Go Go.WX Go.Proofs
set_option linter.unusedSimpArgs false
set_option linter.unusedVariables false

theorem c_laws_FnExactReadsTree {w : World} {a0 : Int} {a1 : Int} {va2 : Value} {xa2 : List Int} {va3 : Value} {xa3 : List Int} {va4 : Value} {xa4 : List Bool} {vt : Value} {xs : List Int} (ha2 : Rd EI w va2 xa2) (ha3 : Rd EI w va3 xa3) (ha4 : Rd EB w va4 xa4) (ht : Rd EI w vt xs) : Calls Try.prog 6 #[.agg #[.int .i64 a0, .int .i64 a1, va2, va3, va4], vt] w (Ret1 (RQt (.bool true) w)) := by
  have hB : Ext w w := Ext.refl w
  have hla2 := ha2.leI; have hla3 := ha3.leI; have hla4 := ha4.leI; have hlt := ht.leI
  refine callsOf (vs := [_, _]) Try.func6 rfl Try.ntmps6 rfl rfl ?_
  refine CW.seq ?_
  refine CW.reg ?_
  refine WL.op rfl (OpK.box rfl rfl (by first | exact Rd.cells1 (by assumption) | exact Osl.cells1 (by assumption) | exact Osn.cells1 (by assumption) | exact Rd.cells1 (NL.rd (by assumption)) | exact Inn.cell1 (by assumption) (by omega) | assumption | rfl) (fun b1 w1 hXw1 hb1 hge1 => ?_))
  have hl1 := Lo.new hB hge1
  have hB := hB.trans hXw1
  refine WL.pure rfl rfl rfl (PV.assign rfl) ?_
  refine WL.nilS ?_
  refine CW.seq ?_
  refine CW.seq ?_
  refine CW.reg ?_
  refine WL.pure rfl rfl rfl (PV.move rfl) ?_
  refine WL.pure rfl rfl rfl ((by first | exact PV.len rfl (by assumption) T.sl22 | exact PV.lenOs rfl (by assumption) T.sl22 | exact PV.len rfl (NL.rd (by assumption)) T.sl22 | exact PV.len rfl (Inn.rd (by assumption) (by omega)) T.sl22)) ?_
  refine WL.pure rfl rfl rfl (PV.gtr rfl rfl) ?_
  refine WL.nilS ?_
  refine CW.cond rfl (fun hc1 => ?_) (fun hc1 => ?_)
  · skip
    try simp only [decide_eq_true_eq, decide_eq_false_iff_not, Bool.not_eq_true', Bool.not_eq_false', Bool.not_eq_eq_eq_not, Bool.not_true, Bool.not_false, Int.not_lt, Int.not_le, Classical.not_not, beq_iff_eq, beq_eq_false_iff_ne] at hc1
    refine CW.seq ?_
    refine CW.reg ?_
    refine WL.pure rfl rfl rfl (PV.assign rfl) ?_
    refine WL.nilS ?_
    refine CW.ret ?_
    refine RQ.then ?_
    refine RQ.r1 rfl ?_
    refine ⟨?_, hB⟩
    first | rfl | (exfalso; revert hc1; simp; done) | (exfalso; revert hc1; simp; omega) | (exfalso; omega) | first | rfl | exact bT (by omega) | exact bF (by omega) | exact bD (by omega) | exact iE (by omega) | (simp_all; done) | (simp_all; omega) | (simp_all; intros; omega)
  try simp only [decide_eq_true_eq, decide_eq_false_iff_not, Bool.not_eq_true', Bool.not_eq_false', Bool.not_eq_eq_eq_not, Bool.not_true, Bool.not_false, Int.not_lt, Int.not_le, Classical.not_not, beq_iff_eq, beq_eq_false_iff_ne] at hc1
  refine CW.skipS ?_
  refine CW.seq ?_
  refine CW.reg ?_
  refine WL.pure rfl rfl rfl (PV.assign rfl) ?_
  refine WL.nilS ?_
  refine CW.seq ?_
  refine CW.reg ?_
  refine WL.pure rfl rfl rfl ((by first | exact PV.loadA T.ag33 rfl (by first | exact Cells.up (by assumption) hB | exact Bx.cells (by assumption) | assumption) (Ext.refl _) rfl | exact PV.loadP (ds := [_, _, _, _, _]) T.ag33 rfl (by first | exact Cells.up (by assumption) hB | exact Bx.cells (by assumption) | assumption) (Ext.refl _) rfl rfl)) ?_
  refine WL.pure rfl rfl rfl (PV.move rfl) ?_
  refine WL.op rfl (OpK.callR rfl T.cf23 rfl (c_laws_szTreeMachine (by first | assumption | exact Rd.up (by assumption) hB | exact Osl.rd (by assumption) | exact Osn.rdR (by assumption) | exact NL.rd (by assumption) | exact rdII (by assumption) (by assumption) | exact Inn.rd (by assumption) (by omega)) (by first | assumption | exact Rd.up (by assumption) hB | exact Osl.rd (by assumption) | exact Osn.rdR (by assumption) | exact NL.rd (by assumption) | exact rdII (by assumption) (by assumption) | exact Inn.rd (by assumption) (by omega)) (by first | assumption | exact Rd.up (by assumption) hB | exact Osl.rd (by assumption) | exact Osn.rdR (by assumption) | exact NL.rd (by assumption) | exact rdII (by assumption) (by assumption) | exact Inn.rd (by assumption) (by omega)) (by first | assumption | omega | (simp only [marks_len, marksB_len]; omega))) (fun w2 hXw2 => ?_))
  have hB := hB.trans hXw2
  have hb1 := hb1.up hXw2
  refine WL.pure rfl rfl rfl (PV.assign rfl) ?_
  refine WL.nilS ?_
  refine CW.seq ?_
  refine CW.seq ?_
  refine CW.reg ?_
  refine WL.pure rfl rfl rfl (PV.move rfl) ?_
  refine WL.pure rfl rfl rfl (PV.lss rfl rfl) ?_
  refine WL.nilS ?_
  refine CW.cond rfl (fun hc2 => ?_) (fun hc2 => ?_)
  · skip
    try simp only [decide_eq_true_eq, decide_eq_false_iff_not, Bool.not_eq_true', Bool.not_eq_false', Bool.not_eq_eq_eq_not, Bool.not_true, Bool.not_false, Int.not_lt, Int.not_le, Classical.not_not, beq_iff_eq, beq_eq_false_iff_ne] at hc2
    refine CW.seq ?_
    refine CW.reg ?_
    refine WL.pure rfl rfl rfl (PV.assign rfl) ?_
    refine WL.nilS ?_
    refine CW.ret ?_
    refine RQ.then ?_
    refine RQ.r1 rfl ?_
    refine ⟨?_, hB⟩
    first | rfl | (exfalso; revert hc2; simp; done) | (exfalso; revert hc2; simp; omega) | (exfalso; omega) | first | rfl | exact bT (by omega) | exact bF (by omega) | exact bD (by omega) | exact iE (by omega) | (simp_all; done) | (simp_all; omega) | (simp_all; intros; omega)
  try simp only [decide_eq_true_eq, decide_eq_false_iff_not, Bool.not_eq_true', Bool.not_eq_false', Bool.not_eq_eq_eq_not, Bool.not_true, Bool.not_false, Int.not_lt, Int.not_le, Classical.not_not, beq_iff_eq, beq_eq_false_iff_ne] at hc2
  refine CW.skipS ?_
  refine CW.seq ?_
  refine CW.reg ?_
  refine WL.pure rfl rfl rfl ((by first | exact PV.loadA T.ag33 rfl (by first | exact Cells.up (by assumption) hB | exact Bx.cells (by assumption) | assumption) (Ext.refl _) rfl | exact PV.loadP (ds := [_, _, _, _, _]) T.ag33 rfl (by first | exact Cells.up (by assumption) hB | exact Bx.cells (by assumption) | assumption) (Ext.refl _) rfl rfl)) ?_
  refine WL.op rfl (OpK.call rfl T.cf25 rfl (c_laws_toTreeMachine (by first | assumption | exact Rd.up (by assumption) hB | exact Osl.rd (by assumption) | exact Osn.rdR (by assumption) | exact NL.rd (by assumption) | exact rdII (by assumption) (by assumption) | exact Inn.rd (by assumption) (by omega)) (by first | assumption | exact Rd.up (by assumption) hB | exact Osl.rd (by assumption) | exact Osn.rdR (by assumption) | exact NL.rd (by assumption) | exact rdII (by assumption) (by assumption) | exact Inn.rd (by assumption) (by omega)) (by first | assumption | exact Rd.up (by assumption) hB | exact Osl.rd (by assumption) | exact Osn.rdR (by assumption) | exact NL.rd (by assumption) | exact rdII (by assumption) (by assumption) | exact Inn.rd (by assumption) (by omega)) (by first | assumption | omega | (simp only [marks_len, marksB_len]; omega)) (by first | assumption | omega | (simp only [marks_len, marksB_len]; omega)) (by first | assumption | omega | (simp only [marks_len, marksB_len]; omega))) (fun rv1 w3 hR => ?_))
  obtain ⟨hXw3, v2, og2, v3, og3, v4, og4, rfl, ho2, hq2, ho3, hq3, ho4, hq4, hd2_3, hd2_4, hd3_4⟩ := hR
  have hl2 := Lo.up hq2 hB
  have hd1_2 := Dj.lo hb1.ltO hq2
  have hl3 := Lo.up hq3 hB
  have hd1_3 := Dj.lo hb1.ltO hq3
  have hl4 := Lo.up hq4 hB
  have hd1_4 := Dj.lo hb1.ltO hq4
  have hB := hB.trans hXw3
  have hb1 := hb1.up hXw3
  refine WL.pure rfl rfl rfl (PV.move rfl) ?_
  refine WL.op rfl (OpK.call rfl T.cf16 rfl (c_laws_toInt64S (by first | assumption | exact Rd.up (by assumption) hB | exact Osl.rd (by assumption) | exact Osn.rdR (by assumption) | exact NL.rd (by assumption) | exact rdII (by assumption) (by assumption) | exact Inn.rd (by assumption) (by omega)) (by first | assumption | omega | (simp only [marks_len, marksB_len]; omega))) (fun rv2 w4 hR => ?_))
  obtain ⟨hXw4, v5, og5, rfl, ho5, hq5⟩ := hR
  have hl5 := Lo.up hq5 hB
  have hd1_5 := Dj.lo hb1.ltO hq5
  have hd2_5 := Dj.lo ho2.ltO hq5
  have hd3_5 := Dj.lo ho3.ltO hq5
  have hd4_5 := Dj.lo ho4.ltO hq5
  have hB := hB.trans hXw4
  have hb1 := hb1.up hXw4
  have ho2 := ho2.up hXw4
  have ho3 := ho3.up hXw4
  have ho4 := ho4.up hXw4
  refine WL.op rfl (OpK.callR rfl T.cf28 rfl (c_spec_ReadsTree (by first | assumption | exact Rd.up (by assumption) hB | exact Osl.rd (by assumption) | exact Osn.rdR (by assumption) | exact NL.rd (by assumption) | exact rdII (by assumption) (by assumption) | exact Inn.rd (by assumption) (by omega)) (by first | assumption | exact Rd.up (by assumption) hB | exact Osl.rd (by assumption) | exact Osn.rdR (by assumption) | exact NL.rd (by assumption) | exact rdII (by assumption) (by assumption) | exact Inn.rd (by assumption) (by omega)) (by first | assumption | exact Rd.up (by assumption) hB | exact Osl.rd (by assumption) | exact Osn.rdR (by assumption) | exact NL.rd (by assumption) | exact rdII (by assumption) (by assumption) | exact Inn.rd (by assumption) (by omega)) (by first | assumption | exact Rd.up (by assumption) hB | exact Osl.rd (by assumption) | exact Osn.rdR (by assumption) | exact NL.rd (by assumption) | exact rdII (by assumption) (by assumption) | exact Inn.rd (by assumption) (by omega)) (by first | assumption | omega | (simp only [marks_len, marksB_len]; omega))) (fun w5 hXw5 => ?_))
  have hB := hB.trans hXw5
  have hb1 := hb1.up hXw5
  have ho2 := ho2.up hXw5
  have ho3 := ho3.up hXw5
  have ho4 := ho4.up hXw5
  have ho5 := ho5.up hXw5
  refine WL.pure rfl rfl rfl (PV.move rfl) ?_
  refine WL.pure rfl rfl rfl (PV.extract rfl rfl) ?_
  refine WL.pure rfl rfl rfl (PV.extract rfl rfl) ?_
  refine WL.pure rfl rfl rfl (PV.assign rfl) ?_
  refine WL.pure rfl rfl rfl (PV.assign rfl) ?_
  refine WL.nilS ?_
  refine CW.seq ?_
  refine CW.reg ?_
  refine WL.pure rfl rfl rfl ((by first | exact PV.loadA T.ag33 rfl (by first | exact Cells.up (by assumption) hB | exact Bx.cells (by assumption) | assumption) (Ext.refl _) rfl | exact PV.loadP (ds := [_, _, _, _, _]) T.ag33 rfl (by first | exact Cells.up (by assumption) hB | exact Bx.cells (by assumption) | assumption) (Ext.refl _) rfl rfl)) ?_
  refine WL.op rfl (OpK.call rfl T.cf25 rfl (c_laws_toTreeMachine (by first | assumption | exact Rd.up (by assumption) hB | exact Osl.rd (by assumption) | exact Osn.rdR (by assumption) | exact NL.rd (by assumption) | exact rdII (by assumption) (by assumption) | exact Inn.rd (by assumption) (by omega)) (by first | assumption | exact Rd.up (by assumption) hB | exact Osl.rd (by assumption) | exact Osn.rdR (by assumption) | exact NL.rd (by assumption) | exact rdII (by assumption) (by assumption) | exact Inn.rd (by assumption) (by omega)) (by first | assumption | exact Rd.up (by assumption) hB | exact Osl.rd (by assumption) | exact Osn.rdR (by assumption) | exact NL.rd (by assumption) | exact rdII (by assumption) (by assumption) | exact Inn.rd (by assumption) (by omega)) (by first | assumption | omega | (simp only [marks_len, marksB_len]; omega)) (by first | assumption | omega | (simp only [marks_len, marksB_len]; omega)) (by first | assumption | omega | (simp only [marks_len, marksB_len]; omega))) (fun rv3 w6 hR => ?_))
  obtain ⟨hXw6, v6, og6, v7, og7, v8, og8, rfl, ho6, hq6, ho7, hq7, ho8, hq8, hd6_7, hd6_8, hd7_8⟩ := hR
  have hl6 := Lo.up hq6 hB
  have hd1_6 := Dj.lo hb1.ltO hq6
  have hd2_6 := Dj.lo ho2.ltO hq6
  have hd3_6 := Dj.lo ho3.ltO hq6
  have hd4_6 := Dj.lo ho4.ltO hq6
  have hd5_6 := Dj.lo ho5.ltO hq6
  have hl7 := Lo.up hq7 hB
  have hd1_7 := Dj.lo hb1.ltO hq7
  have hd2_7 := Dj.lo ho2.ltO hq7
  have hd3_7 := Dj.lo ho3.ltO hq7
  have hd4_7 := Dj.lo ho4.ltO hq7
  have hd5_7 := Dj.lo ho5.ltO hq7
  have hl8 := Lo.up hq8 hB
  have hd1_8 := Dj.lo hb1.ltO hq8
  have hd2_8 := Dj.lo ho2.ltO hq8
  have hd3_8 := Dj.lo ho3.ltO hq8
  have hd4_8 := Dj.lo ho4.ltO hq8
  have hd5_8 := Dj.lo ho5.ltO hq8
  have hB := hB.trans hXw6
  have hb1 := hb1.up hXw6
  have ho2 := ho2.up hXw6
  have ho3 := ho3.up hXw6
  have ho4 := ho4.up hXw6
  have ho5 := ho5.up hXw6
  refine WL.op rfl (OpK.alloc rfl T.zv36 rfl (fun b9 w7 hXw7 hb9 hge9 => ?_))
  have hl9 := Lo.new hB hge9
  have hd1_9 := Dj.new hb1.ltO hge9
  have hd2_9 := Dj.new ho2.ltO hge9
  have hd3_9 := Dj.new ho3.ltO hge9
  have hd4_9 := Dj.new ho4.ltO hge9
  have hd5_9 := Dj.new ho5.ltO hge9
  have hd6_9 := Dj.new ho6.ltO hge9
  have hd7_9 := Dj.new ho7.ltO hge9
  have hd8_9 := Dj.new ho8.ltO hge9
  have hB := hB.trans hXw7
  have hb1 := hb1.up hXw7
  have ho2 := ho2.up hXw7
  have ho3 := ho3.up hXw7
  have ho4 := ho4.up hXw7
  have ho5 := ho5.up hXw7
  have ho6 := ho6.up hXw7
  have ho7 := ho7.up hXw7
  have ho8 := ho8.up hXw7
  refine WL.op rfl (OpK.storeA T.sz36 rfl rfl rfl rfl (by simp [Value.oneCell'] <;> first | done | (repeat' apply And.intro) <;> first | rfl | exact Inn.one1 (by assumption) (by omega) | exact Osl.oneCell (by assumption) | exact Osn.oneCell (by assumption) | exact Rd.oneCell (by assumption) | exact Rd.oneCell (NL.rd (by assumption)) | assumption) hb9 (fun w8 hXw8 hb9 => ?_))
  have hB := hB.updL hXw8 hl9
  have hb1 := hb1.updD hXw8 hd1_9
  have ho2 := ho2.updD hXw8 hd2_9
  have ho3 := ho3.updD hXw8 hd3_9
  have ho4 := ho4.updD hXw8 hd4_9
  have ho5 := ho5.updD hXw8 hd5_9
  have ho6 := ho6.updD hXw8 hd6_9
  have ho7 := ho7.updD hXw8 hd7_9
  have ho8 := ho8.updD hXw8 hd8_9
  refine WL.nilS ?_
  refine CW.seq ?_
  refine CW.reg ?_
  refine WL.pure rfl rfl rfl (PV.move rfl) ?_
  refine WL.op rfl (OpK.call rfl T.cf16 rfl (c_laws_toInt64S (by first | assumption | exact Rd.up (by assumption) hB | exact Osl.rd (by assumption) | exact Osn.rdR (by assumption) | exact NL.rd (by assumption) | exact rdII (by assumption) (by assumption) | exact Inn.rd (by assumption) (by omega)) (by first | assumption | omega | (simp only [marks_len, marksB_len]; omega))) (fun rv4 w9 hR => ?_))
  obtain ⟨hXw9, v10, og10, rfl, ho10, hq10⟩ := hR
  have hl10 := Lo.up hq10 hB
  have hd1_10 := Dj.lo hb1.ltO hq10
  have hd2_10 := Dj.lo ho2.ltO hq10
  have hd3_10 := Dj.lo ho3.ltO hq10
  have hd4_10 := Dj.lo ho4.ltO hq10
  have hd5_10 := Dj.lo ho5.ltO hq10
  have hd6_10 := Dj.lo ho6.ltO hq10
  have hd7_10 := Dj.lo ho7.ltO hq10
  have hd8_10 := Dj.lo ho8.ltO hq10
  have hd9_10 := Dj.lo hb9.ltO hq10
  have hB := hB.trans hXw9
  have hb1 := hb1.up hXw9
  have ho2 := ho2.up hXw9
  have ho3 := ho3.up hXw9
  have ho4 := ho4.up hXw9
  have ho5 := ho5.up hXw9
  have ho6 := ho6.up hXw9
  have ho7 := ho7.up hXw9
  have ho8 := ho8.up hXw9
  have hb9 := hb9.up hXw9
  refine WL.pure rfl rfl rfl (PV.assign rfl) ?_
  refine WL.nilS ?_
  refine CW.seq ?_
  refine CW.reg ?_
  refine WL.pure rfl rfl rfl ((by first | exact PV.loadA T.ag36 rfl (by first | exact Cells.up (by assumption) hB | exact Bx.cells (by assumption) | assumption) (Ext.refl _) rfl | exact PV.loadP (ds := [_, _, _, _, _]) T.ag36 rfl (by first | exact Cells.up (by assumption) hB | exact Bx.cells (by assumption) | assumption) (Ext.refl _) rfl rfl)) ?_
  refine WL.pure rfl rfl rfl (PV.move rfl) ?_
  refine WL.op rfl (OpK.callR rfl T.cf29 rfl (c_impl_ReadsTree (by first | assumption | exact Rd.up (by assumption) hB | exact Osl.rd (by assumption) | exact Osn.rdR (by assumption) | exact NL.rd (by assumption) | exact rdII (by assumption) (by assumption) | exact Inn.rd (by assumption) (by omega)) (by first | assumption | exact Rd.up (by assumption) hB | exact Osl.rd (by assumption) | exact Osn.rdR (by assumption) | exact NL.rd (by assumption) | exact rdII (by assumption) (by assumption) | exact Inn.rd (by assumption) (by omega)) (by first | assumption | exact Rd.up (by assumption) hB | exact Osl.rd (by assumption) | exact Osn.rdR (by assumption) | exact NL.rd (by assumption) | exact rdII (by assumption) (by assumption) | exact Inn.rd (by assumption) (by omega)) (by first | assumption | exact Rd.up (by assumption) hB | exact Osl.rd (by assumption) | exact Osn.rdR (by assumption) | exact NL.rd (by assumption) | exact rdII (by assumption) (by assumption) | exact Inn.rd (by assumption) (by omega)) (by first | assumption | omega | (simp only [marks_len, marksB_len]; omega))) (fun w10 hXw10 => ?_))
  have hB := hB.trans hXw10
  have hb1 := hb1.up hXw10
  have ho2 := ho2.up hXw10
  have ho3 := ho3.up hXw10
  have ho4 := ho4.up hXw10
  have ho5 := ho5.up hXw10
  have ho6 := ho6.up hXw10
  have ho7 := ho7.up hXw10
  have ho8 := ho8.up hXw10
  have hb9 := hb9.up hXw10
  have ho10 := ho10.up hXw10
  refine WL.pure rfl rfl rfl (PV.move rfl) ?_
  refine WL.pure rfl rfl rfl (PV.extract rfl rfl) ?_
  refine WL.pure rfl rfl rfl (PV.extract rfl rfl) ?_
  refine WL.pure rfl rfl rfl (PV.assign rfl) ?_
  refine WL.pure rfl rfl rfl (PV.assign rfl) ?_
  refine WL.nilS ?_
  refine CW.seq ?_
  refine CW.seq ?_
  refine CW.reg ?_
  refine WL.pure rfl rfl rfl (PV.move rfl) ?_
  refine WL.pure rfl rfl rfl (PV.move rfl) ?_
  refine WL.pure rfl rfl rfl (PV.neqB T.bl4 rfl rfl) ?_
  refine WL.pure rfl rfl rfl (PV.move rfl) ?_
  refine WL.split (t := 41) rfl (fun hc3 => ?_) (fun hc3 => ?_)
  · skip
    try simp only [decide_eq_true_eq, decide_eq_false_iff_not, Bool.not_eq_true', Bool.not_eq_false', Bool.not_eq_eq_eq_not, Bool.not_true, Bool.not_false, Int.not_lt, Int.not_le, Classical.not_not, beq_iff_eq, beq_eq_false_iff_ne] at hc3
    refine WL.skip rfl rfl rfl rfl rfl ?_
    refine WL.skip rfl rfl rfl rfl rfl ?_
    refine WL.skip rfl rfl rfl rfl rfl ?_
    refine WL.pure rfl rfl rfl (PV.pickT rfl rfl) ?_
    refine WL.nilS ?_
    refine CW.condT rfl ?_
    refine CW.seq ?_
    refine CW.reg ?_
    refine WL.pure rfl rfl rfl (PV.assign rfl) ?_
    refine WL.nilS ?_
    refine CW.ret ?_
    refine RQ.then ?_
    refine RQ.r1 rfl ?_
    refine ⟨?_, hB⟩
    first | rfl | (exfalso; revert hc3; simp; done) | (exfalso; revert hc3; simp; omega) | (exfalso; omega) | first | rfl | exact bT (by omega) | exact bF (by omega) | exact bD (by omega) | exact iE (by omega) | (simp_all; done) | (simp_all; omega) | (simp_all; intros; omega)
  try simp only [decide_eq_true_eq, decide_eq_false_iff_not, Bool.not_eq_true', Bool.not_eq_false', Bool.not_eq_eq_eq_not, Bool.not_true, Bool.not_false, Int.not_lt, Int.not_le, Classical.not_not, beq_iff_eq, beq_eq_false_iff_ne] at hc3
  refine WL.pureG rfl rfl rfl rfl rfl (PV.move rfl) ?_
  refine WL.pureG rfl rfl rfl rfl rfl (PV.move rfl) ?_
  refine WL.pureG rfl rfl rfl rfl rfl (PV.neqB T.bl4 rfl rfl) ?_
  refine WL.pure rfl rfl rfl (PV.pickF rfl rfl) ?_
  refine WL.nilS ?_
  refine CW.cond rfl (fun hc4 => ?_) (fun hc4 => ?_)
  · skip
    try simp only [decide_eq_true_eq, decide_eq_false_iff_not, Bool.not_eq_true', Bool.not_eq_false', Bool.not_eq_eq_eq_not, Bool.not_true, Bool.not_false, Int.not_lt, Int.not_le, Classical.not_not, beq_iff_eq, beq_eq_false_iff_ne] at hc4
    refine CW.seq ?_
    refine CW.reg ?_
    refine WL.pure rfl rfl rfl (PV.assign rfl) ?_
    refine WL.nilS ?_
    refine CW.ret ?_
    refine RQ.then ?_
    refine RQ.r1 rfl ?_
    refine ⟨?_, hB⟩
    first | rfl | (exfalso; revert hc4; simp; done) | (exfalso; revert hc4; simp; omega) | (exfalso; omega) | first | rfl | exact bT (by omega) | exact bF (by omega) | exact bD (by omega) | exact iE (by omega) | (simp_all; done) | (simp_all; omega) | (simp_all; intros; omega)
  try simp only [decide_eq_true_eq, decide_eq_false_iff_not, Bool.not_eq_true', Bool.not_eq_false', Bool.not_eq_eq_eq_not, Bool.not_true, Bool.not_false, Int.not_lt, Int.not_le, Classical.not_not, beq_iff_eq, beq_eq_false_iff_ne] at hc4
  refine CW.skipS ?_
  refine CW.seq ?_
  refine CW.seq ?_
  refine CW.draw T.mixed (by kernel_rfl) (fun _ _ _ _ _ h => h) (fun w8 w9 => Upd none w8 w9) 5 (.take 0 (.take 1 (.must 2 (.must 3 (.take 4 .done))))) (by kernel_rfl) (fun w11 hXd => ?_)
  have hB := hB.trans hXd
  have hb1 := hb1.up hXd
  have ho2 := ho2.up hXd
  have ho3 := ho3.up hXd
  have ho4 := ho4.up hXd
  have ho5 := ho5.up hXd
  have ho6 := ho6.up hXd
  have ho7 := ho7.up hXd
  have ho8 := ho8.up hXd
  have hb9 := hb9.up hXd
  have ho10 := ho10.up hXd
  have hBr := hB
  have hS : Upd none w11 w11 := Ext.toUpd (Ext.refl _)
  refine HP.take rfl rfl rfl rfl hS (fun wS hS1 => (by first | exact PV.loadA T.ag36 rfl (by first | exact Cells.up (by assumption) (hBr.trans hS1) | exact Bx.cells (Bx.updD (by assumption) hS1 (Dj.nlR _)) | exact Cells.upd (by assumption) hS1 (by simp)) (Ext.refl _) rfl | exact PV.loadP (ds := [_, _, _, _, _]) T.ag36 rfl (by first | exact Cells.up (by assumption) (hBr.trans hS1) | exact Bx.cells (Bx.updD (by assumption) hS1 (Dj.nlR _)) | exact Cells.upd (by assumption) hS1 (by simp)) (Ext.refl _) rfl rfl)) ?_
  refine HP.take rfl rfl rfl rfl hS (fun wS hS1 => (by first | exact PV.loadA T.ag33 rfl (by first | exact Cells.up (by assumption) (hBr.trans hS1) | exact Bx.cells (Bx.updD (by assumption) hS1 (Dj.nlR _)) | exact Cells.upd (by assumption) hS1 (by simp)) (Ext.refl _) rfl | exact PV.loadP (ds := [_, _, _, _, _]) T.ag33 rfl (by first | exact Cells.up (by assumption) (hBr.trans hS1) | exact Bx.cells (Bx.updD (by assumption) hS1 (Dj.nlR _)) | exact Cells.upd (by assumption) hS1 (by simp)) (Ext.refl _) rfl rfl)) ?_
  refine HP.must rfl rfl (OpK.call rfl T.cf25 rfl (c_laws_toTreeMachine (by first | assumption | exact Rd.up (by assumption) hB | exact Osl.rd (by assumption) | exact Osn.rdR (by assumption) | exact NL.rd (by assumption) | exact rdII (by assumption) (by assumption) | exact Inn.rd (by assumption) (by omega)) (by first | assumption | exact Rd.up (by assumption) hB | exact Osl.rd (by assumption) | exact Osn.rdR (by assumption) | exact NL.rd (by assumption) | exact rdII (by assumption) (by assumption) | exact Inn.rd (by assumption) (by omega)) (by first | assumption | exact Rd.up (by assumption) hB | exact Osl.rd (by assumption) | exact Osn.rdR (by assumption) | exact NL.rd (by assumption) | exact rdII (by assumption) (by assumption) | exact Inn.rd (by assumption) (by omega)) (by first | assumption | omega | (simp only [marks_len, marksB_len]; omega)) (by first | assumption | omega | (simp only [marks_len, marksB_len]; omega)) (by first | assumption | omega | (simp only [marks_len, marksB_len]; omega))) (fun rv5 w12 hR => ?_))
  obtain ⟨hXw12, v11, og11, v12, og12, v13, og13, rfl, ho11, hq11, ho12, hq12, ho13, hq13, hd11_12, hd11_13, hd12_13⟩ := hR
  have hl11 := Lo.up hq11 hB
  have hv11 := Lo.up hq11 hS
  have hd1_11 := Dj.lo hb1.ltO hq11
  have hd2_11 := Dj.lo ho2.ltO hq11
  have hd3_11 := Dj.lo ho3.ltO hq11
  have hd4_11 := Dj.lo ho4.ltO hq11
  have hd5_11 := Dj.lo ho5.ltO hq11
  have hd6_11 := Dj.lo ho6.ltO hq11
  have hd7_11 := Dj.lo ho7.ltO hq11
  have hd8_11 := Dj.lo ho8.ltO hq11
  have hd9_11 := Dj.lo hb9.ltO hq11
  have hd10_11 := Dj.lo ho10.ltO hq11
  have hl12 := Lo.up hq12 hB
  have hv12 := Lo.up hq12 hS
  have hd1_12 := Dj.lo hb1.ltO hq12
  have hd2_12 := Dj.lo ho2.ltO hq12
  have hd3_12 := Dj.lo ho3.ltO hq12
  have hd4_12 := Dj.lo ho4.ltO hq12
  have hd5_12 := Dj.lo ho5.ltO hq12
  have hd6_12 := Dj.lo ho6.ltO hq12
  have hd7_12 := Dj.lo ho7.ltO hq12
  have hd8_12 := Dj.lo ho8.ltO hq12
  have hd9_12 := Dj.lo hb9.ltO hq12
  have hd10_12 := Dj.lo ho10.ltO hq12
  have hl13 := Lo.up hq13 hB
  have hv13 := Lo.up hq13 hS
  have hd1_13 := Dj.lo hb1.ltO hq13
  have hd2_13 := Dj.lo ho2.ltO hq13
  have hd3_13 := Dj.lo ho3.ltO hq13
  have hd4_13 := Dj.lo ho4.ltO hq13
  have hd5_13 := Dj.lo ho5.ltO hq13
  have hd6_13 := Dj.lo ho6.ltO hq13
  have hd7_13 := Dj.lo ho7.ltO hq13
  have hd8_13 := Dj.lo ho8.ltO hq13
  have hd9_13 := Dj.lo hb9.ltO hq13
  have hd10_13 := Dj.lo ho10.ltO hq13
  refine ⟨Upd.trans hS hXw12, ?_⟩
  have hS := Upd.trans hS hXw12
  have hB := hB.trans hXw12
  have hb1 := hb1.up hXw12
  have ho2 := ho2.up hXw12
  have ho3 := ho3.up hXw12
  have ho4 := ho4.up hXw12
  have ho5 := ho5.up hXw12
  have ho6 := ho6.up hXw12
  have ho7 := ho7.up hXw12
  have ho8 := ho8.up hXw12
  have hb9 := hb9.up hXw12
  have ho10 := ho10.up hXw12
  refine HP.must rfl rfl (OpK.callR rfl T.cf27 rfl (c_laws_eqTreeMachine (by first | assumption | exact Rd.up (by assumption) hB | exact Osl.rd (by assumption) | exact Osn.rdR (by assumption) | exact NL.rd (by assumption) | exact rdII (by assumption) (by assumption) | exact Inn.rd (by assumption) (by omega)) (by first | assumption | exact Rd.up (by assumption) hB | exact Osl.rd (by assumption) | exact Osn.rdR (by assumption) | exact NL.rd (by assumption) | exact rdII (by assumption) (by assumption) | exact Inn.rd (by assumption) (by omega)) (by first | assumption | exact Rd.up (by assumption) hB | exact Osl.rd (by assumption) | exact Osn.rdR (by assumption) | exact NL.rd (by assumption) | exact rdII (by assumption) (by assumption) | exact Inn.rd (by assumption) (by omega)) (by first | assumption | exact Rd.up (by assumption) hB | exact Osl.rd (by assumption) | exact Osn.rdR (by assumption) | exact NL.rd (by assumption) | exact rdII (by assumption) (by assumption) | exact Inn.rd (by assumption) (by omega)) (by first | assumption | exact Rd.up (by assumption) hB | exact Osl.rd (by assumption) | exact Osn.rdR (by assumption) | exact NL.rd (by assumption) | exact rdII (by assumption) (by assumption) | exact Inn.rd (by assumption) (by omega)) (by first | assumption | exact Rd.up (by assumption) hB | exact Osl.rd (by assumption) | exact Osn.rdR (by assumption) | exact NL.rd (by assumption) | exact rdII (by assumption) (by assumption) | exact Inn.rd (by assumption) (by omega))) (fun w13 hXw13 => ?_))
  refine ⟨Upd.trans hS hXw13, ?_⟩
  have hS := Upd.trans hS hXw13
  have hB := hB.trans hXw13
  have hb1 := hb1.up hXw13
  have ho2 := ho2.up hXw13
  have ho3 := ho3.up hXw13
  have ho4 := ho4.up hXw13
  have ho5 := ho5.up hXw13
  have ho6 := ho6.up hXw13
  have ho7 := ho7.up hXw13
  have ho8 := ho8.up hXw13
  have hb9 := hb9.up hXw13
  have ho10 := ho10.up hXw13
  have ho11 := ho11.up hXw13
  have ho12 := ho12.up hXw13
  have ho13 := ho13.up hXw13
  refine HP.take rfl rfl rfl rfl hS (fun wS hS1 => PV.not rfl) ?_
  refine HP.doneS ?_
  refine CW.cond rfl (fun hc5 => ?_) (fun hc5 => ?_)
  · skip
    try simp only [decide_eq_true_eq, decide_eq_false_iff_not, Bool.not_eq_true', Bool.not_eq_false', Bool.not_eq_eq_eq_not, Bool.not_true, Bool.not_false, Int.not_lt, Int.not_le, Classical.not_not, beq_iff_eq, beq_eq_false_iff_ne] at hc5
    refine CW.seq ?_
    refine CW.reg ?_
    refine WL.pure rfl rfl rfl (PV.assign rfl) ?_
    refine WL.nilS ?_
    refine CW.ret ?_
    refine RQ.then ?_
    refine RQ.r1 rfl ?_
    refine ⟨?_, hB⟩
    first | rfl | (exfalso; revert hc5; simp; done) | (exfalso; revert hc5; simp; omega) | (exfalso; omega) | first | rfl | exact bT (by omega) | exact bF (by omega) | exact bD (by omega) | exact iE (by omega) | (simp_all; done) | (simp_all; omega) | (simp_all; intros; omega)
  try simp only [decide_eq_true_eq, decide_eq_false_iff_not, Bool.not_eq_true', Bool.not_eq_false', Bool.not_eq_eq_eq_not, Bool.not_true, Bool.not_false, Int.not_lt, Int.not_le, Classical.not_not, beq_iff_eq, beq_eq_false_iff_ne] at hc5
  refine CW.skipS ?_
  refine CW.seq ?_
  refine CW.seq ?_
  refine CW.reg ?_
  refine WL.pure rfl rfl rfl (PV.move rfl) ?_
  refine WL.pure rfl rfl rfl (PV.move rfl) ?_
  refine WL.op rfl (OpK.call rfl T.cf16 rfl (c_laws_toInt64S (by first | assumption | exact Rd.up (by assumption) hB | exact Osl.rd (by assumption) | exact Osn.rdR (by assumption) | exact NL.rd (by assumption) | exact rdII (by assumption) (by assumption) | exact Inn.rd (by assumption) (by omega)) (by first | assumption | omega | (simp only [marks_len, marksB_len]; omega))) (fun rv6 w14 hR => ?_))
  obtain ⟨hXw14, v14, og14, rfl, ho14, hq14⟩ := hR
  have hl14 := Lo.up hq14 hB
  have hd1_14 := Dj.lo hb1.ltO hq14
  have hd2_14 := Dj.lo ho2.ltO hq14
  have hd3_14 := Dj.lo ho3.ltO hq14
  have hd4_14 := Dj.lo ho4.ltO hq14
  have hd5_14 := Dj.lo ho5.ltO hq14
  have hd6_14 := Dj.lo ho6.ltO hq14
  have hd7_14 := Dj.lo ho7.ltO hq14
  have hd8_14 := Dj.lo ho8.ltO hq14
  have hd9_14 := Dj.lo hb9.ltO hq14
  have hd10_14 := Dj.lo ho10.ltO hq14
  have hd11_14 := Dj.lo ho11.ltO hq14
  have hd12_14 := Dj.lo ho12.ltO hq14
  have hd13_14 := Dj.lo ho13.ltO hq14
  have hB := hB.trans hXw14
  have hb1 := hb1.up hXw14
  have ho2 := ho2.up hXw14
  have ho3 := ho3.up hXw14
  have ho4 := ho4.up hXw14
  have ho5 := ho5.up hXw14
  have ho6 := ho6.up hXw14
  have ho7 := ho7.up hXw14
  have ho8 := ho8.up hXw14
  have hb9 := hb9.up hXw14
  have ho10 := ho10.up hXw14
  have ho11 := ho11.up hXw14
  have ho12 := ho12.up hXw14
  have ho13 := ho13.up hXw14
  refine WL.op rfl (OpK.callR rfl T.cf18 rfl (c_laws_eqInt64S (by first | assumption | exact Rd.up (by assumption) hB | exact Osl.rd (by assumption) | exact Osn.rdR (by assumption) | exact NL.rd (by assumption) | exact rdII (by assumption) (by assumption) | exact Inn.rd (by assumption) (by omega)) (by first | assumption | exact Rd.up (by assumption) hB | exact Osl.rd (by assumption) | exact Osn.rdR (by assumption) | exact NL.rd (by assumption) | exact rdII (by assumption) (by assumption) | exact Inn.rd (by assumption) (by omega))) (fun w15 hXw15 => ?_))
  have hB := hB.trans hXw15
  have hb1 := hb1.up hXw15
  have ho2 := ho2.up hXw15
  have ho3 := ho3.up hXw15
  have ho4 := ho4.up hXw15
  have ho5 := ho5.up hXw15
  have ho6 := ho6.up hXw15
  have ho7 := ho7.up hXw15
  have ho8 := ho8.up hXw15
  have hb9 := hb9.up hXw15
  have ho10 := ho10.up hXw15
  have ho11 := ho11.up hXw15
  have ho12 := ho12.up hXw15
  have ho13 := ho13.up hXw15
  have ho14 := ho14.up hXw15
  refine WL.pure rfl rfl rfl (PV.not rfl) ?_
  refine WL.nilS ?_
  refine CW.cond rfl (fun hc6 => ?_) (fun hc6 => ?_)
  · skip
    try simp only [decide_eq_true_eq, decide_eq_false_iff_not, Bool.not_eq_true', Bool.not_eq_false', Bool.not_eq_eq_eq_not, Bool.not_true, Bool.not_false, Int.not_lt, Int.not_le, Classical.not_not, beq_iff_eq, beq_eq_false_iff_ne] at hc6
    refine CW.seq ?_
    refine CW.reg ?_
    refine WL.pure rfl rfl rfl (PV.assign rfl) ?_
    refine WL.nilS ?_
    refine CW.ret ?_
    refine RQ.then ?_
    refine RQ.r1 rfl ?_
    refine ⟨?_, hB⟩
    first | rfl | (exfalso; revert hc6; simp; done) | (exfalso; revert hc6; simp; omega) | (exfalso; omega) | first | rfl | exact bT (by omega) | exact bF (by omega) | exact bD (by omega) | exact iE (by omega) | (simp_all; done) | (simp_all; omega) | (simp_all; intros; omega)
  try simp only [decide_eq_true_eq, decide_eq_false_iff_not, Bool.not_eq_true', Bool.not_eq_false', Bool.not_eq_eq_eq_not, Bool.not_true, Bool.not_false, Int.not_lt, Int.not_le, Classical.not_not, beq_iff_eq, beq_eq_false_iff_ne] at hc6
  refine CW.skipS ?_
  refine CW.seq ?_
  refine CW.reg ?_
  refine WL.pure rfl rfl rfl (PV.assign rfl) ?_
  refine WL.nilS ?_
  refine CW.ret ?_
  refine RQ.r1 rfl ?_
  refine ⟨?_, hB⟩
  first | rfl | (exfalso; revert hc6; simp; done) | (exfalso; revert hc6; simp; omega) | (exfalso; omega) | first | rfl | exact bT (by omega) | exact bF (by omega) | exact bD (by omega) | exact iE (by omega) | (simp_all; done) | (simp_all; omega) | (simp_all; intros; omega)

end Go.Proofs.Ytfnmkcncofjjkaa
