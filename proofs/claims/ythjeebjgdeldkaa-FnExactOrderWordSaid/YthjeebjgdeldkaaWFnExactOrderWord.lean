/- Walks of the functions that the law FnExactOrderWord reaches: each says what its function computes. No condition. -/
import Derived.Test.YthjeebjgdeldkaaProg
import Derived.Test.YthjeebjgdeldkaaLibM
import Derived.Test.YthjeebjgdeldkaaPlA
import Derived.Test.YthjeebjgdeldkaaLibT
import Derived.Test.YthjeebjgdeldkaaLibV
import Derived.Test.YthjeebjgdeldkaaPlK
import Derived.Test.YthjeebjgdeldkaaPlQ
import Derived.Test.YthjeebjgdeldkaaPlL
import Derived.Test.YthjeebjgdeldkaaPlO
import Derived.Test.YthjeebjgdeldkaaPlG
import Derived.Test.YthjeebjgdeldkaaWFnExactOrderWordb
namespace Go.Proofs.Ythjeebjgdeldkaa
open Go Go.WX Go.Proofs
set_option linter.unusedSimpArgs false
set_option linter.unusedVariables false

theorem c_laws_FnExactOrderWord {w : World} {va0 : Value} {xa0 : List Int} {va1 : Value} {xa1 : List Int} {va2 : Value} {xa2 : List Int} {va3 : Value} {xa3 : List Int} {vb0 : Value} {xb0 : List Int} {vb1 : Value} {xb1 : List Int} {vb2 : Value} {xb2 : List Int} {vb3 : Value} {xb3 : List Int} {L n : Int} (ha0 : Rd EI w va0 xa0) (ha1 : Rd EI w va1 xa1) (ha2 : Rd EI w va2 xa2) (ha3 : Rd EI w va3 xa3) (hb0 : Rd EI w vb0 xb0) (hb1 : Rd EI w vb1 xb1) (hb2 : Rd EI w vb2 xb2) (hb3 : Rd EI w vb3 xb3) : Calls Try.prog 7 #[.agg #[va0, va1, va2, va3], .agg #[vb0, vb1, vb2, vb3], .int .i64 L, .int .i64 n] w (Ret1 (RQt (.bool true) w)) := by
  have hB : Ext w w := Ext.refl w
  have hla0 := ha0.leI; have hla1 := ha1.leI; have hla2 := ha2.leI; have hla3 := ha3.leI; have hlb0 := hb0.leI; have hlb1 := hb1.leI; have hlb2 := hb2.leI; have hlb3 := hb3.leI; have hel := @ordL_len (xa0, xa1, xa2, xa3) (xb0, xb1, xb2, xb3) L n
  refine callsOf (vs := [_, _, _, _]) Try.func7 rfl Try.ntmps7 rfl rfl ?_
  refine CW.seq ?_
  refine CW.reg ?_
  refine WL.op rfl (OpK.box rfl rfl (by first | exact Rd.cells1 (by assumption) | exact Osl.cells1 (by assumption) | exact Osn.cells1 (by assumption) | exact Rd.cells1 (NL.rd (by assumption)) | exact Inn.cell1 (by assumption) (by omega) | rfl) (fun b1 w1 hXw1 hb1 hge1 => ?_))
  have hl1 := Lo.new hB hge1
  have hB := hB.trans hXw1
  refine WL.op rfl (OpK.box rfl rfl (by first | exact Rd.cells1 (by assumption) | exact Osl.cells1 (by assumption) | exact Osn.cells1 (by assumption) | exact Rd.cells1 (NL.rd (by assumption)) | exact Inn.cell1 (by assumption) (by omega) | rfl) (fun b2 w2 hXw2 hb2 hge2 => ?_))
  have hl2 := Lo.new hB hge2
  have hd1_2 := Dj.new hb1.ltO hge2
  have hB := hB.trans hXw2
  have hb1 := hb1.up hXw2
  refine WL.pure rfl rfl rfl (PV.assign rfl) ?_
  refine WL.nilS ?_
  refine CW.seq ?_
  refine CW.reg ?_
  refine WL.pure rfl rfl rfl (PV.assign rfl) ?_
  refine WL.nilS ?_
  refine CW.seq ?_
  refine CW.reg ?_
  refine WL.pure rfl rfl rfl ((by first | exact PV.loadA T.ag54 rfl (by first | exact Cells.up (by assumption) hB | exact Bx.cells (by assumption) | assumption) (Ext.refl _) rfl | exact PV.loadP (ds := [_, _, _, _]) T.ag54 rfl (by first | exact Cells.up (by assumption) hB | exact Bx.cells (by assumption) | assumption) (Ext.refl _) rfl rfl)) ?_
  refine WL.pure rfl rfl rfl (PV.move rfl) ?_
  refine WL.op rfl (OpK.callR rfl T.cf35 rfl (c_laws_szChange (by first | assumption | exact Rd.up (by assumption) hB | exact Osl.rd (by assumption) | exact Osn.rdR (by assumption) | exact NL.rd (by assumption) | exact rdII (by assumption) (by assumption) | exact Inn.rd (by assumption) (by omega)) (by first | assumption | exact Rd.up (by assumption) hB | exact Osl.rd (by assumption) | exact Osn.rdR (by assumption) | exact NL.rd (by assumption) | exact rdII (by assumption) (by assumption) | exact Inn.rd (by assumption) (by omega)) (by first | assumption | exact Rd.up (by assumption) hB | exact Osl.rd (by assumption) | exact Osn.rdR (by assumption) | exact NL.rd (by assumption) | exact rdII (by assumption) (by assumption) | exact Inn.rd (by assumption) (by omega)) (by first | assumption | exact Rd.up (by assumption) hB | exact Osl.rd (by assumption) | exact Osn.rdR (by assumption) | exact NL.rd (by assumption) | exact rdII (by assumption) (by assumption) | exact Inn.rd (by assumption) (by omega)) (by first | assumption | omega | (simp only [marks_len, marksB_len, marksR_len, sumL_marksS]; omega))) (fun w3 hXw3 => ?_))
  have hB := hB.trans hXw3
  have hb1 := hb1.up hXw3
  have hb2 := hb2.up hXw3
  refine WL.pure rfl rfl rfl (PV.assign rfl) ?_
  refine WL.nilS ?_
  refine CW.seq ?_
  refine CW.seq ?_
  refine CW.reg ?_
  refine WL.pure rfl rfl rfl (PV.move rfl) ?_
  refine WL.pure rfl rfl rfl (PV.lss rfl rfl) ?_
  refine WL.nilS ?_
  refine CW.cond rfl (fun hc1 => ?_) (fun hc1 => ?_)
  · skip
    try simp only [decide_eq_true_eq, decide_eq_false_iff_not, Bool.not_eq_true', Bool.not_eq_false', Bool.not_eq_eq_eq_not, Bool.not_true, Bool.not_false, Int.not_lt, Int.not_le, Classical.not_not, beq_iff_eq, beq_eq_false_iff_ne] at hc1
    refine CW.seq ?_
    refine CW.reg ?_
    refine WL.pure rfl rfl rfl (PV.assign rfl) ?_
    refine WL.nilS ?_
    refine CW.ret ?_
    refine RQ.then ?_
    refine RQ.r1 rfl ?_
    refine ⟨?_, hB⟩
    first | rfl | (exfalso; revert hc1; simp; done) | (exfalso; revert hc1; simp; omega) | (exfalso; omega) | first | rfl | exact bT (by omega) | exact bF (by omega) | exact bD (by omega) | exact iE (by omega) | (simp_all; done) | (simp_all; omega) | (simp_all; intros; omega)
  try simp only [decide_eq_true_eq, decide_eq_false_iff_not, Bool.not_eq_true', Bool.not_eq_false', Bool.not_eq_eq_eq_not, Bool.not_true, Bool.not_false, Int.not_lt, Int.not_le, Classical.not_not, beq_iff_eq, beq_eq_false_iff_ne] at hc1
  refine CW.skipS ?_
  refine CW.seq ?_
  refine CW.reg ?_
  refine WL.pure rfl rfl rfl ((by first | exact PV.loadA T.ag54 rfl (by first | exact Cells.up (by assumption) hB | exact Bx.cells (by assumption) | assumption) (Ext.refl _) rfl | exact PV.loadP (ds := [_, _, _, _]) T.ag54 rfl (by first | exact Cells.up (by assumption) hB | exact Bx.cells (by assumption) | assumption) (Ext.refl _) rfl rfl)) ?_
  refine WL.pure rfl rfl rfl (PV.move rfl) ?_
  refine WL.op rfl (OpK.callR rfl T.cf35 rfl (c_laws_szChange (by first | assumption | exact Rd.up (by assumption) hB | exact Osl.rd (by assumption) | exact Osn.rdR (by assumption) | exact NL.rd (by assumption) | exact rdII (by assumption) (by assumption) | exact Inn.rd (by assumption) (by omega)) (by first | assumption | exact Rd.up (by assumption) hB | exact Osl.rd (by assumption) | exact Osn.rdR (by assumption) | exact NL.rd (by assumption) | exact rdII (by assumption) (by assumption) | exact Inn.rd (by assumption) (by omega)) (by first | assumption | exact Rd.up (by assumption) hB | exact Osl.rd (by assumption) | exact Osn.rdR (by assumption) | exact NL.rd (by assumption) | exact rdII (by assumption) (by assumption) | exact Inn.rd (by assumption) (by omega)) (by first | assumption | exact Rd.up (by assumption) hB | exact Osl.rd (by assumption) | exact Osn.rdR (by assumption) | exact NL.rd (by assumption) | exact rdII (by assumption) (by assumption) | exact Inn.rd (by assumption) (by omega)) (by first | assumption | omega | (simp only [marks_len, marksB_len, marksR_len, sumL_marksS]; omega))) (fun w4 hXw4 => ?_))
  have hB := hB.trans hXw4
  have hb1 := hb1.up hXw4
  have hb2 := hb2.up hXw4
  refine WL.pure rfl rfl rfl (PV.assign rfl) ?_
  refine WL.nilS ?_
  refine CW.seq ?_
  refine CW.seq ?_
  refine CW.reg ?_
  refine WL.pure rfl rfl rfl (PV.move rfl) ?_
  refine WL.pure rfl rfl rfl (PV.lss rfl rfl) ?_
  refine WL.nilS ?_
  refine CW.cond rfl (fun hc2 => ?_) (fun hc2 => ?_)
  · skip
    try simp only [decide_eq_true_eq, decide_eq_false_iff_not, Bool.not_eq_true', Bool.not_eq_false', Bool.not_eq_eq_eq_not, Bool.not_true, Bool.not_false, Int.not_lt, Int.not_le, Classical.not_not, beq_iff_eq, beq_eq_false_iff_ne] at hc2
    refine CW.seq ?_
    refine CW.reg ?_
    refine WL.pure rfl rfl rfl (PV.assign rfl) ?_
    refine WL.nilS ?_
    refine CW.ret ?_
    refine RQ.then ?_
    refine RQ.r1 rfl ?_
    refine ⟨?_, hB⟩
    first | rfl | (exfalso; revert hc2; simp; done) | (exfalso; revert hc2; simp; omega) | (exfalso; omega) | first | rfl | exact bT (by omega) | exact bF (by omega) | exact bD (by omega) | exact iE (by omega) | (simp_all; done) | (simp_all; omega) | (simp_all; intros; omega)
  try simp only [decide_eq_true_eq, decide_eq_false_iff_not, Bool.not_eq_true', Bool.not_eq_false', Bool.not_eq_eq_eq_not, Bool.not_true, Bool.not_false, Int.not_lt, Int.not_le, Classical.not_not, beq_iff_eq, beq_eq_false_iff_ne] at hc2
  refine CW.skipS ?_
  refine CW.seq ?_
  refine CW.draw T.mixed (by kernel_rfl) (fun _ _ _ _ _ h => h) (fun w8 w9 => Upd none w8 w9) 12 (.take 0 (.take 2 (.take 4 (.take 5 (.must 1 (.must 3 (.must 6 (.take 7 (.take 8 (.take 9 (.take 10 (.take 11 .done)))))))))))) (by kernel_rfl) (fun w5 hXd => ?_)
  have hB := hB.trans hXd
  have hb1 := hb1.up hXd
  have hb2 := hb2.up hXd
  have hBr := hB
  have hS : Upd none w5 w5 := Ext.toUpd (Ext.refl _)
  refine HP.take rfl rfl rfl rfl hS (fun wS hS1 => (by first | exact PV.loadA T.ag54 rfl (by first | exact Cells.up (by assumption) (hBr.trans hS1) | exact Bx.cells (Bx.updD (by assumption) hS1 (Dj.nlR _)) | exact Cells.upd (by assumption) hS1 (by simp)) (Ext.refl _) rfl | exact PV.loadP (ds := [_, _, _, _]) T.ag54 rfl (by first | exact Cells.up (by assumption) (hBr.trans hS1) | exact Bx.cells (Bx.updD (by assumption) hS1 (Dj.nlR _)) | exact Cells.upd (by assumption) hS1 (by simp)) (Ext.refl _) rfl rfl)) ?_
  refine HP.take rfl rfl rfl rfl hS (fun wS hS1 => (by first | exact PV.loadA T.ag54 rfl (by first | exact Cells.up (by assumption) (hBr.trans hS1) | exact Bx.cells (Bx.updD (by assumption) hS1 (Dj.nlR _)) | exact Cells.upd (by assumption) hS1 (by simp)) (Ext.refl _) rfl | exact PV.loadP (ds := [_, _, _, _]) T.ag54 rfl (by first | exact Cells.up (by assumption) (hBr.trans hS1) | exact Bx.cells (Bx.updD (by assumption) hS1 (Dj.nlR _)) | exact Cells.upd (by assumption) hS1 (by simp)) (Ext.refl _) rfl rfl)) ?_
  refine HP.take rfl rfl rfl rfl hS (fun wS hS1 => PV.move rfl) ?_
  refine HP.take rfl rfl rfl rfl hS (fun wS hS1 => PV.move rfl) ?_
  refine HP.must rfl rfl (OpK.call rfl T.cf37 rfl (c_laws_toChange (by first | assumption | exact Rd.up (by assumption) hB | exact Osl.rd (by assumption) | exact Osn.rdR (by assumption) | exact NL.rd (by assumption) | exact rdII (by assumption) (by assumption) | exact Inn.rd (by assumption) (by omega)) (by first | assumption | exact Rd.up (by assumption) hB | exact Osl.rd (by assumption) | exact Osn.rdR (by assumption) | exact NL.rd (by assumption) | exact rdII (by assumption) (by assumption) | exact Inn.rd (by assumption) (by omega)) (by first | assumption | exact Rd.up (by assumption) hB | exact Osl.rd (by assumption) | exact Osn.rdR (by assumption) | exact NL.rd (by assumption) | exact rdII (by assumption) (by assumption) | exact Inn.rd (by assumption) (by omega)) (by first | assumption | exact Rd.up (by assumption) hB | exact Osl.rd (by assumption) | exact Osn.rdR (by assumption) | exact NL.rd (by assumption) | exact rdII (by assumption) (by assumption) | exact Inn.rd (by assumption) (by omega)) (by first | assumption | omega | (simp only [marks_len, marksB_len, marksR_len, sumL_marksS]; omega)) (by first | assumption | omega | (simp only [marks_len, marksB_len, marksR_len, sumL_marksS]; omega)) (by first | assumption | omega | (simp only [marks_len, marksB_len, marksR_len, sumL_marksS]; omega)) (by first | assumption | omega | (simp only [marks_len, marksB_len, marksR_len, sumL_marksS]; omega))) (fun rv1 w6 hR => ?_))
  obtain ⟨hXw6, v3, og3, v4, og4, v5, og5, v6, og6, rfl, ho3, hq3, ho4, hq4, ho5, hq5, ho6, hq6, hd3_4, hd3_5, hd3_6, hd4_5, hd4_6, hd5_6⟩ := hR
  have hl3 := Lo.up hq3 hB
  have hv3 := Lo.up hq3 hS
  have hd1_3 := Dj.lo hb1.ltO hq3
  have hd2_3 := Dj.lo hb2.ltO hq3
  have hl4 := Lo.up hq4 hB
  have hv4 := Lo.up hq4 hS
  have hd1_4 := Dj.lo hb1.ltO hq4
  have hd2_4 := Dj.lo hb2.ltO hq4
  have hl5 := Lo.up hq5 hB
  have hv5 := Lo.up hq5 hS
  have hd1_5 := Dj.lo hb1.ltO hq5
  have hd2_5 := Dj.lo hb2.ltO hq5
  have hl6 := Lo.up hq6 hB
  have hv6 := Lo.up hq6 hS
  have hd1_6 := Dj.lo hb1.ltO hq6
  have hd2_6 := Dj.lo hb2.ltO hq6
  refine ⟨Upd.trans hS hXw6, ?_⟩
  have hS := Upd.trans hS hXw6
  have hB := hB.trans hXw6
  have hb1 := hb1.up hXw6
  have hb2 := hb2.up hXw6
  refine HP.must rfl rfl (OpK.call rfl T.cf37 rfl (c_laws_toChange (by first | assumption | exact Rd.up (by assumption) hB | exact Osl.rd (by assumption) | exact Osn.rdR (by assumption) | exact NL.rd (by assumption) | exact rdII (by assumption) (by assumption) | exact Inn.rd (by assumption) (by omega)) (by first | assumption | exact Rd.up (by assumption) hB | exact Osl.rd (by assumption) | exact Osn.rdR (by assumption) | exact NL.rd (by assumption) | exact rdII (by assumption) (by assumption) | exact Inn.rd (by assumption) (by omega)) (by first | assumption | exact Rd.up (by assumption) hB | exact Osl.rd (by assumption) | exact Osn.rdR (by assumption) | exact NL.rd (by assumption) | exact rdII (by assumption) (by assumption) | exact Inn.rd (by assumption) (by omega)) (by first | assumption | exact Rd.up (by assumption) hB | exact Osl.rd (by assumption) | exact Osn.rdR (by assumption) | exact NL.rd (by assumption) | exact rdII (by assumption) (by assumption) | exact Inn.rd (by assumption) (by omega)) (by first | assumption | omega | (simp only [marks_len, marksB_len, marksR_len, sumL_marksS]; omega)) (by first | assumption | omega | (simp only [marks_len, marksB_len, marksR_len, sumL_marksS]; omega)) (by first | assumption | omega | (simp only [marks_len, marksB_len, marksR_len, sumL_marksS]; omega)) (by first | assumption | omega | (simp only [marks_len, marksB_len, marksR_len, sumL_marksS]; omega))) (fun rv2 w7 hR => ?_))
  obtain ⟨hXw7, v7, og7, v8, og8, v9, og9, v10, og10, rfl, ho7, hq7, ho8, hq8, ho9, hq9, ho10, hq10, hd7_8, hd7_9, hd7_10, hd8_9, hd8_10, hd9_10⟩ := hR
  have hl7 := Lo.up hq7 hB
  have hv7 := Lo.up hq7 hS
  have hd1_7 := Dj.lo hb1.ltO hq7
  have hd2_7 := Dj.lo hb2.ltO hq7
  have hd3_7 := Dj.lo ho3.ltO hq7
  have hd4_7 := Dj.lo ho4.ltO hq7
  have hd5_7 := Dj.lo ho5.ltO hq7
  have hd6_7 := Dj.lo ho6.ltO hq7
  have hl8 := Lo.up hq8 hB
  have hv8 := Lo.up hq8 hS
  have hd1_8 := Dj.lo hb1.ltO hq8
  have hd2_8 := Dj.lo hb2.ltO hq8
  have hd3_8 := Dj.lo ho3.ltO hq8
  have hd4_8 := Dj.lo ho4.ltO hq8
  have hd5_8 := Dj.lo ho5.ltO hq8
  have hd6_8 := Dj.lo ho6.ltO hq8
  have hl9 := Lo.up hq9 hB
  have hv9 := Lo.up hq9 hS
  have hd1_9 := Dj.lo hb1.ltO hq9
  have hd2_9 := Dj.lo hb2.ltO hq9
  have hd3_9 := Dj.lo ho3.ltO hq9
  have hd4_9 := Dj.lo ho4.ltO hq9
  have hd5_9 := Dj.lo ho5.ltO hq9
  have hd6_9 := Dj.lo ho6.ltO hq9
  have hl10 := Lo.up hq10 hB
  have hv10 := Lo.up hq10 hS
  have hd1_10 := Dj.lo hb1.ltO hq10
  have hd2_10 := Dj.lo hb2.ltO hq10
  have hd3_10 := Dj.lo ho3.ltO hq10
  have hd4_10 := Dj.lo ho4.ltO hq10
  have hd5_10 := Dj.lo ho5.ltO hq10
  have hd6_10 := Dj.lo ho6.ltO hq10
  refine ⟨Upd.trans hS hXw7, ?_⟩
  have hS := Upd.trans hS hXw7
  have hB := hB.trans hXw7
  have hb1 := hb1.up hXw7
  have hb2 := hb2.up hXw7
  have ho3 := ho3.up hXw7
  have ho4 := ho4.up hXw7
  have ho5 := ho5.up hXw7
  have ho6 := ho6.up hXw7
  refine HP.must rfl rfl (OpK.call rfl T.cf42 rfl (c_spec_OrderWord (c := (xa0, xa1, xa2, xa3)) (c2 := (xb0, xb1, xb2, xb3)) (by first | assumption | exact Rd.up (by assumption) hB | exact Osl.rd (by assumption) | exact Osn.rdR (by assumption) | exact NL.rd (by assumption) | exact rdII (by assumption) (by assumption) | exact Inn.rd (by assumption) (by omega)) (by first | assumption | exact Rd.up (by assumption) hB | exact Osl.rd (by assumption) | exact Osn.rdR (by assumption) | exact NL.rd (by assumption) | exact rdII (by assumption) (by assumption) | exact Inn.rd (by assumption) (by omega)) (by first | assumption | exact Rd.up (by assumption) hB | exact Osl.rd (by assumption) | exact Osn.rdR (by assumption) | exact NL.rd (by assumption) | exact rdII (by assumption) (by assumption) | exact Inn.rd (by assumption) (by omega)) (by first | assumption | exact Rd.up (by assumption) hB | exact Osl.rd (by assumption) | exact Osn.rdR (by assumption) | exact NL.rd (by assumption) | exact rdII (by assumption) (by assumption) | exact Inn.rd (by assumption) (by omega)) (by first | assumption | exact Rd.up (by assumption) hB | exact Osl.rd (by assumption) | exact Osn.rdR (by assumption) | exact NL.rd (by assumption) | exact rdII (by assumption) (by assumption) | exact Inn.rd (by assumption) (by omega)) (by first | assumption | exact Rd.up (by assumption) hB | exact Osl.rd (by assumption) | exact Osn.rdR (by assumption) | exact NL.rd (by assumption) | exact rdII (by assumption) (by assumption) | exact Inn.rd (by assumption) (by omega)) (by first | assumption | exact Rd.up (by assumption) hB | exact Osl.rd (by assumption) | exact Osn.rdR (by assumption) | exact NL.rd (by assumption) | exact rdII (by assumption) (by assumption) | exact Inn.rd (by assumption) (by omega)) (by first | assumption | exact Rd.up (by assumption) hB | exact Osl.rd (by assumption) | exact Osn.rdR (by assumption) | exact NL.rd (by assumption) | exact rdII (by assumption) (by assumption) | exact Inn.rd (by assumption) (by omega))) (fun rv3 w8 hR => ?_))
  obtain ⟨hXw8, v11, og11, rfl, ho11, hq11⟩ := hR
  have hl11 := Lo.up hq11 hB
  have hv11 := Lo.up hq11 hS
  have hd1_11 := Dj.lo hb1.ltO hq11
  have hd2_11 := Dj.lo hb2.ltO hq11
  have hd3_11 := Dj.lo ho3.ltO hq11
  have hd4_11 := Dj.lo ho4.ltO hq11
  have hd5_11 := Dj.lo ho5.ltO hq11
  have hd6_11 := Dj.lo ho6.ltO hq11
  have hd7_11 := Dj.lo ho7.ltO hq11
  have hd8_11 := Dj.lo ho8.ltO hq11
  have hd9_11 := Dj.lo ho9.ltO hq11
  have hd10_11 := Dj.lo ho10.ltO hq11
  refine ⟨Upd.trans hS hXw8, ?_⟩
  have hS := Upd.trans hS hXw8
  have hB := hB.trans hXw8
  have hb1 := hb1.up hXw8
  have hb2 := hb2.up hXw8
  have ho3 := ho3.up hXw8
  have ho4 := ho4.up hXw8
  have ho5 := ho5.up hXw8
  have ho6 := ho6.up hXw8
  have ho7 := ho7.up hXw8
  have ho8 := ho8.up hXw8
  have ho9 := ho9.up hXw8
  have ho10 := ho10.up hXw8
  refine HP.take rfl rfl rfl rfl hS (fun wS hS1 => PV.move rfl) ?_
  refine HP.take rfl rfl rfl rfl hS (fun wS hS1 => PV.extract rfl rfl) ?_
  refine HP.take rfl rfl rfl rfl hS (fun wS hS1 => PV.extract rfl rfl) ?_
  refine HP.take rfl rfl rfl rfl hS (fun wS hS1 => PV.assign rfl) ?_
  refine HP.take rfl rfl rfl rfl hS (fun wS hS1 => PV.assign rfl) ?_
  refine HP.doneS ?_
  refine CW.seq ?_
  refine CW.reg ?_
  refine WL.pure rfl rfl rfl ((by first | exact PV.loadA T.ag54 rfl (by first | exact Cells.up (by assumption) hB | exact Bx.cells (by assumption) | assumption) (Ext.refl _) rfl | exact PV.loadP (ds := [_, _, _, _]) T.ag54 rfl (by first | exact Cells.up (by assumption) hB | exact Bx.cells (by assumption) | assumption) (Ext.refl _) rfl rfl)) ?_
  refine WL.op rfl (OpK.call rfl T.cf37 rfl (c_laws_toChange (by first | assumption | exact Rd.up (by assumption) hB | exact Osl.rd (by assumption) | exact Osn.rdR (by assumption) | exact NL.rd (by assumption) | exact rdII (by assumption) (by assumption) | exact Inn.rd (by assumption) (by omega)) (by first | assumption | exact Rd.up (by assumption) hB | exact Osl.rd (by assumption) | exact Osn.rdR (by assumption) | exact NL.rd (by assumption) | exact rdII (by assumption) (by assumption) | exact Inn.rd (by assumption) (by omega)) (by first | assumption | exact Rd.up (by assumption) hB | exact Osl.rd (by assumption) | exact Osn.rdR (by assumption) | exact NL.rd (by assumption) | exact rdII (by assumption) (by assumption) | exact Inn.rd (by assumption) (by omega)) (by first | assumption | exact Rd.up (by assumption) hB | exact Osl.rd (by assumption) | exact Osn.rdR (by assumption) | exact NL.rd (by assumption) | exact rdII (by assumption) (by assumption) | exact Inn.rd (by assumption) (by omega)) (by first | assumption | omega | (simp only [marks_len, marksB_len, marksR_len, sumL_marksS]; omega)) (by first | assumption | omega | (simp only [marks_len, marksB_len, marksR_len, sumL_marksS]; omega)) (by first | assumption | omega | (simp only [marks_len, marksB_len, marksR_len, sumL_marksS]; omega)) (by first | assumption | omega | (simp only [marks_len, marksB_len, marksR_len, sumL_marksS]; omega))) (fun rv4 w9 hR => ?_))
  obtain ⟨hXw9, v12, og12, v13, og13, v14, og14, v15, og15, rfl, ho12, hq12, ho13, hq13, ho14, hq14, ho15, hq15, hd12_13, hd12_14, hd12_15, hd13_14, hd13_15, hd14_15⟩ := hR
  have hl12 := Lo.up hq12 hB
  have hd1_12 := Dj.lo hb1.ltO hq12
  have hd2_12 := Dj.lo hb2.ltO hq12
  have hd3_12 := Dj.lo ho3.ltO hq12
  have hd4_12 := Dj.lo ho4.ltO hq12
  have hd5_12 := Dj.lo ho5.ltO hq12
  have hd6_12 := Dj.lo ho6.ltO hq12
  have hd7_12 := Dj.lo ho7.ltO hq12
  have hd8_12 := Dj.lo ho8.ltO hq12
  have hd9_12 := Dj.lo ho9.ltO hq12
  have hd10_12 := Dj.lo ho10.ltO hq12
  have hd11_12 := Dj.lo ho11.ltO hq12
  have hl13 := Lo.up hq13 hB
  have hd1_13 := Dj.lo hb1.ltO hq13
  have hd2_13 := Dj.lo hb2.ltO hq13
  have hd3_13 := Dj.lo ho3.ltO hq13
  have hd4_13 := Dj.lo ho4.ltO hq13
  have hd5_13 := Dj.lo ho5.ltO hq13
  have hd6_13 := Dj.lo ho6.ltO hq13
  have hd7_13 := Dj.lo ho7.ltO hq13
  have hd8_13 := Dj.lo ho8.ltO hq13
  have hd9_13 := Dj.lo ho9.ltO hq13
  have hd10_13 := Dj.lo ho10.ltO hq13
  have hd11_13 := Dj.lo ho11.ltO hq13
  have hl14 := Lo.up hq14 hB
  have hd1_14 := Dj.lo hb1.ltO hq14
  have hd2_14 := Dj.lo hb2.ltO hq14
  have hd3_14 := Dj.lo ho3.ltO hq14
  have hd4_14 := Dj.lo ho4.ltO hq14
  have hd5_14 := Dj.lo ho5.ltO hq14
  have hd6_14 := Dj.lo ho6.ltO hq14
  have hd7_14 := Dj.lo ho7.ltO hq14
  have hd8_14 := Dj.lo ho8.ltO hq14
  have hd9_14 := Dj.lo ho9.ltO hq14
  have hd10_14 := Dj.lo ho10.ltO hq14
  have hd11_14 := Dj.lo ho11.ltO hq14
  have hl15 := Lo.up hq15 hB
  have hd1_15 := Dj.lo hb1.ltO hq15
  have hd2_15 := Dj.lo hb2.ltO hq15
  have hd3_15 := Dj.lo ho3.ltO hq15
  have hd4_15 := Dj.lo ho4.ltO hq15
  have hd5_15 := Dj.lo ho5.ltO hq15
  have hd6_15 := Dj.lo ho6.ltO hq15
  have hd7_15 := Dj.lo ho7.ltO hq15
  have hd8_15 := Dj.lo ho8.ltO hq15
  have hd9_15 := Dj.lo ho9.ltO hq15
  have hd10_15 := Dj.lo ho10.ltO hq15
  have hd11_15 := Dj.lo ho11.ltO hq15
  have hB := hB.trans hXw9
  have hb1 := hb1.up hXw9
  have hb2 := hb2.up hXw9
  have ho3 := ho3.up hXw9
  have ho4 := ho4.up hXw9
  have ho5 := ho5.up hXw9
  have ho6 := ho6.up hXw9
  have ho7 := ho7.up hXw9
  have ho8 := ho8.up hXw9
  have ho9 := ho9.up hXw9
  have ho10 := ho10.up hXw9
  have ho11 := ho11.up hXw9
  refine WL.op rfl (OpK.alloc rfl T.zv58 rfl (fun b16 w10 hXw10 hb16 hge16 => ?_))
  have hl16 := Lo.new hB hge16
  have hd1_16 := Dj.new hb1.ltO hge16
  have hd2_16 := Dj.new hb2.ltO hge16
  have hd3_16 := Dj.new ho3.ltO hge16
  have hd4_16 := Dj.new ho4.ltO hge16
  have hd5_16 := Dj.new ho5.ltO hge16
  have hd6_16 := Dj.new ho6.ltO hge16
  have hd7_16 := Dj.new ho7.ltO hge16
  have hd8_16 := Dj.new ho8.ltO hge16
  have hd9_16 := Dj.new ho9.ltO hge16
  have hd10_16 := Dj.new ho10.ltO hge16
  have hd11_16 := Dj.new ho11.ltO hge16
  have hd12_16 := Dj.new ho12.ltO hge16
  have hd13_16 := Dj.new ho13.ltO hge16
  have hd14_16 := Dj.new ho14.ltO hge16
  have hd15_16 := Dj.new ho15.ltO hge16
  have hB := hB.trans hXw10
  have hb1 := hb1.up hXw10
  have hb2 := hb2.up hXw10
  have ho3 := ho3.up hXw10
  have ho4 := ho4.up hXw10
  have ho5 := ho5.up hXw10
  have ho6 := ho6.up hXw10
  have ho7 := ho7.up hXw10
  have ho8 := ho8.up hXw10
  have ho9 := ho9.up hXw10
  have ho10 := ho10.up hXw10
  have ho11 := ho11.up hXw10
  have ho12 := ho12.up hXw10
  have ho13 := ho13.up hXw10
  have ho14 := ho14.up hXw10
  have ho15 := ho15.up hXw10
  refine WL.op rfl (OpK.storeA T.sz58 rfl rfl rfl rfl (by simp [Value.oneCell'] <;> first | done | (repeat' apply And.intro) <;> first | rfl | exact Inn.one1 (by assumption) (by omega) | exact Osl.oneCell (by assumption) | exact Osn.oneCell (by assumption) | exact Rd.oneCell (by assumption) | exact Rd.oneCell (NL.rd (by assumption)) | assumption) hb16 (fun w11 hXw11 hb16 => ?_))
  have hB := hB.updL hXw11 hl16
  have hb1 := hb1.updD hXw11 hd1_16
  have hb2 := hb2.updD hXw11 hd2_16
  have ho3 := ho3.updD hXw11 hd3_16
  have ho4 := ho4.updD hXw11 hd4_16
  have ho5 := ho5.updD hXw11 hd5_16
  have ho6 := ho6.updD hXw11 hd6_16
  have ho7 := ho7.updD hXw11 hd7_16
  have ho8 := ho8.updD hXw11 hd8_16
  have ho9 := ho9.updD hXw11 hd9_16
  have ho10 := ho10.updD hXw11 hd10_16
  have ho11 := ho11.updD hXw11 hd11_16
  have ho12 := ho12.updD hXw11 hd12_16
  have ho13 := ho13.updD hXw11 hd13_16
  have ho14 := ho14.updD hXw11 hd14_16
  have ho15 := ho15.updD hXw11 hd15_16
  refine WL.nilS ?_
  refine CW.seq ?_
  refine CW.reg ?_
  refine WL.pure rfl rfl rfl ((by first | exact PV.loadA T.ag54 rfl (by first | exact Cells.up (by assumption) hB | exact Bx.cells (by assumption) | assumption) (Ext.refl _) rfl | exact PV.loadP (ds := [_, _, _, _]) T.ag54 rfl (by first | exact Cells.up (by assumption) hB | exact Bx.cells (by assumption) | assumption) (Ext.refl _) rfl rfl)) ?_
  refine WL.op rfl (OpK.call rfl T.cf37 rfl (c_laws_toChange (by first | assumption | exact Rd.up (by assumption) hB | exact Osl.rd (by assumption) | exact Osn.rdR (by assumption) | exact NL.rd (by assumption) | exact rdII (by assumption) (by assumption) | exact Inn.rd (by assumption) (by omega)) (by first | assumption | exact Rd.up (by assumption) hB | exact Osl.rd (by assumption) | exact Osn.rdR (by assumption) | exact NL.rd (by assumption) | exact rdII (by assumption) (by assumption) | exact Inn.rd (by assumption) (by omega)) (by first | assumption | exact Rd.up (by assumption) hB | exact Osl.rd (by assumption) | exact Osn.rdR (by assumption) | exact NL.rd (by assumption) | exact rdII (by assumption) (by assumption) | exact Inn.rd (by assumption) (by omega)) (by first | assumption | exact Rd.up (by assumption) hB | exact Osl.rd (by assumption) | exact Osn.rdR (by assumption) | exact NL.rd (by assumption) | exact rdII (by assumption) (by assumption) | exact Inn.rd (by assumption) (by omega)) (by first | assumption | omega | (simp only [marks_len, marksB_len, marksR_len, sumL_marksS]; omega)) (by first | assumption | omega | (simp only [marks_len, marksB_len, marksR_len, sumL_marksS]; omega)) (by first | assumption | omega | (simp only [marks_len, marksB_len, marksR_len, sumL_marksS]; omega)) (by first | assumption | omega | (simp only [marks_len, marksB_len, marksR_len, sumL_marksS]; omega))) (fun rv5 w12 hR => ?_))
  obtain ⟨hXw12, v17, og17, v18, og18, v19, og19, v20, og20, rfl, ho17, hq17, ho18, hq18, ho19, hq19, ho20, hq20, hd17_18, hd17_19, hd17_20, hd18_19, hd18_20, hd19_20⟩ := hR
  have hl17 := Lo.up hq17 hB
  have hd1_17 := Dj.lo hb1.ltO hq17
  have hd2_17 := Dj.lo hb2.ltO hq17
  have hd3_17 := Dj.lo ho3.ltO hq17
  have hd4_17 := Dj.lo ho4.ltO hq17
  have hd5_17 := Dj.lo ho5.ltO hq17
  have hd6_17 := Dj.lo ho6.ltO hq17
  have hd7_17 := Dj.lo ho7.ltO hq17
  have hd8_17 := Dj.lo ho8.ltO hq17
  have hd9_17 := Dj.lo ho9.ltO hq17
  have hd10_17 := Dj.lo ho10.ltO hq17
  have hd11_17 := Dj.lo ho11.ltO hq17
  have hd12_17 := Dj.lo ho12.ltO hq17
  have hd13_17 := Dj.lo ho13.ltO hq17
  have hd14_17 := Dj.lo ho14.ltO hq17
  have hd15_17 := Dj.lo ho15.ltO hq17
  have hd16_17 := Dj.lo hb16.ltO hq17
  have hl18 := Lo.up hq18 hB
  have hd1_18 := Dj.lo hb1.ltO hq18
  have hd2_18 := Dj.lo hb2.ltO hq18
  have hd3_18 := Dj.lo ho3.ltO hq18
  have hd4_18 := Dj.lo ho4.ltO hq18
  have hd5_18 := Dj.lo ho5.ltO hq18
  have hd6_18 := Dj.lo ho6.ltO hq18
  have hd7_18 := Dj.lo ho7.ltO hq18
  have hd8_18 := Dj.lo ho8.ltO hq18
  have hd9_18 := Dj.lo ho9.ltO hq18
  have hd10_18 := Dj.lo ho10.ltO hq18
  have hd11_18 := Dj.lo ho11.ltO hq18
  have hd12_18 := Dj.lo ho12.ltO hq18
  have hd13_18 := Dj.lo ho13.ltO hq18
  have hd14_18 := Dj.lo ho14.ltO hq18
  have hd15_18 := Dj.lo ho15.ltO hq18
  have hd16_18 := Dj.lo hb16.ltO hq18
  have hl19 := Lo.up hq19 hB
  have hd1_19 := Dj.lo hb1.ltO hq19
  have hd2_19 := Dj.lo hb2.ltO hq19
  have hd3_19 := Dj.lo ho3.ltO hq19
  have hd4_19 := Dj.lo ho4.ltO hq19
  have hd5_19 := Dj.lo ho5.ltO hq19
  have hd6_19 := Dj.lo ho6.ltO hq19
  have hd7_19 := Dj.lo ho7.ltO hq19
  have hd8_19 := Dj.lo ho8.ltO hq19
  have hd9_19 := Dj.lo ho9.ltO hq19
  have hd10_19 := Dj.lo ho10.ltO hq19
  have hd11_19 := Dj.lo ho11.ltO hq19
  have hd12_19 := Dj.lo ho12.ltO hq19
  have hd13_19 := Dj.lo ho13.ltO hq19
  have hd14_19 := Dj.lo ho14.ltO hq19
  have hd15_19 := Dj.lo ho15.ltO hq19
  have hd16_19 := Dj.lo hb16.ltO hq19
  have hl20 := Lo.up hq20 hB
  have hd1_20 := Dj.lo hb1.ltO hq20
  have hd2_20 := Dj.lo hb2.ltO hq20
  have hd3_20 := Dj.lo ho3.ltO hq20
  have hd4_20 := Dj.lo ho4.ltO hq20
  have hd5_20 := Dj.lo ho5.ltO hq20
  have hd6_20 := Dj.lo ho6.ltO hq20
  have hd7_20 := Dj.lo ho7.ltO hq20
  have hd8_20 := Dj.lo ho8.ltO hq20
  have hd9_20 := Dj.lo ho9.ltO hq20
  have hd10_20 := Dj.lo ho10.ltO hq20
  have hd11_20 := Dj.lo ho11.ltO hq20
  have hd12_20 := Dj.lo ho12.ltO hq20
  have hd13_20 := Dj.lo ho13.ltO hq20
  have hd14_20 := Dj.lo ho14.ltO hq20
  have hd15_20 := Dj.lo ho15.ltO hq20
  have hd16_20 := Dj.lo hb16.ltO hq20
  have hB := hB.trans hXw12
  have hb1 := hb1.up hXw12
  have hb2 := hb2.up hXw12
  have ho3 := ho3.up hXw12
  have ho4 := ho4.up hXw12
  have ho5 := ho5.up hXw12
  have ho6 := ho6.up hXw12
  have ho7 := ho7.up hXw12
  have ho8 := ho8.up hXw12
  have ho9 := ho9.up hXw12
  have ho10 := ho10.up hXw12
  have ho11 := ho11.up hXw12
  have ho12 := ho12.up hXw12
  have ho13 := ho13.up hXw12
  have ho14 := ho14.up hXw12
  have ho15 := ho15.up hXw12
  have hb16 := hb16.up hXw12
  refine WL.op rfl (OpK.alloc rfl T.zv58 rfl (fun b21 w13 hXw13 hb21 hge21 => ?_))
  have hl21 := Lo.new hB hge21
  have hd1_21 := Dj.new hb1.ltO hge21
  have hd2_21 := Dj.new hb2.ltO hge21
  have hd3_21 := Dj.new ho3.ltO hge21
  have hd4_21 := Dj.new ho4.ltO hge21
  have hd5_21 := Dj.new ho5.ltO hge21
  have hd6_21 := Dj.new ho6.ltO hge21
  have hd7_21 := Dj.new ho7.ltO hge21
  have hd8_21 := Dj.new ho8.ltO hge21
  have hd9_21 := Dj.new ho9.ltO hge21
  have hd10_21 := Dj.new ho10.ltO hge21
  have hd11_21 := Dj.new ho11.ltO hge21
  have hd12_21 := Dj.new ho12.ltO hge21
  have hd13_21 := Dj.new ho13.ltO hge21
  have hd14_21 := Dj.new ho14.ltO hge21
  have hd15_21 := Dj.new ho15.ltO hge21
  have hd16_21 := Dj.new hb16.ltO hge21
  have hd17_21 := Dj.new ho17.ltO hge21
  have hd18_21 := Dj.new ho18.ltO hge21
  have hd19_21 := Dj.new ho19.ltO hge21
  have hd20_21 := Dj.new ho20.ltO hge21
  have hB := hB.trans hXw13
  have hb1 := hb1.up hXw13
  have hb2 := hb2.up hXw13
  have ho3 := ho3.up hXw13
  have ho4 := ho4.up hXw13
  have ho5 := ho5.up hXw13
  have ho6 := ho6.up hXw13
  have ho7 := ho7.up hXw13
  have ho8 := ho8.up hXw13
  have ho9 := ho9.up hXw13
  have ho10 := ho10.up hXw13
  have ho11 := ho11.up hXw13
  have ho12 := ho12.up hXw13
  have ho13 := ho13.up hXw13
  have ho14 := ho14.up hXw13
  have ho15 := ho15.up hXw13
  have hb16 := hb16.up hXw13
  have ho17 := ho17.up hXw13
  have ho18 := ho18.up hXw13
  have ho19 := ho19.up hXw13
  have ho20 := ho20.up hXw13
  refine WL.op rfl (OpK.storeA T.sz58 rfl rfl rfl rfl (by simp [Value.oneCell'] <;> first | done | (repeat' apply And.intro) <;> first | rfl | exact Inn.one1 (by assumption) (by omega) | exact Osl.oneCell (by assumption) | exact Osn.oneCell (by assumption) | exact Rd.oneCell (by assumption) | exact Rd.oneCell (NL.rd (by assumption)) | assumption) hb21 (fun w14 hXw14 hb21 => ?_))
  have hB := hB.updL hXw14 hl21
  have hb1 := hb1.updD hXw14 hd1_21
  have hb2 := hb2.updD hXw14 hd2_21
  have ho3 := ho3.updD hXw14 hd3_21
  have ho4 := ho4.updD hXw14 hd4_21
  have ho5 := ho5.updD hXw14 hd5_21
  have ho6 := ho6.updD hXw14 hd6_21
  have ho7 := ho7.updD hXw14 hd7_21
  have ho8 := ho8.updD hXw14 hd8_21
  have ho9 := ho9.updD hXw14 hd9_21
  have ho10 := ho10.updD hXw14 hd10_21
  have ho11 := ho11.updD hXw14 hd11_21
  have ho12 := ho12.updD hXw14 hd12_21
  have ho13 := ho13.updD hXw14 hd13_21
  have ho14 := ho14.updD hXw14 hd14_21
  have ho15 := ho15.updD hXw14 hd15_21
  have hb16 := hb16.updD hXw14 hd16_21
  have ho17 := ho17.updD hXw14 hd17_21
  have ho18 := ho18.updD hXw14 hd18_21
  have ho19 := ho19.updD hXw14 hd19_21
  have ho20 := ho20.updD hXw14 hd20_21
  refine WL.nilS ?_
  refine CW.seq ?_
  refine CW.reg ?_
  refine WL.pure rfl rfl rfl ((by first | exact PV.loadA T.ag58 rfl (by first | exact Cells.up (by assumption) hB | exact Bx.cells (by assumption) | assumption) (Ext.refl _) rfl | exact PV.loadP (ds := [_, _, _, _]) T.ag58 rfl (by first | exact Cells.up (by assumption) hB | exact Bx.cells (by assumption) | assumption) (Ext.refl _) rfl rfl)) ?_
  refine WL.pure rfl rfl rfl ((by first | exact PV.loadA T.ag58 rfl (by first | exact Cells.up (by assumption) hB | exact Bx.cells (by assumption) | assumption) (Ext.refl _) rfl | exact PV.loadP (ds := [_, _, _, _]) T.ag58 rfl (by first | exact Cells.up (by assumption) hB | exact Bx.cells (by assumption) | assumption) (Ext.refl _) rfl rfl)) ?_
  refine WL.pure rfl rfl rfl (PV.move rfl) ?_
  refine WL.pure rfl rfl rfl (PV.move rfl) ?_
  refine WL.op rfl (OpK.call rfl T.cf43 rfl (c_impl_OrderWord (c := (xa0, xa1, xa2, xa3)) (c2 := (xb0, xb1, xb2, xb3)) (by first | assumption | exact Rd.up (by assumption) hB | exact Osl.rd (by assumption) | exact Osn.rdR (by assumption) | exact NL.rd (by assumption) | exact rdII (by assumption) (by assumption) | exact Inn.rd (by assumption) (by omega)) (by first | assumption | exact Rd.up (by assumption) hB | exact Osl.rd (by assumption) | exact Osn.rdR (by assumption) | exact NL.rd (by assumption) | exact rdII (by assumption) (by assumption) | exact Inn.rd (by assumption) (by omega)) (by first | assumption | exact Rd.up (by assumption) hB | exact Osl.rd (by assumption) | exact Osn.rdR (by assumption) | exact NL.rd (by assumption) | exact rdII (by assumption) (by assumption) | exact Inn.rd (by assumption) (by omega)) (by first | assumption | exact Rd.up (by assumption) hB | exact Osl.rd (by assumption) | exact Osn.rdR (by assumption) | exact NL.rd (by assumption) | exact rdII (by assumption) (by assumption) | exact Inn.rd (by assumption) (by omega)) (by first | assumption | exact Rd.up (by assumption) hB | exact Osl.rd (by assumption) | exact Osn.rdR (by assumption) | exact NL.rd (by assumption) | exact rdII (by assumption) (by assumption) | exact Inn.rd (by assumption) (by omega)) (by first | assumption | exact Rd.up (by assumption) hB | exact Osl.rd (by assumption) | exact Osn.rdR (by assumption) | exact NL.rd (by assumption) | exact rdII (by assumption) (by assumption) | exact Inn.rd (by assumption) (by omega)) (by first | assumption | exact Rd.up (by assumption) hB | exact Osl.rd (by assumption) | exact Osn.rdR (by assumption) | exact NL.rd (by assumption) | exact rdII (by assumption) (by assumption) | exact Inn.rd (by assumption) (by omega)) (by first | assumption | exact Rd.up (by assumption) hB | exact Osl.rd (by assumption) | exact Osn.rdR (by assumption) | exact NL.rd (by assumption) | exact rdII (by assumption) (by assumption) | exact Inn.rd (by assumption) (by omega))) (fun rv6 w15 hR => ?_))
  obtain ⟨hXw15, v22, og22, rfl, ho22, hq22⟩ := hR
  have hl22 := Lo.up hq22 hB
  have hd1_22 := Dj.lo hb1.ltO hq22
  have hd2_22 := Dj.lo hb2.ltO hq22
  have hd3_22 := Dj.lo ho3.ltO hq22
  have hd4_22 := Dj.lo ho4.ltO hq22
  have hd5_22 := Dj.lo ho5.ltO hq22
  have hd6_22 := Dj.lo ho6.ltO hq22
  have hd7_22 := Dj.lo ho7.ltO hq22
  have hd8_22 := Dj.lo ho8.ltO hq22
  have hd9_22 := Dj.lo ho9.ltO hq22
  have hd10_22 := Dj.lo ho10.ltO hq22
  have hd11_22 := Dj.lo ho11.ltO hq22
  have hd12_22 := Dj.lo ho12.ltO hq22
  have hd13_22 := Dj.lo ho13.ltO hq22
  have hd14_22 := Dj.lo ho14.ltO hq22
  have hd15_22 := Dj.lo ho15.ltO hq22
  have hd16_22 := Dj.lo hb16.ltO hq22
  have hd17_22 := Dj.lo ho17.ltO hq22
  have hd18_22 := Dj.lo ho18.ltO hq22
  have hd19_22 := Dj.lo ho19.ltO hq22
  have hd20_22 := Dj.lo ho20.ltO hq22
  have hd21_22 := Dj.lo hb21.ltO hq22
  have hB := hB.trans hXw15
  have hb1 := hb1.up hXw15
  have hb2 := hb2.up hXw15
  have ho3 := ho3.up hXw15
  have ho4 := ho4.up hXw15
  have ho5 := ho5.up hXw15
  have ho6 := ho6.up hXw15
  have ho7 := ho7.up hXw15
  have ho8 := ho8.up hXw15
  have ho9 := ho9.up hXw15
  have ho10 := ho10.up hXw15
  have ho11 := ho11.up hXw15
  have ho12 := ho12.up hXw15
  have ho13 := ho13.up hXw15
  have ho14 := ho14.up hXw15
  have ho15 := ho15.up hXw15
  have hb16 := hb16.up hXw15
  have ho17 := ho17.up hXw15
  have ho18 := ho18.up hXw15
  have ho19 := ho19.up hXw15
  have ho20 := ho20.up hXw15
  have hb21 := hb21.up hXw15
  refine WL.pure rfl rfl rfl (PV.move rfl) ?_
  refine WL.pure rfl rfl rfl (PV.extract rfl rfl) ?_
  refine WL.pure rfl rfl rfl (PV.extract rfl rfl) ?_
  refine WL.pure rfl rfl rfl (PV.assign rfl) ?_
  refine WL.pure rfl rfl rfl (PV.assign rfl) ?_
  refine WL.nilS ?_
  refine CW.seq ?_
  refine CW.seq ?_
  refine CW.reg ?_
  refine WL.pure rfl rfl rfl (PV.move rfl) ?_
  refine WL.pure rfl rfl rfl (PV.move rfl) ?_
  refine WL.op rfl (OpK.callR rfl T.cf22 rfl (c_laws_eqInt64S (by first | assumption | exact Rd.up (by assumption) hB | exact Osl.rd (by assumption) | exact Osn.rdR (by assumption) | exact NL.rd (by assumption) | exact rdII (by assumption) (by assumption) | exact Inn.rd (by assumption) (by omega)) (by first | assumption | exact Rd.up (by assumption) hB | exact Osl.rd (by assumption) | exact Osn.rdR (by assumption) | exact NL.rd (by assumption) | exact rdII (by assumption) (by assumption) | exact Inn.rd (by assumption) (by omega))) (fun w16 hXw16 => ?_))
  have hB := hB.trans hXw16
  have hb1 := hb1.up hXw16
  have hb2 := hb2.up hXw16
  have ho3 := ho3.up hXw16
  have ho4 := ho4.up hXw16
  have ho5 := ho5.up hXw16
  have ho6 := ho6.up hXw16
  have ho7 := ho7.up hXw16
  have ho8 := ho8.up hXw16
  have ho9 := ho9.up hXw16
  have ho10 := ho10.up hXw16
  have ho11 := ho11.up hXw16
  have ho12 := ho12.up hXw16
  have ho13 := ho13.up hXw16
  have ho14 := ho14.up hXw16
  have ho15 := ho15.up hXw16
  have hb16 := hb16.up hXw16
  have ho17 := ho17.up hXw16
  have ho18 := ho18.up hXw16
  have ho19 := ho19.up hXw16
  have ho20 := ho20.up hXw16
  have hb21 := hb21.up hXw16
  have ho22 := ho22.up hXw16
  refine WL.pure rfl rfl rfl (PV.not rfl) ?_
  refine WL.pure rfl rfl rfl (PV.move rfl) ?_
  refine WL.split (t := 57) rfl (fun hc3 => ?_) (fun hc3 => ?_)
  · skip
    try simp only [decide_eq_true_eq, decide_eq_false_iff_not, Bool.not_eq_true', Bool.not_eq_false', Bool.not_eq_eq_eq_not, Bool.not_true, Bool.not_false, Int.not_lt, Int.not_le, Classical.not_not, beq_iff_eq, beq_eq_false_iff_ne] at hc3
    refine WL.skip rfl rfl rfl rfl rfl ?_
    refine WL.skip rfl rfl rfl rfl rfl ?_
    refine WL.skip rfl rfl rfl rfl rfl ?_
    refine WL.pure rfl rfl rfl (PV.pickT rfl rfl) ?_
    refine WL.nilS ?_
    refine CW.condT rfl ?_
    refine CW.seq ?_
    refine CW.reg ?_
    refine WL.pure rfl rfl rfl (PV.assign rfl) ?_
    refine WL.nilS ?_
    refine CW.ret ?_
    refine RQ.then ?_
    refine RQ.r1 rfl ?_
    refine ⟨?_, hB⟩
    first | rfl | (exfalso; revert hc3; simp; done) | (exfalso; revert hc3; simp; omega) | (exfalso; omega) | first | rfl | exact bT (by omega) | exact bF (by omega) | exact bD (by omega) | exact iE (by omega) | (simp_all; done) | (simp_all; omega) | (simp_all; intros; omega)
  try simp only [decide_eq_true_eq, decide_eq_false_iff_not, Bool.not_eq_true', Bool.not_eq_false', Bool.not_eq_eq_eq_not, Bool.not_true, Bool.not_false, Int.not_lt, Int.not_le, Classical.not_not, beq_iff_eq, beq_eq_false_iff_ne] at hc3
  refine WL.pureG rfl rfl rfl rfl rfl (PV.move rfl) ?_
  refine WL.pureG rfl rfl rfl rfl rfl (PV.move rfl) ?_
  refine WL.pureG rfl rfl rfl rfl rfl (PV.neqB T.bl4 rfl rfl) ?_
  refine WL.pure rfl rfl rfl (PV.pickF rfl rfl) ?_
  refine WL.nilS ?_
  refine CW.cond rfl (fun hc4 => ?_) (fun hc4 => ?_)
  · skip
    try simp only [decide_eq_true_eq, decide_eq_false_iff_not, Bool.not_eq_true', Bool.not_eq_false', Bool.not_eq_eq_eq_not, Bool.not_true, Bool.not_false, Int.not_lt, Int.not_le, Classical.not_not, beq_iff_eq, beq_eq_false_iff_ne] at hc4
    refine CW.seq ?_
    refine CW.reg ?_
    refine WL.pure rfl rfl rfl (PV.assign rfl) ?_
    refine WL.nilS ?_
    refine CW.ret ?_
    refine RQ.then ?_
    refine RQ.r1 rfl ?_
    refine ⟨?_, hB⟩
    first | rfl | (exfalso; revert hc4; simp; done) | (exfalso; revert hc4; simp; omega) | (exfalso; omega) | first | rfl | exact bT (by omega) | exact bF (by omega) | exact bD (by omega) | exact iE (by omega) | (simp_all; done) | (simp_all; omega) | (simp_all; intros; omega)
  try simp only [decide_eq_true_eq, decide_eq_false_iff_not, Bool.not_eq_true', Bool.not_eq_false', Bool.not_eq_eq_eq_not, Bool.not_true, Bool.not_false, Int.not_lt, Int.not_le, Classical.not_not, beq_iff_eq, beq_eq_false_iff_ne] at hc4
  refine CW.skipS ?_
  refine CW.seq ?_
  refine CW.seq ?_
  refine CW.draw T.mixed (by kernel_rfl) (fun _ _ _ _ _ h => h) (fun w8 w9 => Upd none w8 w9) 5 (.take 0 (.take 1 (.must 2 (.must 3 (.take 4 .done))))) (by kernel_rfl) (fun w17 hXd => ?_)
  have hB := hB.trans hXd
  have hb1 := hb1.up hXd
  have hb2 := hb2.up hXd
  have ho3 := ho3.up hXd
  have ho4 := ho4.up hXd
  have ho5 := ho5.up hXd
  have ho6 := ho6.up hXd
  have ho7 := ho7.up hXd
  have ho8 := ho8.up hXd
  have ho9 := ho9.up hXd
  have ho10 := ho10.up hXd
  have ho11 := ho11.up hXd
  have ho12 := ho12.up hXd
  have ho13 := ho13.up hXd
  have ho14 := ho14.up hXd
  have ho15 := ho15.up hXd
  have hb16 := hb16.up hXd
  have ho17 := ho17.up hXd
  have ho18 := ho18.up hXd
  have ho19 := ho19.up hXd
  have ho20 := ho20.up hXd
  have hb21 := hb21.up hXd
  have ho22 := ho22.up hXd
  have hBr := hB
  have hS : Upd none w17 w17 := Ext.toUpd (Ext.refl _)
  refine HP.take rfl rfl rfl rfl hS (fun wS hS1 => (by first | exact PV.loadA T.ag58 rfl (by first | exact Cells.up (by assumption) (hBr.trans hS1) | exact Bx.cells (Bx.updD (by assumption) hS1 (Dj.nlR _)) | exact Cells.upd (by assumption) hS1 (by simp)) (Ext.refl _) rfl | exact PV.loadP (ds := [_, _, _, _]) T.ag58 rfl (by first | exact Cells.up (by assumption) (hBr.trans hS1) | exact Bx.cells (Bx.updD (by assumption) hS1 (Dj.nlR _)) | exact Cells.upd (by assumption) hS1 (by simp)) (Ext.refl _) rfl rfl)) ?_
  refine HP.take rfl rfl rfl rfl hS (fun wS hS1 => (by first | exact PV.loadA T.ag54 rfl (by first | exact Cells.up (by assumption) (hBr.trans hS1) | exact Bx.cells (Bx.updD (by assumption) hS1 (Dj.nlR _)) | exact Cells.upd (by assumption) hS1 (by simp)) (Ext.refl _) rfl | exact PV.loadP (ds := [_, _, _, _]) T.ag54 rfl (by first | exact Cells.up (by assumption) (hBr.trans hS1) | exact Bx.cells (Bx.updD (by assumption) hS1 (Dj.nlR _)) | exact Cells.upd (by assumption) hS1 (by simp)) (Ext.refl _) rfl rfl)) ?_
  refine HP.must rfl rfl (OpK.call rfl T.cf37 rfl (c_laws_toChange (by first | assumption | exact Rd.up (by assumption) hB | exact Osl.rd (by assumption) | exact Osn.rdR (by assumption) | exact NL.rd (by assumption) | exact rdII (by assumption) (by assumption) | exact Inn.rd (by assumption) (by omega)) (by first | assumption | exact Rd.up (by assumption) hB | exact Osl.rd (by assumption) | exact Osn.rdR (by assumption) | exact NL.rd (by assumption) | exact rdII (by assumption) (by assumption) | exact Inn.rd (by assumption) (by omega)) (by first | assumption | exact Rd.up (by assumption) hB | exact Osl.rd (by assumption) | exact Osn.rdR (by assumption) | exact NL.rd (by assumption) | exact rdII (by assumption) (by assumption) | exact Inn.rd (by assumption) (by omega)) (by first | assumption | exact Rd.up (by assumption) hB | exact Osl.rd (by assumption) | exact Osn.rdR (by assumption) | exact NL.rd (by assumption) | exact rdII (by assumption) (by assumption) | exact Inn.rd (by assumption) (by omega)) (by first | assumption | omega | (simp only [marks_len, marksB_len, marksR_len, sumL_marksS]; omega)) (by first | assumption | omega | (simp only [marks_len, marksB_len, marksR_len, sumL_marksS]; omega)) (by first | assumption | omega | (simp only [marks_len, marksB_len, marksR_len, sumL_marksS]; omega)) (by first | assumption | omega | (simp only [marks_len, marksB_len, marksR_len, sumL_marksS]; omega))) (fun rv7 w18 hR => ?_))
  obtain ⟨hXw18, v23, og23, v24, og24, v25, og25, v26, og26, rfl, ho23, hq23, ho24, hq24, ho25, hq25, ho26, hq26, hd23_24, hd23_25, hd23_26, hd24_25, hd24_26, hd25_26⟩ := hR
  have hl23 := Lo.up hq23 hB
  have hv23 := Lo.up hq23 hS
  have hd1_23 := Dj.lo hb1.ltO hq23
  have hd2_23 := Dj.lo hb2.ltO hq23
  have hd3_23 := Dj.lo ho3.ltO hq23
  have hd4_23 := Dj.lo ho4.ltO hq23
  have hd5_23 := Dj.lo ho5.ltO hq23
  have hd6_23 := Dj.lo ho6.ltO hq23
  have hd7_23 := Dj.lo ho7.ltO hq23
  have hd8_23 := Dj.lo ho8.ltO hq23
  have hd9_23 := Dj.lo ho9.ltO hq23
  have hd10_23 := Dj.lo ho10.ltO hq23
  have hd11_23 := Dj.lo ho11.ltO hq23
  have hd12_23 := Dj.lo ho12.ltO hq23
  have hd13_23 := Dj.lo ho13.ltO hq23
  have hd14_23 := Dj.lo ho14.ltO hq23
  have hd15_23 := Dj.lo ho15.ltO hq23
  have hd16_23 := Dj.lo hb16.ltO hq23
  have hd17_23 := Dj.lo ho17.ltO hq23
  have hd18_23 := Dj.lo ho18.ltO hq23
  have hd19_23 := Dj.lo ho19.ltO hq23
  have hd20_23 := Dj.lo ho20.ltO hq23
  have hd21_23 := Dj.lo hb21.ltO hq23
  have hd22_23 := Dj.lo ho22.ltO hq23
  have hl24 := Lo.up hq24 hB
  have hv24 := Lo.up hq24 hS
  have hd1_24 := Dj.lo hb1.ltO hq24
  have hd2_24 := Dj.lo hb2.ltO hq24
  have hd3_24 := Dj.lo ho3.ltO hq24
  have hd4_24 := Dj.lo ho4.ltO hq24
  have hd5_24 := Dj.lo ho5.ltO hq24
  have hd6_24 := Dj.lo ho6.ltO hq24
  have hd7_24 := Dj.lo ho7.ltO hq24
  have hd8_24 := Dj.lo ho8.ltO hq24
  have hd9_24 := Dj.lo ho9.ltO hq24
  have hd10_24 := Dj.lo ho10.ltO hq24
  have hd11_24 := Dj.lo ho11.ltO hq24
  have hd12_24 := Dj.lo ho12.ltO hq24
  have hd13_24 := Dj.lo ho13.ltO hq24
  have hd14_24 := Dj.lo ho14.ltO hq24
  have hd15_24 := Dj.lo ho15.ltO hq24
  have hd16_24 := Dj.lo hb16.ltO hq24
  have hd17_24 := Dj.lo ho17.ltO hq24
  have hd18_24 := Dj.lo ho18.ltO hq24
  have hd19_24 := Dj.lo ho19.ltO hq24
  have hd20_24 := Dj.lo ho20.ltO hq24
  have hd21_24 := Dj.lo hb21.ltO hq24
  have hd22_24 := Dj.lo ho22.ltO hq24
  have hl25 := Lo.up hq25 hB
  have hv25 := Lo.up hq25 hS
  have hd1_25 := Dj.lo hb1.ltO hq25
  have hd2_25 := Dj.lo hb2.ltO hq25
  have hd3_25 := Dj.lo ho3.ltO hq25
  have hd4_25 := Dj.lo ho4.ltO hq25
  have hd5_25 := Dj.lo ho5.ltO hq25
  have hd6_25 := Dj.lo ho6.ltO hq25
  have hd7_25 := Dj.lo ho7.ltO hq25
  have hd8_25 := Dj.lo ho8.ltO hq25
  have hd9_25 := Dj.lo ho9.ltO hq25
  have hd10_25 := Dj.lo ho10.ltO hq25
  have hd11_25 := Dj.lo ho11.ltO hq25
  have hd12_25 := Dj.lo ho12.ltO hq25
  have hd13_25 := Dj.lo ho13.ltO hq25
  have hd14_25 := Dj.lo ho14.ltO hq25
  have hd15_25 := Dj.lo ho15.ltO hq25
  have hd16_25 := Dj.lo hb16.ltO hq25
  have hd17_25 := Dj.lo ho17.ltO hq25
  have hd18_25 := Dj.lo ho18.ltO hq25
  have hd19_25 := Dj.lo ho19.ltO hq25
  have hd20_25 := Dj.lo ho20.ltO hq25
  have hd21_25 := Dj.lo hb21.ltO hq25
  have hd22_25 := Dj.lo ho22.ltO hq25
  have hl26 := Lo.up hq26 hB
  have hv26 := Lo.up hq26 hS
  have hd1_26 := Dj.lo hb1.ltO hq26
  have hd2_26 := Dj.lo hb2.ltO hq26
  have hd3_26 := Dj.lo ho3.ltO hq26
  have hd4_26 := Dj.lo ho4.ltO hq26
  have hd5_26 := Dj.lo ho5.ltO hq26
  have hd6_26 := Dj.lo ho6.ltO hq26
  have hd7_26 := Dj.lo ho7.ltO hq26
  have hd8_26 := Dj.lo ho8.ltO hq26
  have hd9_26 := Dj.lo ho9.ltO hq26
  have hd10_26 := Dj.lo ho10.ltO hq26
  have hd11_26 := Dj.lo ho11.ltO hq26
  have hd12_26 := Dj.lo ho12.ltO hq26
  have hd13_26 := Dj.lo ho13.ltO hq26
  have hd14_26 := Dj.lo ho14.ltO hq26
  have hd15_26 := Dj.lo ho15.ltO hq26
  have hd16_26 := Dj.lo hb16.ltO hq26
  have hd17_26 := Dj.lo ho17.ltO hq26
  have hd18_26 := Dj.lo ho18.ltO hq26
  have hd19_26 := Dj.lo ho19.ltO hq26
  have hd20_26 := Dj.lo ho20.ltO hq26
  have hd21_26 := Dj.lo hb21.ltO hq26
  have hd22_26 := Dj.lo ho22.ltO hq26
  refine ⟨Upd.trans hS hXw18, ?_⟩
  have hS := Upd.trans hS hXw18
  have hB := hB.trans hXw18
  have hb1 := hb1.up hXw18
  have hb2 := hb2.up hXw18
  have ho3 := ho3.up hXw18
  have ho4 := ho4.up hXw18
  have ho5 := ho5.up hXw18
  have ho6 := ho6.up hXw18
  have ho7 := ho7.up hXw18
  have ho8 := ho8.up hXw18
  have ho9 := ho9.up hXw18
  have ho10 := ho10.up hXw18
  have ho11 := ho11.up hXw18
  have ho12 := ho12.up hXw18
  have ho13 := ho13.up hXw18
  have ho14 := ho14.up hXw18
  have ho15 := ho15.up hXw18
  have hb16 := hb16.up hXw18
  have ho17 := ho17.up hXw18
  have ho18 := ho18.up hXw18
  have ho19 := ho19.up hXw18
  have ho20 := ho20.up hXw18
  have hb21 := hb21.up hXw18
  have ho22 := ho22.up hXw18
  refine HP.must rfl rfl (OpK.callR rfl T.cf39 rfl (c_laws_eqChange (by first | assumption | exact Rd.up (by assumption) hB | exact Osl.rd (by assumption) | exact Osn.rdR (by assumption) | exact NL.rd (by assumption) | exact rdII (by assumption) (by assumption) | exact Inn.rd (by assumption) (by omega)) (by first | assumption | exact Rd.up (by assumption) hB | exact Osl.rd (by assumption) | exact Osn.rdR (by assumption) | exact NL.rd (by assumption) | exact rdII (by assumption) (by assumption) | exact Inn.rd (by assumption) (by omega)) (by first | assumption | exact Rd.up (by assumption) hB | exact Osl.rd (by assumption) | exact Osn.rdR (by assumption) | exact NL.rd (by assumption) | exact rdII (by assumption) (by assumption) | exact Inn.rd (by assumption) (by omega)) (by first | assumption | exact Rd.up (by assumption) hB | exact Osl.rd (by assumption) | exact Osn.rdR (by assumption) | exact NL.rd (by assumption) | exact rdII (by assumption) (by assumption) | exact Inn.rd (by assumption) (by omega)) (by first | assumption | exact Rd.up (by assumption) hB | exact Osl.rd (by assumption) | exact Osn.rdR (by assumption) | exact NL.rd (by assumption) | exact rdII (by assumption) (by assumption) | exact Inn.rd (by assumption) (by omega)) (by first | assumption | exact Rd.up (by assumption) hB | exact Osl.rd (by assumption) | exact Osn.rdR (by assumption) | exact NL.rd (by assumption) | exact rdII (by assumption) (by assumption) | exact Inn.rd (by assumption) (by omega)) (by first | assumption | exact Rd.up (by assumption) hB | exact Osl.rd (by assumption) | exact Osn.rdR (by assumption) | exact NL.rd (by assumption) | exact rdII (by assumption) (by assumption) | exact Inn.rd (by assumption) (by omega)) (by first | assumption | exact Rd.up (by assumption) hB | exact Osl.rd (by assumption) | exact Osn.rdR (by assumption) | exact NL.rd (by assumption) | exact rdII (by assumption) (by assumption) | exact Inn.rd (by assumption) (by omega))) (fun w19 hXw19 => ?_))
  refine ⟨Upd.trans hS hXw19, ?_⟩
  have hS := Upd.trans hS hXw19
  have hB := hB.trans hXw19
  have hb1 := hb1.up hXw19
  have hb2 := hb2.up hXw19
  have ho3 := ho3.up hXw19
  have ho4 := ho4.up hXw19
  have ho5 := ho5.up hXw19
  have ho6 := ho6.up hXw19
  have ho7 := ho7.up hXw19
  have ho8 := ho8.up hXw19
  have ho9 := ho9.up hXw19
  have ho10 := ho10.up hXw19
  have ho11 := ho11.up hXw19
  have ho12 := ho12.up hXw19
  have ho13 := ho13.up hXw19
  have ho14 := ho14.up hXw19
  have ho15 := ho15.up hXw19
  have hb16 := hb16.up hXw19
  have ho17 := ho17.up hXw19
  have ho18 := ho18.up hXw19
  have ho19 := ho19.up hXw19
  have ho20 := ho20.up hXw19
  have hb21 := hb21.up hXw19
  have ho22 := ho22.up hXw19
  have ho23 := ho23.up hXw19
  have ho24 := ho24.up hXw19
  have ho25 := ho25.up hXw19
  have ho26 := ho26.up hXw19
  refine HP.take rfl rfl rfl rfl hS (fun wS hS1 => PV.not rfl) ?_
  refine HP.doneS ?_
  refine CW.cond rfl (fun hc5 => ?_) (fun hc5 => ?_)
  · skip
    try simp only [decide_eq_true_eq, decide_eq_false_iff_not, Bool.not_eq_true', Bool.not_eq_false', Bool.not_eq_eq_eq_not, Bool.not_true, Bool.not_false, Int.not_lt, Int.not_le, Classical.not_not, beq_iff_eq, beq_eq_false_iff_ne] at hc5
    refine CW.seq ?_
    refine CW.reg ?_
    refine WL.pure rfl rfl rfl (PV.assign rfl) ?_
    refine WL.nilS ?_
    refine CW.ret ?_
    refine RQ.then ?_
    refine RQ.r1 rfl ?_
    refine ⟨?_, hB⟩
    first | rfl | (exfalso; revert hc5; simp; done) | (exfalso; revert hc5; simp; omega) | (exfalso; omega) | first | rfl | exact bT (by omega) | exact bF (by omega) | exact bD (by omega) | exact iE (by omega) | (simp_all; done) | (simp_all; omega) | (simp_all; intros; omega)
  try simp only [decide_eq_true_eq, decide_eq_false_iff_not, Bool.not_eq_true', Bool.not_eq_false', Bool.not_eq_eq_eq_not, Bool.not_true, Bool.not_false, Int.not_lt, Int.not_le, Classical.not_not, beq_iff_eq, beq_eq_false_iff_ne] at hc5
  refine CW.skipS ?_
  refine CW.seq ?_
  refine CW.seq ?_
  refine CW.draw T.mixed (by kernel_rfl) (fun _ _ _ _ _ h => h) (fun w8 w9 => Upd none w8 w9) 5 (.take 0 (.take 1 (.must 2 (.must 3 (.take 4 .done))))) (by kernel_rfl) (fun w20 hXd => ?_)
  have hB := hB.trans hXd
  have hb1 := hb1.up hXd
  have hb2 := hb2.up hXd
  have ho3 := ho3.up hXd
  have ho4 := ho4.up hXd
  have ho5 := ho5.up hXd
  have ho6 := ho6.up hXd
  have ho7 := ho7.up hXd
  have ho8 := ho8.up hXd
  have ho9 := ho9.up hXd
  have ho10 := ho10.up hXd
  have ho11 := ho11.up hXd
  have ho12 := ho12.up hXd
  have ho13 := ho13.up hXd
  have ho14 := ho14.up hXd
  have ho15 := ho15.up hXd
  have hb16 := hb16.up hXd
  have ho17 := ho17.up hXd
  have ho18 := ho18.up hXd
  have ho19 := ho19.up hXd
  have ho20 := ho20.up hXd
  have hb21 := hb21.up hXd
  have ho22 := ho22.up hXd
  have ho23 := ho23.up hXd
  have ho24 := ho24.up hXd
  have ho25 := ho25.up hXd
  have ho26 := ho26.up hXd
  have hBr := hB
  have hS : Upd none w20 w20 := Ext.toUpd (Ext.refl _)
  refine HP.take rfl rfl rfl rfl hS (fun wS hS1 => (by first | exact PV.loadA T.ag58 rfl (by first | exact Cells.up (by assumption) (hBr.trans hS1) | exact Bx.cells (Bx.updD (by assumption) hS1 (Dj.nlR _)) | exact Cells.upd (by assumption) hS1 (by simp)) (Ext.refl _) rfl | exact PV.loadP (ds := [_, _, _, _]) T.ag58 rfl (by first | exact Cells.up (by assumption) (hBr.trans hS1) | exact Bx.cells (Bx.updD (by assumption) hS1 (Dj.nlR _)) | exact Cells.upd (by assumption) hS1 (by simp)) (Ext.refl _) rfl rfl)) ?_
  refine HP.take rfl rfl rfl rfl hS (fun wS hS1 => (by first | exact PV.loadA T.ag54 rfl (by first | exact Cells.up (by assumption) (hBr.trans hS1) | exact Bx.cells (Bx.updD (by assumption) hS1 (Dj.nlR _)) | exact Cells.upd (by assumption) hS1 (by simp)) (Ext.refl _) rfl | exact PV.loadP (ds := [_, _, _, _]) T.ag54 rfl (by first | exact Cells.up (by assumption) (hBr.trans hS1) | exact Bx.cells (Bx.updD (by assumption) hS1 (Dj.nlR _)) | exact Cells.upd (by assumption) hS1 (by simp)) (Ext.refl _) rfl rfl)) ?_
  refine HP.must rfl rfl (OpK.call rfl T.cf37 rfl (c_laws_toChange (by first | assumption | exact Rd.up (by assumption) hB | exact Osl.rd (by assumption) | exact Osn.rdR (by assumption) | exact NL.rd (by assumption) | exact rdII (by assumption) (by assumption) | exact Inn.rd (by assumption) (by omega)) (by first | assumption | exact Rd.up (by assumption) hB | exact Osl.rd (by assumption) | exact Osn.rdR (by assumption) | exact NL.rd (by assumption) | exact rdII (by assumption) (by assumption) | exact Inn.rd (by assumption) (by omega)) (by first | assumption | exact Rd.up (by assumption) hB | exact Osl.rd (by assumption) | exact Osn.rdR (by assumption) | exact NL.rd (by assumption) | exact rdII (by assumption) (by assumption) | exact Inn.rd (by assumption) (by omega)) (by first | assumption | exact Rd.up (by assumption) hB | exact Osl.rd (by assumption) | exact Osn.rdR (by assumption) | exact NL.rd (by assumption) | exact rdII (by assumption) (by assumption) | exact Inn.rd (by assumption) (by omega)) (by first | assumption | omega | (simp only [marks_len, marksB_len, marksR_len, sumL_marksS]; omega)) (by first | assumption | omega | (simp only [marks_len, marksB_len, marksR_len, sumL_marksS]; omega)) (by first | assumption | omega | (simp only [marks_len, marksB_len, marksR_len, sumL_marksS]; omega)) (by first | assumption | omega | (simp only [marks_len, marksB_len, marksR_len, sumL_marksS]; omega))) (fun rv8 w21 hR => ?_))
  obtain ⟨hXw21, v27, og27, v28, og28, v29, og29, v30, og30, rfl, ho27, hq27, ho28, hq28, ho29, hq29, ho30, hq30, hd27_28, hd27_29, hd27_30, hd28_29, hd28_30, hd29_30⟩ := hR
  have hl27 := Lo.up hq27 hB
  have hv27 := Lo.up hq27 hS
  have hd1_27 := Dj.lo hb1.ltO hq27
  have hd2_27 := Dj.lo hb2.ltO hq27
  have hd3_27 := Dj.lo ho3.ltO hq27
  have hd4_27 := Dj.lo ho4.ltO hq27
  have hd5_27 := Dj.lo ho5.ltO hq27
  have hd6_27 := Dj.lo ho6.ltO hq27
  have hd7_27 := Dj.lo ho7.ltO hq27
  have hd8_27 := Dj.lo ho8.ltO hq27
  have hd9_27 := Dj.lo ho9.ltO hq27
  have hd10_27 := Dj.lo ho10.ltO hq27
  have hd11_27 := Dj.lo ho11.ltO hq27
  have hd12_27 := Dj.lo ho12.ltO hq27
  have hd13_27 := Dj.lo ho13.ltO hq27
  have hd14_27 := Dj.lo ho14.ltO hq27
  have hd15_27 := Dj.lo ho15.ltO hq27
  have hd16_27 := Dj.lo hb16.ltO hq27
  have hd17_27 := Dj.lo ho17.ltO hq27
  have hd18_27 := Dj.lo ho18.ltO hq27
  have hd19_27 := Dj.lo ho19.ltO hq27
  have hd20_27 := Dj.lo ho20.ltO hq27
  have hd21_27 := Dj.lo hb21.ltO hq27
  have hd22_27 := Dj.lo ho22.ltO hq27
  have hd23_27 := Dj.lo ho23.ltO hq27
  have hd24_27 := Dj.lo ho24.ltO hq27
  have hd25_27 := Dj.lo ho25.ltO hq27
  have hd26_27 := Dj.lo ho26.ltO hq27
  have hl28 := Lo.up hq28 hB
  have hv28 := Lo.up hq28 hS
  have hd1_28 := Dj.lo hb1.ltO hq28
  have hd2_28 := Dj.lo hb2.ltO hq28
  have hd3_28 := Dj.lo ho3.ltO hq28
  have hd4_28 := Dj.lo ho4.ltO hq28
  have hd5_28 := Dj.lo ho5.ltO hq28
  have hd6_28 := Dj.lo ho6.ltO hq28
  have hd7_28 := Dj.lo ho7.ltO hq28
  have hd8_28 := Dj.lo ho8.ltO hq28
  have hd9_28 := Dj.lo ho9.ltO hq28
  have hd10_28 := Dj.lo ho10.ltO hq28
  have hd11_28 := Dj.lo ho11.ltO hq28
  have hd12_28 := Dj.lo ho12.ltO hq28
  have hd13_28 := Dj.lo ho13.ltO hq28
  have hd14_28 := Dj.lo ho14.ltO hq28
  have hd15_28 := Dj.lo ho15.ltO hq28
  have hd16_28 := Dj.lo hb16.ltO hq28
  have hd17_28 := Dj.lo ho17.ltO hq28
  have hd18_28 := Dj.lo ho18.ltO hq28
  have hd19_28 := Dj.lo ho19.ltO hq28
  have hd20_28 := Dj.lo ho20.ltO hq28
  have hd21_28 := Dj.lo hb21.ltO hq28
  have hd22_28 := Dj.lo ho22.ltO hq28
  have hd23_28 := Dj.lo ho23.ltO hq28
  have hd24_28 := Dj.lo ho24.ltO hq28
  have hd25_28 := Dj.lo ho25.ltO hq28
  have hd26_28 := Dj.lo ho26.ltO hq28
  have hl29 := Lo.up hq29 hB
  have hv29 := Lo.up hq29 hS
  have hd1_29 := Dj.lo hb1.ltO hq29
  have hd2_29 := Dj.lo hb2.ltO hq29
  have hd3_29 := Dj.lo ho3.ltO hq29
  have hd4_29 := Dj.lo ho4.ltO hq29
  have hd5_29 := Dj.lo ho5.ltO hq29
  have hd6_29 := Dj.lo ho6.ltO hq29
  have hd7_29 := Dj.lo ho7.ltO hq29
  have hd8_29 := Dj.lo ho8.ltO hq29
  have hd9_29 := Dj.lo ho9.ltO hq29
  have hd10_29 := Dj.lo ho10.ltO hq29
  have hd11_29 := Dj.lo ho11.ltO hq29
  have hd12_29 := Dj.lo ho12.ltO hq29
  have hd13_29 := Dj.lo ho13.ltO hq29
  have hd14_29 := Dj.lo ho14.ltO hq29
  have hd15_29 := Dj.lo ho15.ltO hq29
  have hd16_29 := Dj.lo hb16.ltO hq29
  have hd17_29 := Dj.lo ho17.ltO hq29
  have hd18_29 := Dj.lo ho18.ltO hq29
  have hd19_29 := Dj.lo ho19.ltO hq29
  have hd20_29 := Dj.lo ho20.ltO hq29
  have hd21_29 := Dj.lo hb21.ltO hq29
  have hd22_29 := Dj.lo ho22.ltO hq29
  have hd23_29 := Dj.lo ho23.ltO hq29
  have hd24_29 := Dj.lo ho24.ltO hq29
  have hd25_29 := Dj.lo ho25.ltO hq29
  have hd26_29 := Dj.lo ho26.ltO hq29
  have hl30 := Lo.up hq30 hB
  have hv30 := Lo.up hq30 hS
  have hd1_30 := Dj.lo hb1.ltO hq30
  have hd2_30 := Dj.lo hb2.ltO hq30
  have hd3_30 := Dj.lo ho3.ltO hq30
  have hd4_30 := Dj.lo ho4.ltO hq30
  have hd5_30 := Dj.lo ho5.ltO hq30
  have hd6_30 := Dj.lo ho6.ltO hq30
  have hd7_30 := Dj.lo ho7.ltO hq30
  have hd8_30 := Dj.lo ho8.ltO hq30
  have hd9_30 := Dj.lo ho9.ltO hq30
  have hd10_30 := Dj.lo ho10.ltO hq30
  have hd11_30 := Dj.lo ho11.ltO hq30
  have hd12_30 := Dj.lo ho12.ltO hq30
  have hd13_30 := Dj.lo ho13.ltO hq30
  have hd14_30 := Dj.lo ho14.ltO hq30
  have hd15_30 := Dj.lo ho15.ltO hq30
  have hd16_30 := Dj.lo hb16.ltO hq30
  have hd17_30 := Dj.lo ho17.ltO hq30
  have hd18_30 := Dj.lo ho18.ltO hq30
  have hd19_30 := Dj.lo ho19.ltO hq30
  have hd20_30 := Dj.lo ho20.ltO hq30
  have hd21_30 := Dj.lo hb21.ltO hq30
  have hd22_30 := Dj.lo ho22.ltO hq30
  have hd23_30 := Dj.lo ho23.ltO hq30
  have hd24_30 := Dj.lo ho24.ltO hq30
  have hd25_30 := Dj.lo ho25.ltO hq30
  have hd26_30 := Dj.lo ho26.ltO hq30
  refine ⟨Upd.trans hS hXw21, ?_⟩
  have hS := Upd.trans hS hXw21
  have hB := hB.trans hXw21
  have hb1 := hb1.up hXw21
  have hb2 := hb2.up hXw21
  have ho3 := ho3.up hXw21
  have ho4 := ho4.up hXw21
  have ho5 := ho5.up hXw21
  have ho6 := ho6.up hXw21
  have ho7 := ho7.up hXw21
  have ho8 := ho8.up hXw21
  have ho9 := ho9.up hXw21
  have ho10 := ho10.up hXw21
  have ho11 := ho11.up hXw21
  have ho12 := ho12.up hXw21
  have ho13 := ho13.up hXw21
  have ho14 := ho14.up hXw21
  have ho15 := ho15.up hXw21
  have hb16 := hb16.up hXw21
  have ho17 := ho17.up hXw21
  have ho18 := ho18.up hXw21
  have ho19 := ho19.up hXw21
  have ho20 := ho20.up hXw21
  have hb21 := hb21.up hXw21
  have ho22 := ho22.up hXw21
  have ho23 := ho23.up hXw21
  have ho24 := ho24.up hXw21
  have ho25 := ho25.up hXw21
  have ho26 := ho26.up hXw21
  refine HP.must rfl rfl (OpK.callR rfl T.cf39 rfl (c_laws_eqChange (by first | assumption | exact Rd.up (by assumption) hB | exact Osl.rd (by assumption) | exact Osn.rdR (by assumption) | exact NL.rd (by assumption) | exact rdII (by assumption) (by assumption) | exact Inn.rd (by assumption) (by omega)) (by first | assumption | exact Rd.up (by assumption) hB | exact Osl.rd (by assumption) | exact Osn.rdR (by assumption) | exact NL.rd (by assumption) | exact rdII (by assumption) (by assumption) | exact Inn.rd (by assumption) (by omega)) (by first | assumption | exact Rd.up (by assumption) hB | exact Osl.rd (by assumption) | exact Osn.rdR (by assumption) | exact NL.rd (by assumption) | exact rdII (by assumption) (by assumption) | exact Inn.rd (by assumption) (by omega)) (by first | assumption | exact Rd.up (by assumption) hB | exact Osl.rd (by assumption) | exact Osn.rdR (by assumption) | exact NL.rd (by assumption) | exact rdII (by assumption) (by assumption) | exact Inn.rd (by assumption) (by omega)) (by first | assumption | exact Rd.up (by assumption) hB | exact Osl.rd (by assumption) | exact Osn.rdR (by assumption) | exact NL.rd (by assumption) | exact rdII (by assumption) (by assumption) | exact Inn.rd (by assumption) (by omega)) (by first | assumption | exact Rd.up (by assumption) hB | exact Osl.rd (by assumption) | exact Osn.rdR (by assumption) | exact NL.rd (by assumption) | exact rdII (by assumption) (by assumption) | exact Inn.rd (by assumption) (by omega)) (by first | assumption | exact Rd.up (by assumption) hB | exact Osl.rd (by assumption) | exact Osn.rdR (by assumption) | exact NL.rd (by assumption) | exact rdII (by assumption) (by assumption) | exact Inn.rd (by assumption) (by omega)) (by first | assumption | exact Rd.up (by assumption) hB | exact Osl.rd (by assumption) | exact Osn.rdR (by assumption) | exact NL.rd (by assumption) | exact rdII (by assumption) (by assumption) | exact Inn.rd (by assumption) (by omega))) (fun w22 hXw22 => ?_))
  refine ⟨Upd.trans hS hXw22, ?_⟩
  have hS := Upd.trans hS hXw22
  have hB := hB.trans hXw22
  have hb1 := hb1.up hXw22
  have hb2 := hb2.up hXw22
  have ho3 := ho3.up hXw22
  have ho4 := ho4.up hXw22
  have ho5 := ho5.up hXw22
  have ho6 := ho6.up hXw22
  have ho7 := ho7.up hXw22
  have ho8 := ho8.up hXw22
  have ho9 := ho9.up hXw22
  have ho10 := ho10.up hXw22
  have ho11 := ho11.up hXw22
  have ho12 := ho12.up hXw22
  have ho13 := ho13.up hXw22
  have ho14 := ho14.up hXw22
  have ho15 := ho15.up hXw22
  have hb16 := hb16.up hXw22
  have ho17 := ho17.up hXw22
  have ho18 := ho18.up hXw22
  have ho19 := ho19.up hXw22
  have ho20 := ho20.up hXw22
  have hb21 := hb21.up hXw22
  have ho22 := ho22.up hXw22
  have ho23 := ho23.up hXw22
  have ho24 := ho24.up hXw22
  have ho25 := ho25.up hXw22
  have ho26 := ho26.up hXw22
  have ho27 := ho27.up hXw22
  have ho28 := ho28.up hXw22
  have ho29 := ho29.up hXw22
  have ho30 := ho30.up hXw22
  refine HP.take rfl rfl rfl rfl hS (fun wS hS1 => PV.not rfl) ?_
  refine HP.doneS ?_
  refine CW.cond rfl (fun hc6 => ?_) (fun hc6 => ?_)
  · skip
    try simp only [decide_eq_true_eq, decide_eq_false_iff_not, Bool.not_eq_true', Bool.not_eq_false', Bool.not_eq_eq_eq_not, Bool.not_true, Bool.not_false, Int.not_lt, Int.not_le, Classical.not_not, beq_iff_eq, beq_eq_false_iff_ne] at hc6
    refine CW.seq ?_
    refine CW.reg ?_
    refine WL.pure rfl rfl rfl (PV.assign rfl) ?_
    refine WL.nilS ?_
    refine CW.ret ?_
    refine RQ.then ?_
    refine RQ.r1 rfl ?_
    refine ⟨?_, hB⟩
    first | rfl | (exfalso; revert hc6; simp; done) | (exfalso; revert hc6; simp; omega) | (exfalso; omega) | first | rfl | exact bT (by omega) | exact bF (by omega) | exact bD (by omega) | exact iE (by omega) | (simp_all; done) | (simp_all; omega) | (simp_all; intros; omega)
  try simp only [decide_eq_true_eq, decide_eq_false_iff_not, Bool.not_eq_true', Bool.not_eq_false', Bool.not_eq_eq_eq_not, Bool.not_true, Bool.not_false, Int.not_lt, Int.not_le, Classical.not_not, beq_iff_eq, beq_eq_false_iff_ne] at hc6
  refine CW.skipS ?_
  refine CW.seq ?_
  refine CW.reg ?_
  refine WL.pure rfl rfl rfl (PV.assign rfl) ?_
  refine WL.nilS ?_
  refine CW.seq ?_
  refine CW.reg ?_
  refine WL.pure rfl rfl rfl ((by first | exact PV.loadA T.ag58 rfl (by first | exact Cells.up (by assumption) hB | exact Bx.cells (by assumption) | assumption) (Ext.refl _) rfl | exact PV.loadP (ds := [_, _, _, _]) T.ag58 rfl (by first | exact Cells.up (by assumption) hB | exact Bx.cells (by assumption) | assumption) (Ext.refl _) rfl rfl)) ?_
  refine WL.pure rfl rfl rfl (PV.move rfl) ?_
  refine WL.op rfl (OpK.call rfl T.cf40 rfl (c_laws_markChange (by first | assumption | exact Dj.symm (by assumption)) (by first | assumption | exact Dj.symm (by assumption)) (by first | assumption | exact Dj.symm (by assumption)) (by first | assumption | exact Dj.symm (by assumption)) (by first | assumption | exact Dj.symm (by assumption)) (by first | assumption | exact Dj.symm (by assumption)) (by first | assumption | exact Dj.symm (by assumption)) (by first | assumption | exact Dj.symm (by assumption)) (by first | assumption | exact Dj.symm (by assumption)) (by first | assumption | exact Dj.symm (by assumption)) (by first | assumption | omega | (simp only [marks_len, marksB_len, marksR_len, sumL_marksS]; omega))) (fun rv9 w23 hR => ?_))
  obtain ⟨rfl, hUC31, ho12, ho13, ho14, ho15⟩ := hR
  have hb1 := hb1.loop hUC31 ⟨hd1_12, hd1_13, hd1_14, hd1_15, trivial⟩
  have hb2 := hb2.loop hUC31 ⟨hd2_12, hd2_13, hd2_14, hd2_15, trivial⟩
  have ho3 := ho3.loop hUC31 ⟨hd3_12, hd3_13, hd3_14, hd3_15, trivial⟩
  have ho4 := ho4.loop hUC31 ⟨hd4_12, hd4_13, hd4_14, hd4_15, trivial⟩
  have ho5 := ho5.loop hUC31 ⟨hd5_12, hd5_13, hd5_14, hd5_15, trivial⟩
  have ho6 := ho6.loop hUC31 ⟨hd6_12, hd6_13, hd6_14, hd6_15, trivial⟩
  have ho7 := ho7.loop hUC31 ⟨hd7_12, hd7_13, hd7_14, hd7_15, trivial⟩
  have ho8 := ho8.loop hUC31 ⟨hd8_12, hd8_13, hd8_14, hd8_15, trivial⟩
  have ho9 := ho9.loop hUC31 ⟨hd9_12, hd9_13, hd9_14, hd9_15, trivial⟩
  have ho10 := ho10.loop hUC31 ⟨hd10_12, hd10_13, hd10_14, hd10_15, trivial⟩
  have ho11 := ho11.loop hUC31 ⟨hd11_12, hd11_13, hd11_14, hd11_15, trivial⟩
  have hb16 := hb16.loop hUC31 ⟨(Dj.symm hd12_16), (Dj.symm hd13_16), (Dj.symm hd14_16), (Dj.symm hd15_16), trivial⟩
  have ho17 := ho17.loop hUC31 ⟨(Dj.symm hd12_17), (Dj.symm hd13_17), (Dj.symm hd14_17), (Dj.symm hd15_17), trivial⟩
  have ho18 := ho18.loop hUC31 ⟨(Dj.symm hd12_18), (Dj.symm hd13_18), (Dj.symm hd14_18), (Dj.symm hd15_18), trivial⟩
  have ho19 := ho19.loop hUC31 ⟨(Dj.symm hd12_19), (Dj.symm hd13_19), (Dj.symm hd14_19), (Dj.symm hd15_19), trivial⟩
  have ho20 := ho20.loop hUC31 ⟨(Dj.symm hd12_20), (Dj.symm hd13_20), (Dj.symm hd14_20), (Dj.symm hd15_20), trivial⟩
  have hb21 := hb21.loop hUC31 ⟨(Dj.symm hd12_21), (Dj.symm hd13_21), (Dj.symm hd14_21), (Dj.symm hd15_21), trivial⟩
  have ho22 := ho22.loop hUC31 ⟨(Dj.symm hd12_22), (Dj.symm hd13_22), (Dj.symm hd14_22), (Dj.symm hd15_22), trivial⟩
  have ho23 := ho23.loop hUC31 ⟨(Dj.symm hd12_23), (Dj.symm hd13_23), (Dj.symm hd14_23), (Dj.symm hd15_23), trivial⟩
  have ho24 := ho24.loop hUC31 ⟨(Dj.symm hd12_24), (Dj.symm hd13_24), (Dj.symm hd14_24), (Dj.symm hd15_24), trivial⟩
  have ho25 := ho25.loop hUC31 ⟨(Dj.symm hd12_25), (Dj.symm hd13_25), (Dj.symm hd14_25), (Dj.symm hd15_25), trivial⟩
  have ho26 := ho26.loop hUC31 ⟨(Dj.symm hd12_26), (Dj.symm hd13_26), (Dj.symm hd14_26), (Dj.symm hd15_26), trivial⟩
  have ho27 := ho27.loop hUC31 ⟨(Dj.symm hd12_27), (Dj.symm hd13_27), (Dj.symm hd14_27), (Dj.symm hd15_27), trivial⟩
  have ho28 := ho28.loop hUC31 ⟨(Dj.symm hd12_28), (Dj.symm hd13_28), (Dj.symm hd14_28), (Dj.symm hd15_28), trivial⟩
  have ho29 := ho29.loop hUC31 ⟨(Dj.symm hd12_29), (Dj.symm hd13_29), (Dj.symm hd14_29), (Dj.symm hd15_29), trivial⟩
  have ho30 := ho30.loop hUC31 ⟨(Dj.symm hd12_30), (Dj.symm hd13_30), (Dj.symm hd14_30), (Dj.symm hd15_30), trivial⟩
  have hB := hB.loop hUC31 ⟨hl12, hl13, hl14, hl15, trivial⟩
  refine WL.pure rfl rfl rfl (PV.assign rfl) ?_
  refine WL.nilS ?_
  refine CW.seq ?_
  refine CW.reg ?_
  refine WL.pure rfl rfl rfl ((by first | exact PV.loadA T.ag58 rfl (by first | exact Cells.up (by assumption) hB | exact Bx.cells (by assumption) | assumption) (Ext.refl _) rfl | exact PV.loadP (ds := [_, _, _, _]) T.ag58 rfl (by first | exact Cells.up (by assumption) hB | exact Bx.cells (by assumption) | assumption) (Ext.refl _) rfl rfl)) ?_
  refine WL.pure rfl rfl rfl (PV.move rfl) ?_
  refine WL.op rfl (OpK.call rfl T.cf40 rfl (c_laws_markChange (by first | assumption | exact Dj.symm (by assumption)) (by first | assumption | exact Dj.symm (by assumption)) (by first | assumption | exact Dj.symm (by assumption)) (by first | assumption | exact Dj.symm (by assumption)) (by first | assumption | exact Dj.symm (by assumption)) (by first | assumption | exact Dj.symm (by assumption)) (by first | assumption | exact Dj.symm (by assumption)) (by first | assumption | exact Dj.symm (by assumption)) (by first | assumption | exact Dj.symm (by assumption)) (by first | assumption | exact Dj.symm (by assumption)) (by first | assumption | omega | (simp only [marks_len, marksB_len, marksR_len, sumL_marksS]; omega))) (fun rv10 w24 hR => ?_))
  obtain ⟨rfl, hUC32, ho17, ho18, ho19, ho20⟩ := hR
  have hb1 := hb1.loop hUC32 ⟨hd1_17, hd1_18, hd1_19, hd1_20, trivial⟩
  have hb2 := hb2.loop hUC32 ⟨hd2_17, hd2_18, hd2_19, hd2_20, trivial⟩
  have ho3 := ho3.loop hUC32 ⟨hd3_17, hd3_18, hd3_19, hd3_20, trivial⟩
  have ho4 := ho4.loop hUC32 ⟨hd4_17, hd4_18, hd4_19, hd4_20, trivial⟩
  have ho5 := ho5.loop hUC32 ⟨hd5_17, hd5_18, hd5_19, hd5_20, trivial⟩
  have ho6 := ho6.loop hUC32 ⟨hd6_17, hd6_18, hd6_19, hd6_20, trivial⟩
  have ho7 := ho7.loop hUC32 ⟨hd7_17, hd7_18, hd7_19, hd7_20, trivial⟩
  have ho8 := ho8.loop hUC32 ⟨hd8_17, hd8_18, hd8_19, hd8_20, trivial⟩
  have ho9 := ho9.loop hUC32 ⟨hd9_17, hd9_18, hd9_19, hd9_20, trivial⟩
  have ho10 := ho10.loop hUC32 ⟨hd10_17, hd10_18, hd10_19, hd10_20, trivial⟩
  have ho11 := ho11.loop hUC32 ⟨hd11_17, hd11_18, hd11_19, hd11_20, trivial⟩
  have ho12 := ho12.loop hUC32 ⟨hd12_17, hd12_18, hd12_19, hd12_20, trivial⟩
  have ho13 := ho13.loop hUC32 ⟨hd13_17, hd13_18, hd13_19, hd13_20, trivial⟩
  have ho14 := ho14.loop hUC32 ⟨hd14_17, hd14_18, hd14_19, hd14_20, trivial⟩
  have ho15 := ho15.loop hUC32 ⟨hd15_17, hd15_18, hd15_19, hd15_20, trivial⟩
  have hb16 := hb16.loop hUC32 ⟨hd16_17, hd16_18, hd16_19, hd16_20, trivial⟩
  have hb21 := hb21.loop hUC32 ⟨(Dj.symm hd17_21), (Dj.symm hd18_21), (Dj.symm hd19_21), (Dj.symm hd20_21), trivial⟩
  have ho22 := ho22.loop hUC32 ⟨(Dj.symm hd17_22), (Dj.symm hd18_22), (Dj.symm hd19_22), (Dj.symm hd20_22), trivial⟩
  have ho23 := ho23.loop hUC32 ⟨(Dj.symm hd17_23), (Dj.symm hd18_23), (Dj.symm hd19_23), (Dj.symm hd20_23), trivial⟩
  have ho24 := ho24.loop hUC32 ⟨(Dj.symm hd17_24), (Dj.symm hd18_24), (Dj.symm hd19_24), (Dj.symm hd20_24), trivial⟩
  have ho25 := ho25.loop hUC32 ⟨(Dj.symm hd17_25), (Dj.symm hd18_25), (Dj.symm hd19_25), (Dj.symm hd20_25), trivial⟩
  have ho26 := ho26.loop hUC32 ⟨(Dj.symm hd17_26), (Dj.symm hd18_26), (Dj.symm hd19_26), (Dj.symm hd20_26), trivial⟩
  have ho27 := ho27.loop hUC32 ⟨(Dj.symm hd17_27), (Dj.symm hd18_27), (Dj.symm hd19_27), (Dj.symm hd20_27), trivial⟩
  have ho28 := ho28.loop hUC32 ⟨(Dj.symm hd17_28), (Dj.symm hd18_28), (Dj.symm hd19_28), (Dj.symm hd20_28), trivial⟩
  have ho29 := ho29.loop hUC32 ⟨(Dj.symm hd17_29), (Dj.symm hd18_29), (Dj.symm hd19_29), (Dj.symm hd20_29), trivial⟩
  have ho30 := ho30.loop hUC32 ⟨(Dj.symm hd17_30), (Dj.symm hd18_30), (Dj.symm hd19_30), (Dj.symm hd20_30), trivial⟩
  have hB := hB.loop hUC32 ⟨hl17, hl18, hl19, hl20, trivial⟩
  refine WL.pure rfl rfl rfl (PV.assign rfl) ?_
  refine WL.nilS ?_
  refine CW.seq ?_
  refine CW.seq ?_
  refine CW.reg ?_
  refine WL.pure rfl rfl rfl (PV.move rfl) ?_
  refine WL.pure rfl rfl rfl (PV.lss rfl rfl) ?_
  refine WL.pure rfl rfl rfl (PV.move rfl) ?_
  refine WL.split (t := 80) rfl (fun hc7 => ?_) (fun hc7 => ?_)
  · skip
    try simp only [decide_eq_true_eq, decide_eq_false_iff_not, Bool.not_eq_true', Bool.not_eq_false', Bool.not_eq_eq_eq_not, Bool.not_true, Bool.not_false, Int.not_lt, Int.not_le, Classical.not_not, beq_iff_eq, beq_eq_false_iff_ne] at hc7
    refine WL.skip rfl rfl rfl rfl rfl ?_
    refine WL.skip rfl rfl rfl rfl rfl ?_
    refine WL.skip rfl rfl rfl rfl rfl ?_
    refine WL.skip rfl rfl rfl rfl rfl ?_
    refine WL.pure rfl rfl rfl (PV.pickT rfl rfl) ?_
    refine WL.pure rfl rfl rfl (PV.move rfl) ?_
    refine WL.skip rfl rfl rfl rfl rfl ?_
    refine WL.skip rfl rfl rfl rfl rfl ?_
    refine WL.skip rfl rfl rfl rfl rfl ?_
    refine WL.pure rfl rfl rfl (PV.pickT rfl rfl) ?_
    refine WL.nilS ?_
    refine CW.condT rfl ?_
    refine CW.seq ?_
    refine CW.reg ?_
    refine WL.pure rfl rfl rfl (PV.assign rfl) ?_
    refine WL.nilS ?_
    refine CW.ret ?_
    refine RQ.then ?_
    refine RQ.r1 rfl ?_
    refine ⟨?_, hB⟩
    first | rfl | (exfalso; revert hc7; simp; done) | (exfalso; revert hc7; simp; omega) | (exfalso; omega) | first | rfl | exact bT (by omega) | exact bF (by omega) | exact bD (by omega) | exact iE (by omega) | (simp_all; done) | (simp_all; omega) | (simp_all; intros; omega)
  try simp only [decide_eq_true_eq, decide_eq_false_iff_not, Bool.not_eq_true', Bool.not_eq_false', Bool.not_eq_eq_eq_not, Bool.not_true, Bool.not_false, Int.not_lt, Int.not_le, Classical.not_not, beq_iff_eq, beq_eq_false_iff_ne] at hc7
  refine WL.pureG rfl rfl rfl rfl rfl (PV.move rfl) ?_
  refine WL.pureG rfl rfl rfl rfl rfl (PV.move rfl) ?_
  refine WL.opG rfl rfl rfl (OpK.callR rfl T.cf22 rfl (c_laws_eqInt64S (by first | assumption | exact Rd.up (by assumption) hB | exact Osl.rd (by assumption) | exact Osn.rdR (by assumption) | exact NL.rd (by assumption) | exact rdII (by assumption) (by assumption) | exact Inn.rd (by assumption) (by omega)) (by first | assumption | exact Rd.up (by assumption) hB | exact Osl.rd (by assumption) | exact Osn.rdR (by assumption) | exact NL.rd (by assumption) | exact rdII (by assumption) (by assumption) | exact Inn.rd (by assumption) (by omega))) (fun w25 hXw25 => ?_))
  have hB := hB.trans hXw25
  have hb1 := hb1.up hXw25
  have hb2 := hb2.up hXw25
  have ho3 := ho3.up hXw25
  have ho4 := ho4.up hXw25
  have ho5 := ho5.up hXw25
  have ho6 := ho6.up hXw25
  have ho7 := ho7.up hXw25
  have ho8 := ho8.up hXw25
  have ho9 := ho9.up hXw25
  have ho10 := ho10.up hXw25
  have ho11 := ho11.up hXw25
  have ho12 := ho12.up hXw25
  have ho13 := ho13.up hXw25
  have ho14 := ho14.up hXw25
  have ho15 := ho15.up hXw25
  have hb16 := hb16.up hXw25
  have ho17 := ho17.up hXw25
  have ho18 := ho18.up hXw25
  have ho19 := ho19.up hXw25
  have ho20 := ho20.up hXw25
  have hb21 := hb21.up hXw25
  have ho22 := ho22.up hXw25
  have ho23 := ho23.up hXw25
  have ho24 := ho24.up hXw25
  have ho25 := ho25.up hXw25
  have ho26 := ho26.up hXw25
  have ho27 := ho27.up hXw25
  have ho28 := ho28.up hXw25
  have ho29 := ho29.up hXw25
  have ho30 := ho30.up hXw25
  refine WL.pureG rfl rfl rfl rfl rfl (PV.not rfl) ?_
  refine WL.pure rfl rfl rfl (PV.pickF rfl rfl) ?_
  refine WL.pure rfl rfl rfl (PV.move rfl) ?_
  refine WL.split (t := 86) rfl (fun hc8 => ?_) (fun hc8 => ?_)
  · skip
    try simp only [decide_eq_true_eq, decide_eq_false_iff_not, Bool.not_eq_true', Bool.not_eq_false', Bool.not_eq_eq_eq_not, Bool.not_true, Bool.not_false, Int.not_lt, Int.not_le, Classical.not_not, beq_iff_eq, beq_eq_false_iff_ne] at hc8
    refine WL.skip rfl rfl rfl rfl rfl ?_
    refine WL.skip rfl rfl rfl rfl rfl ?_
    refine WL.skip rfl rfl rfl rfl rfl ?_
    refine WL.pure rfl rfl rfl (PV.pickT rfl rfl) ?_
    refine WL.nilS ?_
    refine CW.condT rfl ?_
    refine CW.seq ?_
    refine CW.reg ?_
    refine WL.pure rfl rfl rfl (PV.assign rfl) ?_
    refine WL.nilS ?_
    refine CW.ret ?_
    refine RQ.then ?_
    refine RQ.r1 rfl ?_
    refine ⟨?_, hB⟩
    first | rfl | (exfalso; revert hc8; simp; done) | (exfalso; revert hc8; simp; omega) | (exfalso; omega) | first | rfl | exact bT (by omega) | exact bF (by omega) | exact bD (by omega) | exact iE (by omega) | (simp_all; done) | (simp_all; omega) | (simp_all; intros; omega)
  try simp only [decide_eq_true_eq, decide_eq_false_iff_not, Bool.not_eq_true', Bool.not_eq_false', Bool.not_eq_eq_eq_not, Bool.not_true, Bool.not_false, Int.not_lt, Int.not_le, Classical.not_not, beq_iff_eq, beq_eq_false_iff_ne] at hc8
  refine WL.pureG rfl rfl rfl rfl rfl (PV.move rfl) ?_
  refine WL.pureG rfl rfl rfl rfl rfl (PV.move rfl) ?_
  refine WL.pureG rfl rfl rfl rfl rfl (PV.neqB T.bl4 rfl rfl) ?_
  refine WL.pure rfl rfl rfl (PV.pickF rfl rfl) ?_
  refine WL.nilS ?_
  refine CW.cond rfl (fun hc9 => ?_) (fun hc9 => ?_)
  · skip
    try simp only [decide_eq_true_eq, decide_eq_false_iff_not, Bool.not_eq_true', Bool.not_eq_false', Bool.not_eq_eq_eq_not, Bool.not_true, Bool.not_false, Int.not_lt, Int.not_le, Classical.not_not, beq_iff_eq, beq_eq_false_iff_ne] at hc9
    refine CW.seq ?_
    refine CW.reg ?_
    refine WL.pure rfl rfl rfl (PV.assign rfl) ?_
    refine WL.nilS ?_
    refine CW.ret ?_
    refine RQ.then ?_
    refine RQ.r1 rfl ?_
    refine ⟨?_, hB⟩
    first | rfl | (exfalso; revert hc9; simp; done) | (exfalso; revert hc9; simp; omega) | (exfalso; omega) | first | rfl | exact bT (by omega) | exact bF (by omega) | exact bD (by omega) | exact iE (by omega) | (simp_all; done) | (simp_all; omega) | (simp_all; intros; omega)
  try simp only [decide_eq_true_eq, decide_eq_false_iff_not, Bool.not_eq_true', Bool.not_eq_false', Bool.not_eq_eq_eq_not, Bool.not_true, Bool.not_false, Int.not_lt, Int.not_le, Classical.not_not, beq_iff_eq, beq_eq_false_iff_ne] at hc9
  refine CW.skipS ?_
  refine CW.seq ?_
  refine CW.reg ?_
  refine WL.pure rfl rfl rfl (PV.assign rfl) ?_
  refine WL.nilS ?_
  refine CW.seq ?_
  refine CW.reg ?_
  refine WL.pure rfl rfl rfl (PV.move rfl) ?_
  refine WL.pure rfl rfl rfl (PV.move rfl) ?_
  refine WL.op rfl (OpK.call rfl T.cf24 rfl (c_laws_markInt64S (by first | assumption | exact Dj.symm (by assumption)) (by first | assumption | omega | (simp only [marks_len, marksB_len, marksR_len, sumL_marksS]; omega))) (fun rv11 w26 hR => ?_))
  obtain ⟨rfl, hUC33, ho22⟩ := hR
  have hb1 := hb1.loop hUC33 ⟨hd1_22, trivial⟩
  have hb2 := hb2.loop hUC33 ⟨hd2_22, trivial⟩
  have ho3 := ho3.loop hUC33 ⟨hd3_22, trivial⟩
  have ho4 := ho4.loop hUC33 ⟨hd4_22, trivial⟩
  have ho5 := ho5.loop hUC33 ⟨hd5_22, trivial⟩
  have ho6 := ho6.loop hUC33 ⟨hd6_22, trivial⟩
  have ho7 := ho7.loop hUC33 ⟨hd7_22, trivial⟩
  have ho8 := ho8.loop hUC33 ⟨hd8_22, trivial⟩
  have ho9 := ho9.loop hUC33 ⟨hd9_22, trivial⟩
  have ho10 := ho10.loop hUC33 ⟨hd10_22, trivial⟩
  have ho11 := ho11.loop hUC33 ⟨hd11_22, trivial⟩
  have ho12 := ho12.loop hUC33 ⟨hd12_22, trivial⟩
  have ho13 := ho13.loop hUC33 ⟨hd13_22, trivial⟩
  have ho14 := ho14.loop hUC33 ⟨hd14_22, trivial⟩
  have ho15 := ho15.loop hUC33 ⟨hd15_22, trivial⟩
  have hb16 := hb16.loop hUC33 ⟨hd16_22, trivial⟩
  have ho17 := ho17.loop hUC33 ⟨hd17_22, trivial⟩
  have ho18 := ho18.loop hUC33 ⟨hd18_22, trivial⟩
  have ho19 := ho19.loop hUC33 ⟨hd19_22, trivial⟩
  have ho20 := ho20.loop hUC33 ⟨hd20_22, trivial⟩
  have hb21 := hb21.loop hUC33 ⟨hd21_22, trivial⟩
  have ho23 := ho23.loop hUC33 ⟨(Dj.symm hd22_23), trivial⟩
  have ho24 := ho24.loop hUC33 ⟨(Dj.symm hd22_24), trivial⟩
  have ho25 := ho25.loop hUC33 ⟨(Dj.symm hd22_25), trivial⟩
  have ho26 := ho26.loop hUC33 ⟨(Dj.symm hd22_26), trivial⟩
  have ho27 := ho27.loop hUC33 ⟨(Dj.symm hd22_27), trivial⟩
  have ho28 := ho28.loop hUC33 ⟨(Dj.symm hd22_28), trivial⟩
  have ho29 := ho29.loop hUC33 ⟨(Dj.symm hd22_29), trivial⟩
  have ho30 := ho30.loop hUC33 ⟨(Dj.symm hd22_30), trivial⟩
  have hB := hB.loop hUC33 ⟨hl22, trivial⟩
  refine WL.pure rfl rfl rfl (PV.assign rfl) ?_
  refine WL.nilS ?_
  refine CW.seq ?_
  refine CW.reg ?_
  refine WL.pure rfl rfl rfl (PV.assign rfl) ?_
  refine WL.nilS ?_
  refine CW.seq ?_
  refine CW.reg ?_
  refine WL.pure rfl rfl rfl (PV.move rfl) ?_
  refine WL.pure rfl rfl rfl (PV.move rfl) ?_
  refine WL.op rfl (OpK.callR rfl T.cf41 rfl (c_laws_heldInt64S (by first | assumption | exact Rd.up (by assumption) hB | exact Osl.rd (by assumption) | exact Osn.rdR (by assumption) | exact NL.rd (by assumption) | exact rdII (by assumption) (by assumption) | exact Inn.rd (by assumption) (by omega)) (by first | assumption | omega | (simp only [marks_len, marksB_len, marksR_len, sumL_marksS]; omega))) (fun w27 hXw27 => ?_))
  have hB := hB.trans hXw27
  have hb1 := hb1.up hXw27
  have hb2 := hb2.up hXw27
  have ho3 := ho3.up hXw27
  have ho4 := ho4.up hXw27
  have ho5 := ho5.up hXw27
  have ho6 := ho6.up hXw27
  have ho7 := ho7.up hXw27
  have ho8 := ho8.up hXw27
  have ho9 := ho9.up hXw27
  have ho10 := ho10.up hXw27
  have ho11 := ho11.up hXw27
  have ho12 := ho12.up hXw27
  have ho13 := ho13.up hXw27
  have ho14 := ho14.up hXw27
  have ho15 := ho15.up hXw27
  have hb16 := hb16.up hXw27
  have ho17 := ho17.up hXw27
  have ho18 := ho18.up hXw27
  have ho19 := ho19.up hXw27
  have ho20 := ho20.up hXw27
  have hb21 := hb21.up hXw27
  have ho22 := ho22.up hXw27
  have ho23 := ho23.up hXw27
  have ho24 := ho24.up hXw27
  have ho25 := ho25.up hXw27
  have ho26 := ho26.up hXw27
  have ho27 := ho27.up hXw27
  have ho28 := ho28.up hXw27
  have ho29 := ho29.up hXw27
  have ho30 := ho30.up hXw27
  refine WL.pure rfl rfl rfl (PV.assign rfl) ?_
  refine WL.nilS ?_
  refine CW.seq ?_
  refine CW.seq ?_
  refine CW.reg ?_
  refine WL.pure rfl rfl rfl (PV.move rfl) ?_
  refine WL.pure rfl rfl rfl (PV.lss rfl rfl) ?_
  refine WL.nilS ?_
  refine CW.cond rfl (fun hc10 => ?_) (fun hc10 => ?_)
  · skip
    try simp only [decide_eq_true_eq, decide_eq_false_iff_not, Bool.not_eq_true', Bool.not_eq_false', Bool.not_eq_eq_eq_not, Bool.not_true, Bool.not_false, Int.not_lt, Int.not_le, Classical.not_not, beq_iff_eq, beq_eq_false_iff_ne] at hc10
    refine CW.seq ?_
    refine CW.reg ?_
    refine WL.pure rfl rfl rfl (PV.assign rfl) ?_
    refine WL.nilS ?_
    refine CW.ret ?_
    refine RQ.then ?_
    refine RQ.r1 rfl ?_
    refine ⟨?_, hB⟩
    first | rfl | (exfalso; revert hc10; simp; done) | (exfalso; revert hc10; simp; omega) | (exfalso; omega) | first | rfl | exact bT (by omega) | exact bF (by omega) | exact bD (by omega) | exact iE (by omega) | (simp_all; done) | (simp_all; omega) | (simp_all; intros; omega)
  try simp only [decide_eq_true_eq, decide_eq_false_iff_not, Bool.not_eq_true', Bool.not_eq_false', Bool.not_eq_eq_eq_not, Bool.not_true, Bool.not_false, Int.not_lt, Int.not_le, Classical.not_not, beq_iff_eq, beq_eq_false_iff_ne] at hc10
  refine CW.skipS ?_
  refine CW.seq ?_
  refine CW.seq ?_
  refine CW.reg ?_
  refine WL.pure rfl rfl rfl (PV.move rfl) ?_
  refine WL.pure rfl rfl rfl (PV.move rfl) ?_
  refine WL.pure rfl rfl rfl (PV.neq rfl rfl) ?_
  refine WL.nilS ?_
  refine CW.cond rfl (fun hc11 => ?_) (fun hc11 => ?_)
  · skip
    try simp only [decide_eq_true_eq, decide_eq_false_iff_not, Bool.not_eq_true', Bool.not_eq_false', Bool.not_eq_eq_eq_not, Bool.not_true, Bool.not_false, Int.not_lt, Int.not_le, Classical.not_not, beq_iff_eq, beq_eq_false_iff_ne] at hc11
    refine CW.seq ?_
    refine CW.reg ?_
    refine WL.pure rfl rfl rfl (PV.assign rfl) ?_
    refine WL.nilS ?_
    refine CW.ret ?_
    refine RQ.then ?_
    refine RQ.r1 rfl ?_
    refine ⟨?_, hB⟩
    first | rfl | (exfalso; revert hc11; simp; done) | (exfalso; revert hc11; simp; omega) | (exfalso; omega) | first | rfl | exact bT (by omega) | exact bF (by omega) | exact bD (by omega) | exact iE (by omega) | (simp_all; done) | (simp_all; omega) | (simp_all; intros; omega)
  try simp only [decide_eq_true_eq, decide_eq_false_iff_not, Bool.not_eq_true', Bool.not_eq_false', Bool.not_eq_eq_eq_not, Bool.not_true, Bool.not_false, Int.not_lt, Int.not_le, Classical.not_not, beq_iff_eq, beq_eq_false_iff_ne] at hc11
  refine CW.skipS ?_
  refine CW.seq ?_
  refine CW.draw T.mixed (by kernel_rfl) (fun _ _ _ _ _ h => h) (fun w8 w9 => Upd none w8 w9) 12 (.take 0 (.take 2 (.take 4 (.take 5 (.must 1 (.must 3 (.must 6 (.take 7 (.take 8 (.take 9 (.take 10 (.take 11 .done)))))))))))) (by kernel_rfl) (fun w28 hXd => ?_)
  have hB := hB.trans hXd
  have hb1 := hb1.up hXd
  have hb2 := hb2.up hXd
  have ho3 := ho3.up hXd
  have ho4 := ho4.up hXd
  have ho5 := ho5.up hXd
  have ho6 := ho6.up hXd
  have ho7 := ho7.up hXd
  have ho8 := ho8.up hXd
  have ho9 := ho9.up hXd
  have ho10 := ho10.up hXd
  have ho11 := ho11.up hXd
  have ho12 := ho12.up hXd
  have ho13 := ho13.up hXd
  have ho14 := ho14.up hXd
  have ho15 := ho15.up hXd
  have hb16 := hb16.up hXd
  have ho17 := ho17.up hXd
  have ho18 := ho18.up hXd
  have ho19 := ho19.up hXd
  have ho20 := ho20.up hXd
  have hb21 := hb21.up hXd
  have ho22 := ho22.up hXd
  have ho23 := ho23.up hXd
  have ho24 := ho24.up hXd
  have ho25 := ho25.up hXd
  have ho26 := ho26.up hXd
  have ho27 := ho27.up hXd
  have ho28 := ho28.up hXd
  have ho29 := ho29.up hXd
  have ho30 := ho30.up hXd
  have hBr := hB
  have hS : Upd none w28 w28 := Ext.toUpd (Ext.refl _)
  refine HP.take rfl rfl rfl rfl hS (fun wS hS1 => (by first | exact PV.loadA T.ag54 rfl (by first | exact Cells.up (by assumption) (hBr.trans hS1) | exact Bx.cells (Bx.updD (by assumption) hS1 (Dj.nlR _)) | exact Cells.upd (by assumption) hS1 (by simp)) (Ext.refl _) rfl | exact PV.loadP (ds := [_, _, _, _]) T.ag54 rfl (by first | exact Cells.up (by assumption) (hBr.trans hS1) | exact Bx.cells (Bx.updD (by assumption) hS1 (Dj.nlR _)) | exact Cells.upd (by assumption) hS1 (by simp)) (Ext.refl _) rfl rfl)) ?_
  refine HP.take rfl rfl rfl rfl hS (fun wS hS1 => (by first | exact PV.loadA T.ag54 rfl (by first | exact Cells.up (by assumption) (hBr.trans hS1) | exact Bx.cells (Bx.updD (by assumption) hS1 (Dj.nlR _)) | exact Cells.upd (by assumption) hS1 (by simp)) (Ext.refl _) rfl | exact PV.loadP (ds := [_, _, _, _]) T.ag54 rfl (by first | exact Cells.up (by assumption) (hBr.trans hS1) | exact Bx.cells (Bx.updD (by assumption) hS1 (Dj.nlR _)) | exact Cells.upd (by assumption) hS1 (by simp)) (Ext.refl _) rfl rfl)) ?_
  refine HP.take rfl rfl rfl rfl hS (fun wS hS1 => PV.move rfl) ?_
  refine HP.take rfl rfl rfl rfl hS (fun wS hS1 => PV.move rfl) ?_
  refine HP.must rfl rfl (OpK.call rfl T.cf37 rfl (c_laws_toChange (by first | assumption | exact Rd.up (by assumption) hB | exact Osl.rd (by assumption) | exact Osn.rdR (by assumption) | exact NL.rd (by assumption) | exact rdII (by assumption) (by assumption) | exact Inn.rd (by assumption) (by omega)) (by first | assumption | exact Rd.up (by assumption) hB | exact Osl.rd (by assumption) | exact Osn.rdR (by assumption) | exact NL.rd (by assumption) | exact rdII (by assumption) (by assumption) | exact Inn.rd (by assumption) (by omega)) (by first | assumption | exact Rd.up (by assumption) hB | exact Osl.rd (by assumption) | exact Osn.rdR (by assumption) | exact NL.rd (by assumption) | exact rdII (by assumption) (by assumption) | exact Inn.rd (by assumption) (by omega)) (by first | assumption | exact Rd.up (by assumption) hB | exact Osl.rd (by assumption) | exact Osn.rdR (by assumption) | exact NL.rd (by assumption) | exact rdII (by assumption) (by assumption) | exact Inn.rd (by assumption) (by omega)) (by first | assumption | omega | (simp only [marks_len, marksB_len, marksR_len, sumL_marksS]; omega)) (by first | assumption | omega | (simp only [marks_len, marksB_len, marksR_len, sumL_marksS]; omega)) (by first | assumption | omega | (simp only [marks_len, marksB_len, marksR_len, sumL_marksS]; omega)) (by first | assumption | omega | (simp only [marks_len, marksB_len, marksR_len, sumL_marksS]; omega))) (fun rv12 w29 hR => ?_))
  obtain ⟨hXw29, v34, og34, v35, og35, v36, og36, v37, og37, rfl, ho34, hq34, ho35, hq35, ho36, hq36, ho37, hq37, hd34_35, hd34_36, hd34_37, hd35_36, hd35_37, hd36_37⟩ := hR
  have hl34 := Lo.up hq34 hB
  have hv34 := Lo.up hq34 hS
  have hd1_34 := Dj.lo hb1.ltO hq34
  have hd2_34 := Dj.lo hb2.ltO hq34
  have hd3_34 := Dj.lo ho3.ltO hq34
  have hd4_34 := Dj.lo ho4.ltO hq34
  have hd5_34 := Dj.lo ho5.ltO hq34
  have hd6_34 := Dj.lo ho6.ltO hq34
  have hd7_34 := Dj.lo ho7.ltO hq34
  have hd8_34 := Dj.lo ho8.ltO hq34
  have hd9_34 := Dj.lo ho9.ltO hq34
  have hd10_34 := Dj.lo ho10.ltO hq34
  have hd11_34 := Dj.lo ho11.ltO hq34
  have hd12_34 := Dj.lo ho12.ltO hq34
  have hd13_34 := Dj.lo ho13.ltO hq34
  have hd14_34 := Dj.lo ho14.ltO hq34
  have hd15_34 := Dj.lo ho15.ltO hq34
  have hd16_34 := Dj.lo hb16.ltO hq34
  have hd17_34 := Dj.lo ho17.ltO hq34
  have hd18_34 := Dj.lo ho18.ltO hq34
  have hd19_34 := Dj.lo ho19.ltO hq34
  have hd20_34 := Dj.lo ho20.ltO hq34
  have hd21_34 := Dj.lo hb21.ltO hq34
  have hd22_34 := Dj.lo ho22.ltO hq34
  have hd23_34 := Dj.lo ho23.ltO hq34
  have hd24_34 := Dj.lo ho24.ltO hq34
  have hd25_34 := Dj.lo ho25.ltO hq34
  have hd26_34 := Dj.lo ho26.ltO hq34
  have hd27_34 := Dj.lo ho27.ltO hq34
  have hd28_34 := Dj.lo ho28.ltO hq34
  have hd29_34 := Dj.lo ho29.ltO hq34
  have hd30_34 := Dj.lo ho30.ltO hq34
  have hl35 := Lo.up hq35 hB
  have hv35 := Lo.up hq35 hS
  have hd1_35 := Dj.lo hb1.ltO hq35
  have hd2_35 := Dj.lo hb2.ltO hq35
  have hd3_35 := Dj.lo ho3.ltO hq35
  have hd4_35 := Dj.lo ho4.ltO hq35
  have hd5_35 := Dj.lo ho5.ltO hq35
  have hd6_35 := Dj.lo ho6.ltO hq35
  have hd7_35 := Dj.lo ho7.ltO hq35
  have hd8_35 := Dj.lo ho8.ltO hq35
  have hd9_35 := Dj.lo ho9.ltO hq35
  have hd10_35 := Dj.lo ho10.ltO hq35
  have hd11_35 := Dj.lo ho11.ltO hq35
  have hd12_35 := Dj.lo ho12.ltO hq35
  have hd13_35 := Dj.lo ho13.ltO hq35
  have hd14_35 := Dj.lo ho14.ltO hq35
  have hd15_35 := Dj.lo ho15.ltO hq35
  have hd16_35 := Dj.lo hb16.ltO hq35
  have hd17_35 := Dj.lo ho17.ltO hq35
  have hd18_35 := Dj.lo ho18.ltO hq35
  have hd19_35 := Dj.lo ho19.ltO hq35
  have hd20_35 := Dj.lo ho20.ltO hq35
  have hd21_35 := Dj.lo hb21.ltO hq35
  have hd22_35 := Dj.lo ho22.ltO hq35
  have hd23_35 := Dj.lo ho23.ltO hq35
  have hd24_35 := Dj.lo ho24.ltO hq35
  have hd25_35 := Dj.lo ho25.ltO hq35
  have hd26_35 := Dj.lo ho26.ltO hq35
  have hd27_35 := Dj.lo ho27.ltO hq35
  have hd28_35 := Dj.lo ho28.ltO hq35
  have hd29_35 := Dj.lo ho29.ltO hq35
  have hd30_35 := Dj.lo ho30.ltO hq35
  have hl36 := Lo.up hq36 hB
  have hv36 := Lo.up hq36 hS
  have hd1_36 := Dj.lo hb1.ltO hq36
  have hd2_36 := Dj.lo hb2.ltO hq36
  have hd3_36 := Dj.lo ho3.ltO hq36
  have hd4_36 := Dj.lo ho4.ltO hq36
  have hd5_36 := Dj.lo ho5.ltO hq36
  have hd6_36 := Dj.lo ho6.ltO hq36
  have hd7_36 := Dj.lo ho7.ltO hq36
  have hd8_36 := Dj.lo ho8.ltO hq36
  have hd9_36 := Dj.lo ho9.ltO hq36
  have hd10_36 := Dj.lo ho10.ltO hq36
  have hd11_36 := Dj.lo ho11.ltO hq36
  have hd12_36 := Dj.lo ho12.ltO hq36
  have hd13_36 := Dj.lo ho13.ltO hq36
  have hd14_36 := Dj.lo ho14.ltO hq36
  have hd15_36 := Dj.lo ho15.ltO hq36
  have hd16_36 := Dj.lo hb16.ltO hq36
  have hd17_36 := Dj.lo ho17.ltO hq36
  have hd18_36 := Dj.lo ho18.ltO hq36
  have hd19_36 := Dj.lo ho19.ltO hq36
  have hd20_36 := Dj.lo ho20.ltO hq36
  have hd21_36 := Dj.lo hb21.ltO hq36
  have hd22_36 := Dj.lo ho22.ltO hq36
  have hd23_36 := Dj.lo ho23.ltO hq36
  have hd24_36 := Dj.lo ho24.ltO hq36
  have hd25_36 := Dj.lo ho25.ltO hq36
  have hd26_36 := Dj.lo ho26.ltO hq36
  have hd27_36 := Dj.lo ho27.ltO hq36
  have hd28_36 := Dj.lo ho28.ltO hq36
  have hd29_36 := Dj.lo ho29.ltO hq36
  have hd30_36 := Dj.lo ho30.ltO hq36
  have hl37 := Lo.up hq37 hB
  have hv37 := Lo.up hq37 hS
  have hd1_37 := Dj.lo hb1.ltO hq37
  have hd2_37 := Dj.lo hb2.ltO hq37
  have hd3_37 := Dj.lo ho3.ltO hq37
  have hd4_37 := Dj.lo ho4.ltO hq37
  have hd5_37 := Dj.lo ho5.ltO hq37
  have hd6_37 := Dj.lo ho6.ltO hq37
  have hd7_37 := Dj.lo ho7.ltO hq37
  have hd8_37 := Dj.lo ho8.ltO hq37
  have hd9_37 := Dj.lo ho9.ltO hq37
  have hd10_37 := Dj.lo ho10.ltO hq37
  have hd11_37 := Dj.lo ho11.ltO hq37
  have hd12_37 := Dj.lo ho12.ltO hq37
  have hd13_37 := Dj.lo ho13.ltO hq37
  have hd14_37 := Dj.lo ho14.ltO hq37
  have hd15_37 := Dj.lo ho15.ltO hq37
  have hd16_37 := Dj.lo hb16.ltO hq37
  have hd17_37 := Dj.lo ho17.ltO hq37
  have hd18_37 := Dj.lo ho18.ltO hq37
  have hd19_37 := Dj.lo ho19.ltO hq37
  have hd20_37 := Dj.lo ho20.ltO hq37
  have hd21_37 := Dj.lo hb21.ltO hq37
  have hd22_37 := Dj.lo ho22.ltO hq37
  have hd23_37 := Dj.lo ho23.ltO hq37
  have hd24_37 := Dj.lo ho24.ltO hq37
  have hd25_37 := Dj.lo ho25.ltO hq37
  have hd26_37 := Dj.lo ho26.ltO hq37
  have hd27_37 := Dj.lo ho27.ltO hq37
  have hd28_37 := Dj.lo ho28.ltO hq37
  have hd29_37 := Dj.lo ho29.ltO hq37
  have hd30_37 := Dj.lo ho30.ltO hq37
  refine ⟨Upd.trans hS hXw29, ?_⟩
  have hS := Upd.trans hS hXw29
  have hB := hB.trans hXw29
  have hb1 := hb1.up hXw29
  have hb2 := hb2.up hXw29
  have ho3 := ho3.up hXw29
  have ho4 := ho4.up hXw29
  have ho5 := ho5.up hXw29
  have ho6 := ho6.up hXw29
  have ho7 := ho7.up hXw29
  have ho8 := ho8.up hXw29
  have ho9 := ho9.up hXw29
  have ho10 := ho10.up hXw29
  have ho11 := ho11.up hXw29
  have ho12 := ho12.up hXw29
  have ho13 := ho13.up hXw29
  have ho14 := ho14.up hXw29
  have ho15 := ho15.up hXw29
  have hb16 := hb16.up hXw29
  have ho17 := ho17.up hXw29
  have ho18 := ho18.up hXw29
  have ho19 := ho19.up hXw29
  have ho20 := ho20.up hXw29
  have hb21 := hb21.up hXw29
  have ho22 := ho22.up hXw29
  have ho23 := ho23.up hXw29
  have ho24 := ho24.up hXw29
  have ho25 := ho25.up hXw29
  have ho26 := ho26.up hXw29
  have ho27 := ho27.up hXw29
  have ho28 := ho28.up hXw29
  have ho29 := ho29.up hXw29
  have ho30 := ho30.up hXw29
  refine HP.must rfl rfl (OpK.call rfl T.cf37 rfl (c_laws_toChange (by first | assumption | exact Rd.up (by assumption) hB | exact Osl.rd (by assumption) | exact Osn.rdR (by assumption) | exact NL.rd (by assumption) | exact rdII (by assumption) (by assumption) | exact Inn.rd (by assumption) (by omega)) (by first | assumption | exact Rd.up (by assumption) hB | exact Osl.rd (by assumption) | exact Osn.rdR (by assumption) | exact NL.rd (by assumption) | exact rdII (by assumption) (by assumption) | exact Inn.rd (by assumption) (by omega)) (by first | assumption | exact Rd.up (by assumption) hB | exact Osl.rd (by assumption) | exact Osn.rdR (by assumption) | exact NL.rd (by assumption) | exact rdII (by assumption) (by assumption) | exact Inn.rd (by assumption) (by omega)) (by first | assumption | exact Rd.up (by assumption) hB | exact Osl.rd (by assumption) | exact Osn.rdR (by assumption) | exact NL.rd (by assumption) | exact rdII (by assumption) (by assumption) | exact Inn.rd (by assumption) (by omega)) (by first | assumption | omega | (simp only [marks_len, marksB_len, marksR_len, sumL_marksS]; omega)) (by first | assumption | omega | (simp only [marks_len, marksB_len, marksR_len, sumL_marksS]; omega)) (by first | assumption | omega | (simp only [marks_len, marksB_len, marksR_len, sumL_marksS]; omega)) (by first | assumption | omega | (simp only [marks_len, marksB_len, marksR_len, sumL_marksS]; omega))) (fun rv13 w30 hR => ?_))
  obtain ⟨hXw30, v38, og38, v39, og39, v40, og40, v41, og41, rfl, ho38, hq38, ho39, hq39, ho40, hq40, ho41, hq41, hd38_39, hd38_40, hd38_41, hd39_40, hd39_41, hd40_41⟩ := hR
  have hl38 := Lo.up hq38 hB
  have hv38 := Lo.up hq38 hS
  have hd1_38 := Dj.lo hb1.ltO hq38
  have hd2_38 := Dj.lo hb2.ltO hq38
  have hd3_38 := Dj.lo ho3.ltO hq38
  have hd4_38 := Dj.lo ho4.ltO hq38
  have hd5_38 := Dj.lo ho5.ltO hq38
  have hd6_38 := Dj.lo ho6.ltO hq38
  have hd7_38 := Dj.lo ho7.ltO hq38
  have hd8_38 := Dj.lo ho8.ltO hq38
  have hd9_38 := Dj.lo ho9.ltO hq38
  have hd10_38 := Dj.lo ho10.ltO hq38
  have hd11_38 := Dj.lo ho11.ltO hq38
  have hd12_38 := Dj.lo ho12.ltO hq38
  have hd13_38 := Dj.lo ho13.ltO hq38
  have hd14_38 := Dj.lo ho14.ltO hq38
  have hd15_38 := Dj.lo ho15.ltO hq38
  have hd16_38 := Dj.lo hb16.ltO hq38
  have hd17_38 := Dj.lo ho17.ltO hq38
  have hd18_38 := Dj.lo ho18.ltO hq38
  have hd19_38 := Dj.lo ho19.ltO hq38
  have hd20_38 := Dj.lo ho20.ltO hq38
  have hd21_38 := Dj.lo hb21.ltO hq38
  have hd22_38 := Dj.lo ho22.ltO hq38
  have hd23_38 := Dj.lo ho23.ltO hq38
  have hd24_38 := Dj.lo ho24.ltO hq38
  have hd25_38 := Dj.lo ho25.ltO hq38
  have hd26_38 := Dj.lo ho26.ltO hq38
  have hd27_38 := Dj.lo ho27.ltO hq38
  have hd28_38 := Dj.lo ho28.ltO hq38
  have hd29_38 := Dj.lo ho29.ltO hq38
  have hd30_38 := Dj.lo ho30.ltO hq38
  have hd34_38 := Dj.lo ho34.ltO hq38
  have hd35_38 := Dj.lo ho35.ltO hq38
  have hd36_38 := Dj.lo ho36.ltO hq38
  have hd37_38 := Dj.lo ho37.ltO hq38
  have hl39 := Lo.up hq39 hB
  have hv39 := Lo.up hq39 hS
  have hd1_39 := Dj.lo hb1.ltO hq39
  have hd2_39 := Dj.lo hb2.ltO hq39
  have hd3_39 := Dj.lo ho3.ltO hq39
  have hd4_39 := Dj.lo ho4.ltO hq39
  have hd5_39 := Dj.lo ho5.ltO hq39
  have hd6_39 := Dj.lo ho6.ltO hq39
  have hd7_39 := Dj.lo ho7.ltO hq39
  have hd8_39 := Dj.lo ho8.ltO hq39
  have hd9_39 := Dj.lo ho9.ltO hq39
  have hd10_39 := Dj.lo ho10.ltO hq39
  have hd11_39 := Dj.lo ho11.ltO hq39
  have hd12_39 := Dj.lo ho12.ltO hq39
  have hd13_39 := Dj.lo ho13.ltO hq39
  have hd14_39 := Dj.lo ho14.ltO hq39
  have hd15_39 := Dj.lo ho15.ltO hq39
  have hd16_39 := Dj.lo hb16.ltO hq39
  have hd17_39 := Dj.lo ho17.ltO hq39
  have hd18_39 := Dj.lo ho18.ltO hq39
  have hd19_39 := Dj.lo ho19.ltO hq39
  have hd20_39 := Dj.lo ho20.ltO hq39
  have hd21_39 := Dj.lo hb21.ltO hq39
  have hd22_39 := Dj.lo ho22.ltO hq39
  have hd23_39 := Dj.lo ho23.ltO hq39
  have hd24_39 := Dj.lo ho24.ltO hq39
  have hd25_39 := Dj.lo ho25.ltO hq39
  have hd26_39 := Dj.lo ho26.ltO hq39
  have hd27_39 := Dj.lo ho27.ltO hq39
  have hd28_39 := Dj.lo ho28.ltO hq39
  have hd29_39 := Dj.lo ho29.ltO hq39
  have hd30_39 := Dj.lo ho30.ltO hq39
  have hd34_39 := Dj.lo ho34.ltO hq39
  have hd35_39 := Dj.lo ho35.ltO hq39
  have hd36_39 := Dj.lo ho36.ltO hq39
  have hd37_39 := Dj.lo ho37.ltO hq39
  have hl40 := Lo.up hq40 hB
  have hv40 := Lo.up hq40 hS
  have hd1_40 := Dj.lo hb1.ltO hq40
  have hd2_40 := Dj.lo hb2.ltO hq40
  have hd3_40 := Dj.lo ho3.ltO hq40
  have hd4_40 := Dj.lo ho4.ltO hq40
  have hd5_40 := Dj.lo ho5.ltO hq40
  have hd6_40 := Dj.lo ho6.ltO hq40
  have hd7_40 := Dj.lo ho7.ltO hq40
  have hd8_40 := Dj.lo ho8.ltO hq40
  have hd9_40 := Dj.lo ho9.ltO hq40
  have hd10_40 := Dj.lo ho10.ltO hq40
  have hd11_40 := Dj.lo ho11.ltO hq40
  have hd12_40 := Dj.lo ho12.ltO hq40
  have hd13_40 := Dj.lo ho13.ltO hq40
  have hd14_40 := Dj.lo ho14.ltO hq40
  have hd15_40 := Dj.lo ho15.ltO hq40
  have hd16_40 := Dj.lo hb16.ltO hq40
  have hd17_40 := Dj.lo ho17.ltO hq40
  have hd18_40 := Dj.lo ho18.ltO hq40
  have hd19_40 := Dj.lo ho19.ltO hq40
  have hd20_40 := Dj.lo ho20.ltO hq40
  have hd21_40 := Dj.lo hb21.ltO hq40
  have hd22_40 := Dj.lo ho22.ltO hq40
  have hd23_40 := Dj.lo ho23.ltO hq40
  have hd24_40 := Dj.lo ho24.ltO hq40
  have hd25_40 := Dj.lo ho25.ltO hq40
  have hd26_40 := Dj.lo ho26.ltO hq40
  have hd27_40 := Dj.lo ho27.ltO hq40
  have hd28_40 := Dj.lo ho28.ltO hq40
  have hd29_40 := Dj.lo ho29.ltO hq40
  have hd30_40 := Dj.lo ho30.ltO hq40
  have hd34_40 := Dj.lo ho34.ltO hq40
  have hd35_40 := Dj.lo ho35.ltO hq40
  have hd36_40 := Dj.lo ho36.ltO hq40
  have hd37_40 := Dj.lo ho37.ltO hq40
  have hl41 := Lo.up hq41 hB
  have hv41 := Lo.up hq41 hS
  have hd1_41 := Dj.lo hb1.ltO hq41
  have hd2_41 := Dj.lo hb2.ltO hq41
  have hd3_41 := Dj.lo ho3.ltO hq41
  have hd4_41 := Dj.lo ho4.ltO hq41
  have hd5_41 := Dj.lo ho5.ltO hq41
  have hd6_41 := Dj.lo ho6.ltO hq41
  have hd7_41 := Dj.lo ho7.ltO hq41
  have hd8_41 := Dj.lo ho8.ltO hq41
  have hd9_41 := Dj.lo ho9.ltO hq41
  have hd10_41 := Dj.lo ho10.ltO hq41
  have hd11_41 := Dj.lo ho11.ltO hq41
  have hd12_41 := Dj.lo ho12.ltO hq41
  have hd13_41 := Dj.lo ho13.ltO hq41
  have hd14_41 := Dj.lo ho14.ltO hq41
  have hd15_41 := Dj.lo ho15.ltO hq41
  have hd16_41 := Dj.lo hb16.ltO hq41
  have hd17_41 := Dj.lo ho17.ltO hq41
  have hd18_41 := Dj.lo ho18.ltO hq41
  have hd19_41 := Dj.lo ho19.ltO hq41
  have hd20_41 := Dj.lo ho20.ltO hq41
  have hd21_41 := Dj.lo hb21.ltO hq41
  have hd22_41 := Dj.lo ho22.ltO hq41
  have hd23_41 := Dj.lo ho23.ltO hq41
  have hd24_41 := Dj.lo ho24.ltO hq41
  have hd25_41 := Dj.lo ho25.ltO hq41
  have hd26_41 := Dj.lo ho26.ltO hq41
  have hd27_41 := Dj.lo ho27.ltO hq41
  have hd28_41 := Dj.lo ho28.ltO hq41
  have hd29_41 := Dj.lo ho29.ltO hq41
  have hd30_41 := Dj.lo ho30.ltO hq41
  have hd34_41 := Dj.lo ho34.ltO hq41
  have hd35_41 := Dj.lo ho35.ltO hq41
  have hd36_41 := Dj.lo ho36.ltO hq41
  have hd37_41 := Dj.lo ho37.ltO hq41
  refine ⟨Upd.trans hS hXw30, ?_⟩
  have hS := Upd.trans hS hXw30
  have hB := hB.trans hXw30
  have hb1 := hb1.up hXw30
  have hb2 := hb2.up hXw30
  have ho3 := ho3.up hXw30
  have ho4 := ho4.up hXw30
  have ho5 := ho5.up hXw30
  have ho6 := ho6.up hXw30
  have ho7 := ho7.up hXw30
  have ho8 := ho8.up hXw30
  have ho9 := ho9.up hXw30
  have ho10 := ho10.up hXw30
  have ho11 := ho11.up hXw30
  have ho12 := ho12.up hXw30
  have ho13 := ho13.up hXw30
  have ho14 := ho14.up hXw30
  have ho15 := ho15.up hXw30
  have hb16 := hb16.up hXw30
  have ho17 := ho17.up hXw30
  have ho18 := ho18.up hXw30
  have ho19 := ho19.up hXw30
  have ho20 := ho20.up hXw30
  have hb21 := hb21.up hXw30
  have ho22 := ho22.up hXw30
  have ho23 := ho23.up hXw30
  have ho24 := ho24.up hXw30
  have ho25 := ho25.up hXw30
  have ho26 := ho26.up hXw30
  have ho27 := ho27.up hXw30
  have ho28 := ho28.up hXw30
  have ho29 := ho29.up hXw30
  have ho30 := ho30.up hXw30
  have ho34 := ho34.up hXw30
  have ho35 := ho35.up hXw30
  have ho36 := ho36.up hXw30
  have ho37 := ho37.up hXw30
  refine HP.must rfl rfl (OpK.call rfl T.cf43 rfl (c_impl_OrderWord (c := (xa0, xa1, xa2, xa3)) (c2 := (xb0, xb1, xb2, xb3)) (by first | assumption | exact Rd.up (by assumption) hB | exact Osl.rd (by assumption) | exact Osn.rdR (by assumption) | exact NL.rd (by assumption) | exact rdII (by assumption) (by assumption) | exact Inn.rd (by assumption) (by omega)) (by first | assumption | exact Rd.up (by assumption) hB | exact Osl.rd (by assumption) | exact Osn.rdR (by assumption) | exact NL.rd (by assumption) | exact rdII (by assumption) (by assumption) | exact Inn.rd (by assumption) (by omega)) (by first | assumption | exact Rd.up (by assumption) hB | exact Osl.rd (by assumption) | exact Osn.rdR (by assumption) | exact NL.rd (by assumption) | exact rdII (by assumption) (by assumption) | exact Inn.rd (by assumption) (by omega)) (by first | assumption | exact Rd.up (by assumption) hB | exact Osl.rd (by assumption) | exact Osn.rdR (by assumption) | exact NL.rd (by assumption) | exact rdII (by assumption) (by assumption) | exact Inn.rd (by assumption) (by omega)) (by first | assumption | exact Rd.up (by assumption) hB | exact Osl.rd (by assumption) | exact Osn.rdR (by assumption) | exact NL.rd (by assumption) | exact rdII (by assumption) (by assumption) | exact Inn.rd (by assumption) (by omega)) (by first | assumption | exact Rd.up (by assumption) hB | exact Osl.rd (by assumption) | exact Osn.rdR (by assumption) | exact NL.rd (by assumption) | exact rdII (by assumption) (by assumption) | exact Inn.rd (by assumption) (by omega)) (by first | assumption | exact Rd.up (by assumption) hB | exact Osl.rd (by assumption) | exact Osn.rdR (by assumption) | exact NL.rd (by assumption) | exact rdII (by assumption) (by assumption) | exact Inn.rd (by assumption) (by omega)) (by first | assumption | exact Rd.up (by assumption) hB | exact Osl.rd (by assumption) | exact Osn.rdR (by assumption) | exact NL.rd (by assumption) | exact rdII (by assumption) (by assumption) | exact Inn.rd (by assumption) (by omega))) (fun rv14 w31 hR => ?_))
  obtain ⟨hXw31, v42, og42, rfl, ho42, hq42⟩ := hR
  have hl42 := Lo.up hq42 hB
  have hv42 := Lo.up hq42 hS
  have hd1_42 := Dj.lo hb1.ltO hq42
  have hd2_42 := Dj.lo hb2.ltO hq42
  have hd3_42 := Dj.lo ho3.ltO hq42
  have hd4_42 := Dj.lo ho4.ltO hq42
  have hd5_42 := Dj.lo ho5.ltO hq42
  have hd6_42 := Dj.lo ho6.ltO hq42
  have hd7_42 := Dj.lo ho7.ltO hq42
  have hd8_42 := Dj.lo ho8.ltO hq42
  have hd9_42 := Dj.lo ho9.ltO hq42
  have hd10_42 := Dj.lo ho10.ltO hq42
  have hd11_42 := Dj.lo ho11.ltO hq42
  have hd12_42 := Dj.lo ho12.ltO hq42
  have hd13_42 := Dj.lo ho13.ltO hq42
  have hd14_42 := Dj.lo ho14.ltO hq42
  have hd15_42 := Dj.lo ho15.ltO hq42
  have hd16_42 := Dj.lo hb16.ltO hq42
  have hd17_42 := Dj.lo ho17.ltO hq42
  have hd18_42 := Dj.lo ho18.ltO hq42
  have hd19_42 := Dj.lo ho19.ltO hq42
  have hd20_42 := Dj.lo ho20.ltO hq42
  have hd21_42 := Dj.lo hb21.ltO hq42
  have hd22_42 := Dj.lo ho22.ltO hq42
  have hd23_42 := Dj.lo ho23.ltO hq42
  have hd24_42 := Dj.lo ho24.ltO hq42
  have hd25_42 := Dj.lo ho25.ltO hq42
  have hd26_42 := Dj.lo ho26.ltO hq42
  have hd27_42 := Dj.lo ho27.ltO hq42
  have hd28_42 := Dj.lo ho28.ltO hq42
  have hd29_42 := Dj.lo ho29.ltO hq42
  have hd30_42 := Dj.lo ho30.ltO hq42
  have hd34_42 := Dj.lo ho34.ltO hq42
  have hd35_42 := Dj.lo ho35.ltO hq42
  have hd36_42 := Dj.lo ho36.ltO hq42
  have hd37_42 := Dj.lo ho37.ltO hq42
  have hd38_42 := Dj.lo ho38.ltO hq42
  have hd39_42 := Dj.lo ho39.ltO hq42
  have hd40_42 := Dj.lo ho40.ltO hq42
  have hd41_42 := Dj.lo ho41.ltO hq42
  refine ⟨Upd.trans hS hXw31, ?_⟩
  have hS := Upd.trans hS hXw31
  have hB := hB.trans hXw31
  have hb1 := hb1.up hXw31
  have hb2 := hb2.up hXw31
  have ho3 := ho3.up hXw31
  have ho4 := ho4.up hXw31
  have ho5 := ho5.up hXw31
  have ho6 := ho6.up hXw31
  have ho7 := ho7.up hXw31
  have ho8 := ho8.up hXw31
  have ho9 := ho9.up hXw31
  have ho10 := ho10.up hXw31
  have ho11 := ho11.up hXw31
  have ho12 := ho12.up hXw31
  have ho13 := ho13.up hXw31
  have ho14 := ho14.up hXw31
  have ho15 := ho15.up hXw31
  have hb16 := hb16.up hXw31
  have ho17 := ho17.up hXw31
  have ho18 := ho18.up hXw31
  have ho19 := ho19.up hXw31
  have ho20 := ho20.up hXw31
  have hb21 := hb21.up hXw31
  have ho22 := ho22.up hXw31
  have ho23 := ho23.up hXw31
  have ho24 := ho24.up hXw31
  have ho25 := ho25.up hXw31
  have ho26 := ho26.up hXw31
  have ho27 := ho27.up hXw31
  have ho28 := ho28.up hXw31
  have ho29 := ho29.up hXw31
  have ho30 := ho30.up hXw31
  have ho34 := ho34.up hXw31
  have ho35 := ho35.up hXw31
  have ho36 := ho36.up hXw31
  have ho37 := ho37.up hXw31
  have ho38 := ho38.up hXw31
  have ho39 := ho39.up hXw31
  have ho40 := ho40.up hXw31
  have ho41 := ho41.up hXw31
  refine HP.take rfl rfl rfl rfl hS (fun wS hS1 => PV.move rfl) ?_
  refine HP.take rfl rfl rfl rfl hS (fun wS hS1 => PV.extract rfl rfl) ?_
  refine HP.take rfl rfl rfl rfl hS (fun wS hS1 => PV.extract rfl rfl) ?_
  refine HP.take rfl rfl rfl rfl hS (fun wS hS1 => PV.assign rfl) ?_
  refine HP.take rfl rfl rfl rfl hS (fun wS hS1 => PV.assign rfl) ?_
  refine HP.doneS ?_
  refine CW.seq ?_
  refine CW.seq ?_
  refine CW.reg ?_
  refine WL.pure rfl rfl rfl (PV.move rfl) ?_
  refine WL.pure rfl rfl rfl (PV.move rfl) ?_
  refine WL.op rfl (OpK.callR rfl T.cf22 rfl (c_laws_eqInt64S (by first | assumption | exact Rd.up (by assumption) hB | exact Osl.rd (by assumption) | exact Osn.rdR (by assumption) | exact NL.rd (by assumption) | exact rdII (by assumption) (by assumption) | exact Inn.rd (by assumption) (by omega)) (by first | assumption | exact Rd.up (by assumption) hB | exact Osl.rd (by assumption) | exact Osn.rdR (by assumption) | exact NL.rd (by assumption) | exact rdII (by assumption) (by assumption) | exact Inn.rd (by assumption) (by omega))) (fun w32 hXw32 => ?_))
  have hB := hB.trans hXw32
  have hb1 := hb1.up hXw32
  have hb2 := hb2.up hXw32
  have ho3 := ho3.up hXw32
  have ho4 := ho4.up hXw32
  have ho5 := ho5.up hXw32
  have ho6 := ho6.up hXw32
  have ho7 := ho7.up hXw32
  have ho8 := ho8.up hXw32
  have ho9 := ho9.up hXw32
  have ho10 := ho10.up hXw32
  have ho11 := ho11.up hXw32
  have ho12 := ho12.up hXw32
  have ho13 := ho13.up hXw32
  have ho14 := ho14.up hXw32
  have ho15 := ho15.up hXw32
  have hb16 := hb16.up hXw32
  have ho17 := ho17.up hXw32
  have ho18 := ho18.up hXw32
  have ho19 := ho19.up hXw32
  have ho20 := ho20.up hXw32
  have hb21 := hb21.up hXw32
  have ho22 := ho22.up hXw32
  have ho23 := ho23.up hXw32
  have ho24 := ho24.up hXw32
  have ho25 := ho25.up hXw32
  have ho26 := ho26.up hXw32
  have ho27 := ho27.up hXw32
  have ho28 := ho28.up hXw32
  have ho29 := ho29.up hXw32
  have ho30 := ho30.up hXw32
  have ho34 := ho34.up hXw32
  have ho35 := ho35.up hXw32
  have ho36 := ho36.up hXw32
  have ho37 := ho37.up hXw32
  have ho38 := ho38.up hXw32
  have ho39 := ho39.up hXw32
  have ho40 := ho40.up hXw32
  have ho41 := ho41.up hXw32
  have ho42 := ho42.up hXw32
  refine WL.pure rfl rfl rfl (PV.not rfl) ?_
  refine WL.pure rfl rfl rfl (PV.move rfl) ?_
  refine WL.split (t := 116) rfl (fun hc12 => ?_) (fun hc12 => ?_)
  · skip
    try simp only [decide_eq_true_eq, decide_eq_false_iff_not, Bool.not_eq_true', Bool.not_eq_false', Bool.not_eq_eq_eq_not, Bool.not_true, Bool.not_false, Int.not_lt, Int.not_le, Classical.not_not, beq_iff_eq, beq_eq_false_iff_ne] at hc12
    refine WL.skip rfl rfl rfl rfl rfl ?_
    refine WL.skip rfl rfl rfl rfl rfl ?_
    refine WL.skip rfl rfl rfl rfl rfl ?_
    refine WL.pure rfl rfl rfl (PV.pickT rfl rfl) ?_
    refine WL.nilS ?_
    refine CW.condT rfl ?_
    refine CW.seq ?_
    refine CW.reg ?_
    refine WL.pure rfl rfl rfl (PV.assign rfl) ?_
    refine WL.nilS ?_
    refine CW.ret ?_
    refine RQ.then ?_
    refine RQ.r1 rfl ?_
    refine ⟨?_, hB⟩
    first | rfl | (exfalso; revert hc12; simp; done) | (exfalso; revert hc12; simp; omega) | (exfalso; omega) | first | rfl | exact bT (by omega) | exact bF (by omega) | exact bD (by omega) | exact iE (by omega) | (simp_all; done) | (simp_all; omega) | (simp_all; intros; omega)
  try simp only [decide_eq_true_eq, decide_eq_false_iff_not, Bool.not_eq_true', Bool.not_eq_false', Bool.not_eq_eq_eq_not, Bool.not_true, Bool.not_false, Int.not_lt, Int.not_le, Classical.not_not, beq_iff_eq, beq_eq_false_iff_ne] at hc12
  refine WL.pureG rfl rfl rfl rfl rfl (PV.move rfl) ?_
  refine WL.pureG rfl rfl rfl rfl rfl (PV.move rfl) ?_
  refine WL.pureG rfl rfl rfl rfl rfl (PV.neqB T.bl4 rfl rfl) ?_
  refine WL.pure rfl rfl rfl (PV.pickF rfl rfl) ?_
  refine WL.nilS ?_
  refine CW.cond rfl (fun hc13 => ?_) (fun hc13 => ?_)
  · skip
    try simp only [decide_eq_true_eq, decide_eq_false_iff_not, Bool.not_eq_true', Bool.not_eq_false', Bool.not_eq_eq_eq_not, Bool.not_true, Bool.not_false, Int.not_lt, Int.not_le, Classical.not_not, beq_iff_eq, beq_eq_false_iff_ne] at hc13
    refine CW.seq ?_
    refine CW.reg ?_
    refine WL.pure rfl rfl rfl (PV.assign rfl) ?_
    refine WL.nilS ?_
    refine CW.ret ?_
    refine RQ.then ?_
    refine RQ.r1 rfl ?_
    refine ⟨?_, hB⟩
    first | rfl | (exfalso; revert hc13; simp; done) | (exfalso; revert hc13; simp; omega) | (exfalso; omega) | first | rfl | exact bT (by omega) | exact bF (by omega) | exact bD (by omega) | exact iE (by omega) | (simp_all; done) | (simp_all; omega) | (simp_all; intros; omega)
  try simp only [decide_eq_true_eq, decide_eq_false_iff_not, Bool.not_eq_true', Bool.not_eq_false', Bool.not_eq_eq_eq_not, Bool.not_true, Bool.not_false, Int.not_lt, Int.not_le, Classical.not_not, beq_iff_eq, beq_eq_false_iff_ne] at hc13
  refine CW.skipS ?_
  refine CW.seq ?_
  refine CW.reg ?_
  refine WL.pure rfl rfl rfl (PV.assign rfl) ?_
  refine WL.nilS ?_
  refine CW.seq ?_
  refine CW.reg ?_
  refine WL.pure rfl rfl rfl (PV.move rfl) ?_
  refine WL.pure rfl rfl rfl (PV.move rfl) ?_
  refine WL.op rfl (OpK.callR rfl T.cf41 rfl (c_laws_heldInt64S (by first | assumption | exact Rd.up (by assumption) hB | exact Osl.rd (by assumption) | exact Osn.rdR (by assumption) | exact NL.rd (by assumption) | exact rdII (by assumption) (by assumption) | exact Inn.rd (by assumption) (by omega)) (by first | assumption | omega | (simp only [marks_len, marksB_len, marksR_len, sumL_marksS]; omega))) (fun w33 hXw33 => ?_))
  have hB := hB.trans hXw33
  have hb1 := hb1.up hXw33
  have hb2 := hb2.up hXw33
  have ho3 := ho3.up hXw33
  have ho4 := ho4.up hXw33
  have ho5 := ho5.up hXw33
  have ho6 := ho6.up hXw33
  have ho7 := ho7.up hXw33
  have ho8 := ho8.up hXw33
  have ho9 := ho9.up hXw33
  have ho10 := ho10.up hXw33
  have ho11 := ho11.up hXw33
  have ho12 := ho12.up hXw33
  have ho13 := ho13.up hXw33
  have ho14 := ho14.up hXw33
  have ho15 := ho15.up hXw33
  have hb16 := hb16.up hXw33
  have ho17 := ho17.up hXw33
  have ho18 := ho18.up hXw33
  have ho19 := ho19.up hXw33
  have ho20 := ho20.up hXw33
  have hb21 := hb21.up hXw33
  have ho22 := ho22.up hXw33
  have ho23 := ho23.up hXw33
  have ho24 := ho24.up hXw33
  have ho25 := ho25.up hXw33
  have ho26 := ho26.up hXw33
  have ho27 := ho27.up hXw33
  have ho28 := ho28.up hXw33
  have ho29 := ho29.up hXw33
  have ho30 := ho30.up hXw33
  have ho34 := ho34.up hXw33
  have ho35 := ho35.up hXw33
  have ho36 := ho36.up hXw33
  have ho37 := ho37.up hXw33
  have ho38 := ho38.up hXw33
  have ho39 := ho39.up hXw33
  have ho40 := ho40.up hXw33
  have ho41 := ho41.up hXw33
  have ho42 := ho42.up hXw33
  refine WL.pure rfl rfl rfl (PV.assign rfl) ?_
  refine WL.nilS ?_
  refine CW.seq ?_
  refine CW.seq ?_
  refine CW.reg ?_
  refine WL.pure rfl rfl rfl (PV.move rfl) ?_
  refine WL.pure rfl rfl rfl (PV.lss rfl rfl) ?_
  refine WL.nilS ?_
  refine CW.cond rfl (fun hc14 => ?_) (fun hc14 => ?_)
  · skip
    try simp only [decide_eq_true_eq, decide_eq_false_iff_not, Bool.not_eq_true', Bool.not_eq_false', Bool.not_eq_eq_eq_not, Bool.not_true, Bool.not_false, Int.not_lt, Int.not_le, Classical.not_not, beq_iff_eq, beq_eq_false_iff_ne] at hc14
    refine CW.seq ?_
    refine CW.reg ?_
    refine WL.pure rfl rfl rfl (PV.assign rfl) ?_
    refine WL.nilS ?_
    refine CW.ret ?_
    refine RQ.then ?_
    refine RQ.r1 rfl ?_
    refine ⟨?_, hB⟩
    first | rfl | (exfalso; revert hc14; simp; done) | (exfalso; revert hc14; simp; omega) | (exfalso; omega) | first | rfl | exact bT (by omega) | exact bF (by omega) | exact bD (by omega) | exact iE (by omega) | (simp_all; done) | (simp_all; omega) | (simp_all; intros; omega)
  try simp only [decide_eq_true_eq, decide_eq_false_iff_not, Bool.not_eq_true', Bool.not_eq_false', Bool.not_eq_eq_eq_not, Bool.not_true, Bool.not_false, Int.not_lt, Int.not_le, Classical.not_not, beq_iff_eq, beq_eq_false_iff_ne] at hc14
  refine CW.skipS ?_
  refine CW.seq ?_
  refine CW.seq ?_
  refine CW.reg ?_
  refine WL.pure rfl rfl rfl (PV.move rfl) ?_
  refine WL.pure rfl rfl rfl (PV.move rfl) ?_
  refine WL.pure rfl rfl rfl (PV.neq rfl rfl) ?_
  refine WL.nilS ?_
  refine CW.cond rfl (fun hc15 => ?_) (fun hc15 => ?_)
  · skip
    try simp only [decide_eq_true_eq, decide_eq_false_iff_not, Bool.not_eq_true', Bool.not_eq_false', Bool.not_eq_eq_eq_not, Bool.not_true, Bool.not_false, Int.not_lt, Int.not_le, Classical.not_not, beq_iff_eq, beq_eq_false_iff_ne] at hc15
    refine CW.seq ?_
    refine CW.reg ?_
    refine WL.pure rfl rfl rfl (PV.assign rfl) ?_
    refine WL.nilS ?_
    refine CW.ret ?_
    refine RQ.then ?_
    refine RQ.r1 rfl ?_
    refine ⟨?_, hB⟩
    first | rfl | (exfalso; revert hc15; simp; done) | (exfalso; revert hc15; simp; omega) | (exfalso; omega) | first | rfl | exact bT (by omega) | exact bF (by omega) | exact bD (by omega) | exact iE (by omega) | (simp_all; done) | (simp_all; omega) | (simp_all; intros; omega)
  try simp only [decide_eq_true_eq, decide_eq_false_iff_not, Bool.not_eq_true', Bool.not_eq_false', Bool.not_eq_eq_eq_not, Bool.not_true, Bool.not_false, Int.not_lt, Int.not_le, Classical.not_not, beq_iff_eq, beq_eq_false_iff_ne] at hc15
  refine CW.skipS ?_
  refine CW.seq ?_
  refine CW.reg ?_
  refine WL.pure rfl rfl rfl (PV.assign rfl) ?_
  refine WL.nilS ?_
  refine CW.ret ?_
  refine RQ.r1 rfl ?_
  refine ⟨?_, hB⟩
  first | rfl | (exfalso; revert hc15; simp; done) | (exfalso; revert hc15; simp; omega) | (exfalso; omega) | first | rfl | exact bT (by omega) | exact bF (by omega) | exact bD (by omega) | exact iE (by omega) | (simp_all; done) | (simp_all; omega) | (simp_all; intros; omega)

end Go.Proofs.Ythjeebjgdeldkaa
