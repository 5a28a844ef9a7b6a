/- Walks of the functions that the law FnExactEitherGrammar reaches: each says what its function computes. No condition. -/
import Derived.Test.YtcnjfbhgicoogaaProg
import Derived.Test.YtcnjfbhgicoogaaLibM
import Derived.Test.YtcnjfbhgicoogaaPlA
import Derived.Test.YtcnjfbhgicoogaaPlG
import Derived.Test.YtcnjfbhgicoogaaPlE
import Derived.Test.YtcnjfbhgicoogaaWFnExactEitherGrammarb
namespace Go.Proofs.Ytcnjfbhgicoogaa
open Go Go.WX Go.Proofs
set_option linter.unusedSimpArgs false
set_option linter.unusedVariables false

set_option maxHeartbeats 8000000 in
theorem c_laws_FnExactEitherGrammar {w : World} {a0 : Int} {a1 : Int} {va2 : Value} {xa2 : List R4} {y0 : Int} {y1 : Int} {vy2 : Value} {xy2 : List R4}  (ha2 : Rd ER w va2 xa2) (hy2 : Rd ER w vy2 xy2) : Calls Try.prog 6 #[.agg #[.int .i64 a0, .int .i64 a1, va2], .agg #[.int .i64 y0, .int .i64 y1, vy2]] w (Ret1 (RQt (.bool true) w)) := by
  have hB : Ext w w := Ext.refl w
  have hla2 := ha2.leI; have hly2 := hy2.leI; have hgl := eith_len a0 a1 xa2 y0 y1 xy2
  refine callsOf (vs := [_, _]) Try.func6 rfl Try.ntmps6 rfl rfl ?_
  refine CW.seq ?_
  refine CW.reg ?_
  refine WL.op rfl (OpK.box rfl rfl (by first | rfl | exact Rd.cells1 (by assumption) | exact Osl.cells1 (by assumption) | exact Osn.cells1 (by assumption)) (fun b1 w1 hXw1 hb1 hge1 => ?_))
  have hl1 := Lo.new hB hge1
  have hB := hB.trans hXw1
  refine WL.op rfl (OpK.box rfl rfl (by first | rfl | exact Rd.cells1 (by assumption) | exact Osl.cells1 (by assumption) | exact Osn.cells1 (by assumption)) (fun b2 w2 hXw2 hb2 hge2 => ?_))
  have hl2 := Lo.new hB hge2
  have hd1_2 := Dj.new hb1.ltO hge2
  have hB := hB.trans hXw2
  have hb1 := hb1.up hXw2
  refine WL.pure rfl rfl rfl (PV.assign rfl) ?_
  refine WL.nilS ?_
  refine CW.seq ?_
  refine CW.reg ?_
  refine WL.pure rfl rfl rfl (PV.assign rfl) ?_
  refine WL.nilS ?_
  refine CW.seq ?_
  refine CW.reg ?_
  refine WL.pure rfl rfl rfl ((by first | exact PV.loadA T.ag24 rfl (by first | exact Cells.up (by assumption) hB | exact Bx.cells (by assumption) | assumption) (Ext.refl _) rfl | exact PV.loadP (ds := [_, _, _]) T.ag24 rfl (by first | exact Cells.up (by assumption) hB | exact Bx.cells (by assumption) | assumption) (Ext.refl _) rfl rfl)) ?_
  refine WL.pure rfl rfl rfl (PV.move rfl) ?_
  refine WL.op rfl (OpK.callR rfl T.cf15 rfl (c_laws_szGrammar (by first | assumption | exact Rd.up (by assumption) hB | exact Osl.rd (by assumption) | exact Osn.rdR (by assumption)) (by first | assumption | omega | (simp only [marks_len, marksB_len, marksR_len]; omega))) (fun w3 hXw3 => ?_))
  have hB := hB.trans hXw3
  have hb1 := hb1.up hXw3
  have hb2 := hb2.up hXw3
  refine WL.pure rfl rfl rfl (PV.assign rfl) ?_
  refine WL.nilS ?_
  refine CW.seq ?_
  refine CW.seq ?_
  refine CW.reg ?_
  refine WL.pure rfl rfl rfl (PV.move rfl) ?_
  refine WL.pure rfl rfl rfl (PV.lss rfl rfl) ?_
  refine WL.nilS ?_
  refine CW.cond rfl (fun hc1 => ?_) (fun hc1 => ?_)
  · skip
    try simp only [decide_eq_true_eq, decide_eq_false_iff_not, Bool.not_eq_true', Bool.not_eq_false', Bool.not_eq_eq_eq_not, Bool.not_true, Bool.not_false, Int.not_lt, Int.not_le, Classical.not_not, beq_iff_eq, beq_eq_false_iff_ne] at hc1
    refine CW.seq ?_
    refine CW.reg ?_
    refine WL.pure rfl rfl rfl (PV.assign rfl) ?_
    refine WL.nilS ?_
    refine CW.ret ?_
    refine RQ.then ?_
    refine RQ.r1 rfl ?_
    refine ⟨?_, hB⟩
    first | rfl | (exfalso; revert hc1; simp; done) | (exfalso; revert hc1; simp; omega) | (exfalso; omega) | first | rfl | exact bT (by omega) | exact bF (by omega) | exact bD (by omega) | exact iE (by omega) | (simp_all; done) | (simp_all; omega) | (simp_all; intros; omega)
  try simp only [decide_eq_true_eq, decide_eq_false_iff_not, Bool.not_eq_true', Bool.not_eq_false', Bool.not_eq_eq_eq_not, Bool.not_true, Bool.not_false, Int.not_lt, Int.not_le, Classical.not_not, beq_iff_eq, beq_eq_false_iff_ne] at hc1
  refine CW.skipS ?_
  refine CW.seq ?_
  refine CW.reg ?_
  refine WL.pure rfl rfl rfl ((by first | exact PV.loadA T.ag24 rfl (by first | exact Cells.up (by assumption) hB | exact Bx.cells (by assumption) | assumption) (Ext.refl _) rfl | exact PV.loadP (ds := [_, _, _]) T.ag24 rfl (by first | exact Cells.up (by assumption) hB | exact Bx.cells (by assumption) | assumption) (Ext.refl _) rfl rfl)) ?_
  refine WL.pure rfl rfl rfl (PV.move rfl) ?_
  refine WL.op rfl (OpK.callR rfl T.cf15 rfl (c_laws_szGrammar (by first | assumption | exact Rd.up (by assumption) hB | exact Osl.rd (by assumption) | exact Osn.rdR (by assumption)) (by first | assumption | omega | (simp only [marks_len, marksB_len, marksR_len]; omega))) (fun w4 hXw4 => ?_))
  have hB := hB.trans hXw4
  have hb1 := hb1.up hXw4
  have hb2 := hb2.up hXw4
  refine WL.pure rfl rfl rfl (PV.assign rfl) ?_
  refine WL.nilS ?_
  refine CW.seq ?_
  refine CW.seq ?_
  refine CW.reg ?_
  refine WL.pure rfl rfl rfl (PV.move rfl) ?_
  refine WL.pure rfl rfl rfl (PV.lss rfl rfl) ?_
  refine WL.nilS ?_
  refine CW.cond rfl (fun hc2 => ?_) (fun hc2 => ?_)
  · skip
    try simp only [decide_eq_true_eq, decide_eq_false_iff_not, Bool.not_eq_true', Bool.not_eq_false', Bool.not_eq_eq_eq_not, Bool.not_true, Bool.not_false, Int.not_lt, Int.not_le, Classical.not_not, beq_iff_eq, beq_eq_false_iff_ne] at hc2
    refine CW.seq ?_
    refine CW.reg ?_
    refine WL.pure rfl rfl rfl (PV.assign rfl) ?_
    refine WL.nilS ?_
    refine CW.ret ?_
    refine RQ.then ?_
    refine RQ.r1 rfl ?_
    refine ⟨?_, hB⟩
    first | rfl | (exfalso; revert hc2; simp; done) | (exfalso; revert hc2; simp; omega) | (exfalso; omega) | first | rfl | exact bT (by omega) | exact bF (by omega) | exact bD (by omega) | exact iE (by omega) | (simp_all; done) | (simp_all; omega) | (simp_all; intros; omega)
  try simp only [decide_eq_true_eq, decide_eq_false_iff_not, Bool.not_eq_true', Bool.not_eq_false', Bool.not_eq_eq_eq_not, Bool.not_true, Bool.not_false, Int.not_lt, Int.not_le, Classical.not_not, beq_iff_eq, beq_eq_false_iff_ne] at hc2
  refine CW.skipS ?_
  refine CW.cut (σk := [(2, _), (3, _)]) (fun ρ wz => ∃ (v4 : Value) (og4 : Option Nat) (b3 : Addr), ρ = [(6, .pointer (some b3)), (7, .bool (eithB a0 a1 xa2 y0 y1 xy2))] ∧ Ext w4 wz ∧ Osn 4 gR wz og4 v4 (onT (eithB a0 a1 xa2 y0 y1 xy2) (eithL a0 xa2 xy2)) ∧ Lo w og4 ∧ Bx wz b3 [.int .i64 (onI (eithB a0 a1 xa2 y0 y1 xy2) (1 + a0 + y0)), .int .i64 (onI (eithB a0 a1 xa2 y0 y1 xy2) a1), v4] ∧ Lo w (some b3.block) ∧ Dj (some b1.block) og4 ∧ Dj (some b1.block) (some b3.block) ∧ Dj (some b2.block) og4 ∧ Dj (some b2.block) (some b3.block) ∧ Dj og4 (some b3.block)) ⟨rfl, rfl, trivial⟩ ?_ ?_
  · skip
    have hB0 := Ext.refl w4
    refine CW.draw T.mixed (by kernel_rfl) (fun _ _ _ _ _ h => h) (fun w8 w9 => Upd none w8 w9) 11 (.take 0 (.take 2 (.fork 1 8 (.fork 3 8 (.fork 4 8 (.take 5 (.take 6 (.take 7 (.must 8 (.must 9 (.take 10 .done)))))) (.must 4 (.take 5 (.take 6 (.take 7 (.must 9 (.take 10 .done))))))) (.must 3 (.must 4 (.take 5 (.take 6 (.take 7 (.must 9 (.take 10 .done)))))))) (.must 1 (.must 3 (.must 4 (.take 5 (.take 6 (.take 7 (.must 9 (.take 10 .done))))))))))) (by kernel_rfl) (fun w5 hXd => ?_)
    have hB := hB.trans hXd
    have hBc := (by first | exact hBc.trans hXd | exact hB0.trans hXd)
    have hb1 := hb1.up hXd
    have hb2 := hb2.up hXd
    have hBr := hB
    have hS : Upd none w5 w5 := Ext.toUpd (Ext.refl _)
    refine HP.take rfl rfl rfl rfl hS (fun wS hS1 => (by first | exact PV.loadA T.ag24 rfl (by first | exact Cells.up (by assumption) (hBr.trans hS1) | exact Bx.cells (Bx.updD (by assumption) hS1 (Dj.nlR _)) | exact Cells.upd (by assumption) hS1 (by simp)) (Ext.refl _) rfl | exact PV.loadP (ds := [_, _, _]) T.ag24 rfl (by first | exact Cells.up (by assumption) (hBr.trans hS1) | exact Bx.cells (Bx.updD (by assumption) hS1 (Dj.nlR _)) | exact Cells.upd (by assumption) hS1 (by simp)) (Ext.refl _) rfl rfl)) ?_
    refine HP.take rfl rfl rfl rfl hS (fun wS hS1 => (by first | exact PV.loadA T.ag24 rfl (by first | exact Cells.up (by assumption) (hBr.trans hS1) | exact Bx.cells (Bx.updD (by assumption) hS1 (Dj.nlR _)) | exact Cells.upd (by assumption) hS1 (by simp)) (Ext.refl _) rfl | exact PV.loadP (ds := [_, _, _]) T.ag24 rfl (by first | exact Cells.up (by assumption) (hBr.trans hS1) | exact Bx.cells (Bx.updD (by assumption) hS1 (Dj.nlR _)) | exact Cells.upd (by assumption) hS1 (by simp)) (Ext.refl _) rfl rfl)) ?_
    refine HP.fork rfl rfl rfl rfl ?_ ?_
    · skip
      refine (OpK.call rfl T.cf17 rfl (c_laws_toGrammar (by first | assumption | exact Rd.up (by assumption) hB | exact Osl.rd (by assumption) | exact Osn.rdR (by assumption)) (by first | assumption | omega | (simp only [marks_len, marksB_len, marksR_len]; omega))) (fun rv1 w6 hR => ?_))
      obtain ⟨hXw6, v5, og5, rfl, ho5, hq5⟩ := hR
      have hl5 := Lo.up hq5 hB
      have hv5 := Lo.up hq5 hS
      have hd1_5 := Dj.lo hb1.ltO hq5
      have hd2_5 := Dj.lo hb2.ltO hq5
      refine ⟨Upd.trans hS hXw6, ?_⟩
      have hS := Upd.trans hS hXw6
      have hB := hB.trans hXw6
      have hBc := (by first | exact hBc.trans hXw6 | exact hB0.trans hXw6)
      have hb1 := hb1.up hXw6
      have hb2 := hb2.up hXw6
      refine HP.fork rfl rfl rfl rfl ?_ ?_
      · skip
        refine (OpK.call rfl T.cf17 rfl (c_laws_toGrammar (by first | assumption | exact Rd.up (by assumption) hB | exact Osl.rd (by assumption) | exact Osn.rdR (by assumption)) (by first | assumption | omega | (simp only [marks_len, marksB_len, marksR_len]; omega))) (fun rv2 w7 hR => ?_))
        obtain ⟨hXw7, v6, og6, rfl, ho6, hq6⟩ := hR
        have hl6 := Lo.up hq6 hB
        have hv6 := Lo.up hq6 hS
        have hd1_6 := Dj.lo hb1.ltO hq6
        have hd2_6 := Dj.lo hb2.ltO hq6
        have hd5_6 := Dj.lo ho5.ltO hq6
        refine ⟨Upd.trans hS hXw7, ?_⟩
        have hS := Upd.trans hS hXw7
        have hB := hB.trans hXw7
        have hBc := (by first | exact hBc.trans hXw7 | exact hB0.trans hXw7)
        have hb1 := hb1.up hXw7
        have hb2 := hb2.up hXw7
        have ho5 := ho5.up hXw7
        refine HP.fork rfl rfl rfl rfl ?_ ?_
        · skip
          refine (OpK.call rfl T.cf26 rfl (c_spec_EitherGrammar (by first | assumption | exact Rd.up (by assumption) hB | exact Osl.rd (by assumption) | exact Osn.rdR (by assumption)) (by first | assumption | exact Rd.up (by assumption) hB | exact Osl.rd (by assumption) | exact Osn.rdR (by assumption))) (fun rv3 w8 hR => ?_))
          obtain ⟨hXw8, v7, og7, rfl, ho7, hq7⟩ := hR
          have hl7 := Lo.up hq7 hB
          have hv7 := Lo.up hq7 hS
          have hd1_7 := Dj.lo hb1.ltO hq7
          have hd2_7 := Dj.lo hb2.ltO hq7
          have hd5_7 := Dj.lo ho5.ltO hq7
          have hd6_7 := Dj.lo ho6.ltO hq7
          refine ⟨Upd.trans hS hXw8, ?_⟩
          have hS := Upd.trans hS hXw8
          have hB := hB.trans hXw8
          have hBc := (by first | exact hBc.trans hXw8 | exact hB0.trans hXw8)
          have hb1 := hb1.up hXw8
          have hb2 := hb2.up hXw8
          have ho5 := ho5.up hXw8
          have ho6 := ho6.up hXw8
          refine HP.take rfl rfl rfl rfl hS (fun wS hS1 => PV.move rfl) ?_
          refine HP.take rfl rfl rfl rfl hS (fun wS hS1 => PV.extract rfl rfl) ?_
          refine HP.take rfl rfl rfl rfl hS (fun wS hS1 => PV.extract rfl rfl) ?_
          refine HP.must rfl rfl (OpK.alloc rfl T.zv29 rfl (fun b8 w9 hXw9 hb8 hge8 => ?_))
          have hl8 := Lo.new hB hge8
          have hv8 := Lo.new hS hge8
          have hd1_8 := Dj.new hb1.ltO hge8
          have hd2_8 := Dj.new hb2.ltO hge8
          have hd5_8 := Dj.new ho5.ltO hge8
          have hd6_8 := Dj.new ho6.ltO hge8
          have hd7_8 := Dj.new ho7.ltO hge8
          refine ⟨Upd.trans hS hXw9, ?_⟩
          have hS := Upd.trans hS hXw9
          have hB := hB.trans hXw9
          have hBc := (by first | exact hBc.trans hXw9 | exact hB0.trans hXw9)
          have hb1 := hb1.up hXw9
          have hb2 := hb2.up hXw9
          have ho5 := ho5.up hXw9
          have ho6 := ho6.up hXw9
          have ho7 := ho7.up hXw9
          refine HP.must rfl rfl (OpK.storeA T.sz29 rfl rfl rfl rfl (by simp [Value.oneCell'] <;> first | done | (repeat' apply And.intro) <;> first | rfl | exact Osl.oneCell (by assumption) | exact Osn.oneCell (by assumption) | exact Rd.oneCell (by assumption) | assumption) hb8 (fun w10 hXw10 hb8 => ?_))
          refine ⟨Ext.updL hS hXw10 hv8, ?_⟩
          have hS := Ext.updL hS hXw10 hv8
          have hB := hB.updL hXw10 hl8
          have hBc := hBc.updL hXw10 (Lo.up hv8 hXd)
          have hb1 := hb1.updD hXw10 hd1_8
          have hb2 := hb2.updD hXw10 hd2_8
          have ho5 := ho5.updD hXw10 hd5_8
          have ho6 := ho6.updD hXw10 hd6_8
          have ho7 := ho7.updD hXw10 hd7_8
          refine HP.take rfl rfl rfl rfl hS (fun wS hS1 => PV.assign rfl) ?_
          refine HP.done ?_
          exact NQ.cut (ρ := [(6, _), (7, _)]) ⟨rfl, rfl, rfl, rfl, trivial⟩ ⟨v7, og7, b8, rfl, hBc, ho7, hl7, hb8, hl8, hd1_7, hd1_8, hd2_7, hd2_8, hd7_8⟩
        · skip
          refine (OpK.alloc rfl T.zv29 rfl (fun b9 w11 hXw11 hb9 hge9 => ?_))
          have hl9 := Lo.new hB hge9
          have hv9 := Lo.new hS hge9
          have hd1_9 := Dj.new hb1.ltO hge9
          have hd2_9 := Dj.new hb2.ltO hge9
          have hd5_9 := Dj.new ho5.ltO hge9
          have hd6_9 := Dj.new ho6.ltO hge9
          refine ⟨Upd.trans hS hXw11, ?_⟩
          have hS := Upd.trans hS hXw11
          have hB := hB.trans hXw11
          have hBc := (by first | exact hBc.trans hXw11 | exact hB0.trans hXw11)
          have hb1 := hb1.up hXw11
          have hb2 := hb2.up hXw11
          have ho5 := ho5.up hXw11
          have ho6 := ho6.up hXw11
          refine HP.must rfl rfl (OpK.call rfl T.cf26 rfl (c_spec_EitherGrammar (by first | assumption | exact Rd.up (by assumption) hB | exact Osl.rd (by assumption) | exact Osn.rdR (by assumption)) (by first | assumption | exact Rd.up (by assumption) hB | exact Osl.rd (by assumption) | exact Osn.rdR (by assumption))) (fun rv4 w12 hR => ?_))
          obtain ⟨hXw12, v10, og10, rfl, ho10, hq10⟩ := hR
          have hl10 := Lo.up hq10 hB
          have hv10 := Lo.up hq10 hS
          have hd1_10 := Dj.lo hb1.ltO hq10
          have hd2_10 := Dj.lo hb2.ltO hq10
          have hd5_10 := Dj.lo ho5.ltO hq10
          have hd6_10 := Dj.lo ho6.ltO hq10
          have hd9_10 := Dj.lo hb9.ltO hq10
          refine ⟨Upd.trans hS hXw12, ?_⟩
          have hS := Upd.trans hS hXw12
          have hB := hB.trans hXw12
          have hBc := (by first | exact hBc.trans hXw12 | exact hB0.trans hXw12)
          have hb1 := hb1.up hXw12
          have hb2 := hb2.up hXw12
          have ho5 := ho5.up hXw12
          have ho6 := ho6.up hXw12
          have hb9 := hb9.up hXw12
          refine HP.take rfl rfl rfl rfl hS (fun wS hS1 => PV.move rfl) ?_
          refine HP.take rfl rfl rfl rfl hS (fun wS hS1 => PV.extract rfl rfl) ?_
          refine HP.take rfl rfl rfl rfl hS (fun wS hS1 => PV.extract rfl rfl) ?_
          refine HP.must rfl rfl (OpK.storeA T.sz29 rfl rfl rfl rfl (by simp [Value.oneCell'] <;> first | done | (repeat' apply And.intro) <;> first | rfl | exact Osl.oneCell (by assumption) | exact Osn.oneCell (by assumption) | exact Rd.oneCell (by assumption) | assumption) hb9 (fun w13 hXw13 hb9 => ?_))
          refine ⟨Ext.updL hS hXw13 hv9, ?_⟩
          have hS := Ext.updL hS hXw13 hv9
          have hB := hB.updL hXw13 hl9
          have hBc := hBc.updL hXw13 (Lo.up hv9 hXd)
          have hb1 := hb1.updD hXw13 hd1_9
          have hb2 := hb2.updD hXw13 hd2_9
          have ho5 := ho5.updD hXw13 hd5_9
          have ho6 := ho6.updD hXw13 hd6_9
          have ho10 := ho10.updD hXw13 (Dj.symm hd9_10)
          refine HP.take rfl rfl rfl rfl hS (fun wS hS1 => PV.assign rfl) ?_
          refine HP.done ?_
          exact NQ.cut (ρ := [(6, _), (7, _)]) ⟨rfl, rfl, rfl, rfl, trivial⟩ ⟨v10, og10, b9, rfl, hBc, ho10, hl10, hb9, hl9, hd1_10, hd1_9, hd2_10, hd2_9, (Dj.symm hd9_10)⟩
      · skip
        refine (OpK.alloc rfl T.zv29 rfl (fun b11 w14 hXw14 hb11 hge11 => ?_))
        have hl11 := Lo.new hB hge11
        have hv11 := Lo.new hS hge11
        have hd1_11 := Dj.new hb1.ltO hge11
        have hd2_11 := Dj.new hb2.ltO hge11
        have hd5_11 := Dj.new ho5.ltO hge11
        refine ⟨Upd.trans hS hXw14, ?_⟩
        have hS := Upd.trans hS hXw14
        have hB := hB.trans hXw14
        have hBc := (by first | exact hBc.trans hXw14 | exact hB0.trans hXw14)
        have hb1 := hb1.up hXw14
        have hb2 := hb2.up hXw14
        have ho5 := ho5.up hXw14
        refine HP.must rfl rfl (OpK.call rfl T.cf17 rfl (c_laws_toGrammar (by first | assumption | exact Rd.up (by assumption) hB | exact Osl.rd (by assumption) | exact Osn.rdR (by assumption)) (by first | assumption | omega | (simp only [marks_len, marksB_len, marksR_len]; omega))) (fun rv5 w15 hR => ?_))
        obtain ⟨hXw15, v12, og12, rfl, ho12, hq12⟩ := hR
        have hl12 := Lo.up hq12 hB
        have hv12 := Lo.up hq12 hS
        have hd1_12 := Dj.lo hb1.ltO hq12
        have hd2_12 := Dj.lo hb2.ltO hq12
        have hd5_12 := Dj.lo ho5.ltO hq12
        have hd11_12 := Dj.lo hb11.ltO hq12
        refine ⟨Upd.trans hS hXw15, ?_⟩
        have hS := Upd.trans hS hXw15
        have hB := hB.trans hXw15
        have hBc := (by first | exact hBc.trans hXw15 | exact hB0.trans hXw15)
        have hb1 := hb1.up hXw15
        have hb2 := hb2.up hXw15
        have ho5 := ho5.up hXw15
        have hb11 := hb11.up hXw15
        refine HP.must rfl rfl (OpK.call rfl T.cf26 rfl (c_spec_EitherGrammar (by first | assumption | exact Rd.up (by assumption) hB | exact Osl.rd (by assumption) | exact Osn.rdR (by assumption)) (by first | assumption | exact Rd.up (by assumption) hB | exact Osl.rd (by assumption) | exact Osn.rdR (by assumption))) (fun rv6 w16 hR => ?_))
        obtain ⟨hXw16, v13, og13, rfl, ho13, hq13⟩ := hR
        have hl13 := Lo.up hq13 hB
        have hv13 := Lo.up hq13 hS
        have hd1_13 := Dj.lo hb1.ltO hq13
        have hd2_13 := Dj.lo hb2.ltO hq13
        have hd5_13 := Dj.lo ho5.ltO hq13
        have hd11_13 := Dj.lo hb11.ltO hq13
        have hd12_13 := Dj.lo ho12.ltO hq13
        refine ⟨Upd.trans hS hXw16, ?_⟩
        have hS := Upd.trans hS hXw16
        have hB := hB.trans hXw16
        have hBc := (by first | exact hBc.trans hXw16 | exact hB0.trans hXw16)
        have hb1 := hb1.up hXw16
        have hb2 := hb2.up hXw16
        have ho5 := ho5.up hXw16
        have hb11 := hb11.up hXw16
        have ho12 := ho12.up hXw16
        refine HP.take rfl rfl rfl rfl hS (fun wS hS1 => PV.move rfl) ?_
        refine HP.take rfl rfl rfl rfl hS (fun wS hS1 => PV.extract rfl rfl) ?_
        refine HP.take rfl rfl rfl rfl hS (fun wS hS1 => PV.extract rfl rfl) ?_
        refine HP.must rfl rfl (OpK.storeA T.sz29 rfl rfl rfl rfl (by simp [Value.oneCell'] <;> first | done | (repeat' apply And.intro) <;> first | rfl | exact Osl.oneCell (by assumption) | exact Osn.oneCell (by assumption) | exact Rd.oneCell (by assumption) | assumption) hb11 (fun w17 hXw17 hb11 => ?_))
        refine ⟨Ext.updL hS hXw17 hv11, ?_⟩
        have hS := Ext.updL hS hXw17 hv11
        have hB := hB.updL hXw17 hl11
        have hBc := hBc.updL hXw17 (Lo.up hv11 hXd)
        have hb1 := hb1.updD hXw17 hd1_11
        have hb2 := hb2.updD hXw17 hd2_11
        have ho5 := ho5.updD hXw17 hd5_11
        have ho12 := ho12.updD hXw17 (Dj.symm hd11_12)
        have ho13 := ho13.updD hXw17 (Dj.symm hd11_13)
        refine HP.take rfl rfl rfl rfl hS (fun wS hS1 => PV.assign rfl) ?_
        refine HP.done ?_
        exact NQ.cut (ρ := [(6, _), (7, _)]) ⟨rfl, rfl, rfl, rfl, trivial⟩ ⟨v13, og13, b11, rfl, hBc, ho13, hl13, hb11, hl11, hd1_13, hd1_11, hd2_13, hd2_11, (Dj.symm hd11_13)⟩
    · skip
      refine (OpK.alloc rfl T.zv29 rfl (fun b14 w18 hXw18 hb14 hge14 => ?_))
      have hl14 := Lo.new hB hge14
      have hv14 := Lo.new hS hge14
      have hd1_14 := Dj.new hb1.ltO hge14
      have hd2_14 := Dj.new hb2.ltO hge14
      refine ⟨Upd.trans hS hXw18, ?_⟩
      have hS := Upd.trans hS hXw18
      have hB := hB.trans hXw18
      have hBc := (by first | exact hBc.trans hXw18 | exact hB0.trans hXw18)
      have hb1 := hb1.up hXw18
      have hb2 := hb2.up hXw18
      refine HP.must rfl rfl (OpK.call rfl T.cf17 rfl (c_laws_toGrammar (by first | assumption | exact Rd.up (by assumption) hB | exact Osl.rd (by assumption) | exact Osn.rdR (by assumption)) (by first | assumption | omega | (simp only [marks_len, marksB_len, marksR_len]; omega))) (fun rv7 w19 hR => ?_))
      obtain ⟨hXw19, v15, og15, rfl, ho15, hq15⟩ := hR
      have hl15 := Lo.up hq15 hB
      have hv15 := Lo.up hq15 hS
      have hd1_15 := Dj.lo hb1.ltO hq15
      have hd2_15 := Dj.lo hb2.ltO hq15
      have hd14_15 := Dj.lo hb14.ltO hq15
      refine ⟨Upd.trans hS hXw19, ?_⟩
      have hS := Upd.trans hS hXw19
      have hB := hB.trans hXw19
      have hBc := (by first | exact hBc.trans hXw19 | exact hB0.trans hXw19)
      have hb1 := hb1.up hXw19
      have hb2 := hb2.up hXw19
      have hb14 := hb14.up hXw19
      refine HP.must rfl rfl (OpK.call rfl T.cf17 rfl (c_laws_toGrammar (by first | assumption | exact Rd.up (by assumption) hB | exact Osl.rd (by assumption) | exact Osn.rdR (by assumption)) (by first | assumption | omega | (simp only [marks_len, marksB_len, marksR_len]; omega))) (fun rv8 w20 hR => ?_))
      obtain ⟨hXw20, v16, og16, rfl, ho16, hq16⟩ := hR
      have hl16 := Lo.up hq16 hB
      have hv16 := Lo.up hq16 hS
      have hd1_16 := Dj.lo hb1.ltO hq16
      have hd2_16 := Dj.lo hb2.ltO hq16
      have hd14_16 := Dj.lo hb14.ltO hq16
      have hd15_16 := Dj.lo ho15.ltO hq16
      refine ⟨Upd.trans hS hXw20, ?_⟩
      have hS := Upd.trans hS hXw20
      have hB := hB.trans hXw20
      have hBc := (by first | exact hBc.trans hXw20 | exact hB0.trans hXw20)
      have hb1 := hb1.up hXw20
      have hb2 := hb2.up hXw20
      have hb14 := hb14.up hXw20
      have ho15 := ho15.up hXw20
      refine HP.must rfl rfl (OpK.call rfl T.cf26 rfl (c_spec_EitherGrammar (by first | assumption | exact Rd.up (by assumption) hB | exact Osl.rd (by assumption) | exact Osn.rdR (by assumption)) (by first | assumption | exact Rd.up (by assumption) hB | exact Osl.rd (by assumption) | exact Osn.rdR (by assumption))) (fun rv9 w21 hR => ?_))
      obtain ⟨hXw21, v17, og17, rfl, ho17, hq17⟩ := hR
      have hl17 := Lo.up hq17 hB
      have hv17 := Lo.up hq17 hS
      have hd1_17 := Dj.lo hb1.ltO hq17
      have hd2_17 := Dj.lo hb2.ltO hq17
      have hd14_17 := Dj.lo hb14.ltO hq17
      have hd15_17 := Dj.lo ho15.ltO hq17
      have hd16_17 := Dj.lo ho16.ltO hq17
      refine ⟨Upd.trans hS hXw21, ?_⟩
      have hS := Upd.trans hS hXw21
      have hB := hB.trans hXw21
      have hBc := (by first | exact hBc.trans hXw21 | exact hB0.trans hXw21)
      have hb1 := hb1.up hXw21
      have hb2 := hb2.up hXw21
      have hb14 := hb14.up hXw21
      have ho15 := ho15.up hXw21
      have ho16 := ho16.up hXw21
      refine HP.take rfl rfl rfl rfl hS (fun wS hS1 => PV.move rfl) ?_
      refine HP.take rfl rfl rfl rfl hS (fun wS hS1 => PV.extract rfl rfl) ?_
      refine HP.take rfl rfl rfl rfl hS (fun wS hS1 => PV.extract rfl rfl) ?_
      refine HP.must rfl rfl (OpK.storeA T.sz29 rfl rfl rfl rfl (by simp [Value.oneCell'] <;> first | done | (repeat' apply And.intro) <;> first | rfl | exact Osl.oneCell (by assumption) | exact Osn.oneCell (by assumption) | exact Rd.oneCell (by assumption) | assumption) hb14 (fun w22 hXw22 hb14 => ?_))
      refine ⟨Ext.updL hS hXw22 hv14, ?_⟩
      have hS := Ext.updL hS hXw22 hv14
      have hB := hB.updL hXw22 hl14
      have hBc := hBc.updL hXw22 (Lo.up hv14 hXd)
      have hb1 := hb1.updD hXw22 hd1_14
      have hb2 := hb2.updD hXw22 hd2_14
      have ho15 := ho15.updD hXw22 (Dj.symm hd14_15)
      have ho16 := ho16.updD hXw22 (Dj.symm hd14_16)
      have ho17 := ho17.updD hXw22 (Dj.symm hd14_17)
      refine HP.take rfl rfl rfl rfl hS (fun wS hS1 => PV.assign rfl) ?_
      refine HP.done ?_
      exact NQ.cut (ρ := [(6, _), (7, _)]) ⟨rfl, rfl, rfl, rfl, trivial⟩ ⟨v17, og17, b14, rfl, hBc, ho17, hl17, hb14, hl14, hd1_17, hd1_14, hd2_17, hd2_14, (Dj.symm hd14_17)⟩
  rintro _ wc1 ⟨v4, og4, b3, rfl, hXc, ho4, hl4, hb3, hl3, hd1_4, hd1_3, hd2_4, hd2_3, hd4_3⟩
  have hB := hB.trans hXc
  have hb1 := hb1.up hXc
  have hb2 := hb2.up hXc
  refine CW.seq ?_
  refine CW.reg ?_
  refine WL.pure rfl rfl rfl ((by first | exact PV.loadA T.ag24 rfl (by first | exact Cells.up (by assumption) hB | exact Bx.cells (by assumption) | assumption) (Ext.refl _) rfl | exact PV.loadP (ds := [_, _, _]) T.ag24 rfl (by first | exact Cells.up (by assumption) hB | exact Bx.cells (by assumption) | assumption) (Ext.refl _) rfl rfl)) ?_
  refine WL.op rfl (OpK.call rfl T.cf17 rfl (c_laws_toGrammar (by first | assumption | exact Rd.up (by assumption) hB | exact Osl.rd (by assumption) | exact Osn.rdR (by assumption)) (by first | assumption | omega | (simp only [marks_len, marksB_len, marksR_len]; omega))) (fun rv10 w23 hR => ?_))
  obtain ⟨hXw23, v18, og18, rfl, ho18, hq18⟩ := hR
  have hl18 := Lo.up hq18 hB
  have hd1_18 := Dj.lo hb1.ltO hq18
  have hd2_18 := Dj.lo hb2.ltO hq18
  have hd4_18 := Dj.lo ho4.ltO hq18
  have hd3_18 := Dj.lo hb3.ltO hq18
  have hB := hB.trans hXw23
  have hb1 := hb1.up hXw23
  have hb2 := hb2.up hXw23
  have ho4 := ho4.up hXw23
  have hb3 := hb3.up hXw23
  refine WL.op rfl (OpK.alloc rfl T.zv29 rfl (fun b19 w24 hXw24 hb19 hge19 => ?_))
  have hl19 := Lo.new hB hge19
  have hd1_19 := Dj.new hb1.ltO hge19
  have hd2_19 := Dj.new hb2.ltO hge19
  have hd4_19 := Dj.new ho4.ltO hge19
  have hd3_19 := Dj.new hb3.ltO hge19
  have hd18_19 := Dj.new ho18.ltO hge19
  have hB := hB.trans hXw24
  have hb1 := hb1.up hXw24
  have hb2 := hb2.up hXw24
  have ho4 := ho4.up hXw24
  have hb3 := hb3.up hXw24
  have ho18 := ho18.up hXw24
  refine WL.op rfl (OpK.storeA T.sz29 rfl rfl rfl rfl (by simp [Value.oneCell'] <;> first | done | (repeat' apply And.intro) <;> first | rfl | exact Osl.oneCell (by assumption) | exact Osn.oneCell (by assumption) | exact Rd.oneCell (by assumption) | assumption) hb19 (fun w25 hXw25 hb19 => ?_))
  have hB := hB.updL hXw25 hl19
  have hb1 := hb1.updD hXw25 hd1_19
  have hb2 := hb2.updD hXw25 hd2_19
  have ho4 := ho4.updD hXw25 hd4_19
  have hb3 := hb3.updD hXw25 hd3_19
  have ho18 := ho18.updD hXw25 hd18_19
  refine WL.nilS ?_
  refine CW.seq ?_
  refine CW.reg ?_
  refine WL.pure rfl rfl rfl ((by first | exact PV.loadA T.ag24 rfl (by first | exact Cells.up (by assumption) hB | exact Bx.cells (by assumption) | assumption) (Ext.refl _) rfl | exact PV.loadP (ds := [_, _, _]) T.ag24 rfl (by first | exact Cells.up (by assumption) hB | exact Bx.cells (by assumption) | assumption) (Ext.refl _) rfl rfl)) ?_
  refine WL.op rfl (OpK.call rfl T.cf17 rfl (c_laws_toGrammar (by first | assumption | exact Rd.up (by assumption) hB | exact Osl.rd (by assumption) | exact Osn.rdR (by assumption)) (by first | assumption | omega | (simp only [marks_len, marksB_len, marksR_len]; omega))) (fun rv11 w26 hR => ?_))
  obtain ⟨hXw26, v20, og20, rfl, ho20, hq20⟩ := hR
  have hl20 := Lo.up hq20 hB
  have hd1_20 := Dj.lo hb1.ltO hq20
  have hd2_20 := Dj.lo hb2.ltO hq20
  have hd4_20 := Dj.lo ho4.ltO hq20
  have hd3_20 := Dj.lo hb3.ltO hq20
  have hd18_20 := Dj.lo ho18.ltO hq20
  have hd19_20 := Dj.lo hb19.ltO hq20
  have hB := hB.trans hXw26
  have hb1 := hb1.up hXw26
  have hb2 := hb2.up hXw26
  have ho4 := ho4.up hXw26
  have hb3 := hb3.up hXw26
  have ho18 := ho18.up hXw26
  have hb19 := hb19.up hXw26
  refine WL.op rfl (OpK.alloc rfl T.zv29 rfl (fun b21 w27 hXw27 hb21 hge21 => ?_))
  have hl21 := Lo.new hB hge21
  have hd1_21 := Dj.new hb1.ltO hge21
  have hd2_21 := Dj.new hb2.ltO hge21
  have hd4_21 := Dj.new ho4.ltO hge21
  have hd3_21 := Dj.new hb3.ltO hge21
  have hd18_21 := Dj.new ho18.ltO hge21
  have hd19_21 := Dj.new hb19.ltO hge21
  have hd20_21 := Dj.new ho20.ltO hge21
  have hB := hB.trans hXw27
  have hb1 := hb1.up hXw27
  have hb2 := hb2.up hXw27
  have ho4 := ho4.up hXw27
  have hb3 := hb3.up hXw27
  have ho18 := ho18.up hXw27
  have hb19 := hb19.up hXw27
  have ho20 := ho20.up hXw27
  refine WL.op rfl (OpK.storeA T.sz29 rfl rfl rfl rfl (by simp [Value.oneCell'] <;> first | done | (repeat' apply And.intro) <;> first | rfl | exact Osl.oneCell (by assumption) | exact Osn.oneCell (by assumption) | exact Rd.oneCell (by assumption) | assumption) hb21 (fun w28 hXw28 hb21 => ?_))
  have hB := hB.updL hXw28 hl21
  have hb1 := hb1.updD hXw28 hd1_21
  have hb2 := hb2.updD hXw28 hd2_21
  have ho4 := ho4.updD hXw28 hd4_21
  have hb3 := hb3.updD hXw28 hd3_21
  have ho18 := ho18.updD hXw28 hd18_21
  have hb19 := hb19.updD hXw28 hd19_21
  have ho20 := ho20.updD hXw28 hd20_21
  refine WL.nilS ?_
  refine CW.seq ?_
  refine CW.reg ?_
  refine WL.pure rfl rfl rfl ((by first | exact PV.loadA T.ag29 rfl (by first | exact Cells.up (by assumption) hB | exact Bx.cells (by assumption) | assumption) (Ext.refl _) rfl | exact PV.loadP (ds := [_, _, _]) T.ag29 rfl (by first | exact Cells.up (by assumption) hB | exact Bx.cells (by assumption) | assumption) (Ext.refl _) rfl rfl)) ?_
  refine WL.pure rfl rfl rfl ((by first | exact PV.loadA T.ag29 rfl (by first | exact Cells.up (by assumption) hB | exact Bx.cells (by assumption) | assumption) (Ext.refl _) rfl | exact PV.loadP (ds := [_, _, _]) T.ag29 rfl (by first | exact Cells.up (by assumption) hB | exact Bx.cells (by assumption) | assumption) (Ext.refl _) rfl rfl)) ?_
  refine WL.op rfl (OpK.call rfl T.cf27 rfl (c_impl_EitherGrammar (by first | assumption | exact Rd.up (by assumption) hB | exact Osl.rd (by assumption) | exact Osn.rdR (by assumption)) (by first | assumption | exact Rd.up (by assumption) hB | exact Osl.rd (by assumption) | exact Osn.rdR (by assumption))) (fun rv12 w29 hR => ?_))
  obtain ⟨hXw29, v22, og22, rfl, ho22, hq22⟩ := hR
  have hl22 := Lo.up hq22 hB
  have hd1_22 := Dj.lo hb1.ltO hq22
  have hd2_22 := Dj.lo hb2.ltO hq22
  have hd4_22 := Dj.lo ho4.ltO hq22
  have hd3_22 := Dj.lo hb3.ltO hq22
  have hd18_22 := Dj.lo ho18.ltO hq22
  have hd19_22 := Dj.lo hb19.ltO hq22
  have hd20_22 := Dj.lo ho20.ltO hq22
  have hd21_22 := Dj.lo hb21.ltO hq22
  have hB := hB.trans hXw29
  have hb1 := hb1.up hXw29
  have hb2 := hb2.up hXw29
  have ho4 := ho4.up hXw29
  have hb3 := hb3.up hXw29
  have ho18 := ho18.up hXw29
  have hb19 := hb19.up hXw29
  have ho20 := ho20.up hXw29
  have hb21 := hb21.up hXw29
  refine WL.pure rfl rfl rfl (PV.move rfl) ?_
  refine WL.pure rfl rfl rfl (PV.extract rfl rfl) ?_
  refine WL.pure rfl rfl rfl (PV.extract rfl rfl) ?_
  refine WL.op rfl (OpK.alloc rfl T.zv29 rfl (fun b23 w30 hXw30 hb23 hge23 => ?_))
  have hl23 := Lo.new hB hge23
  have hd1_23 := Dj.new hb1.ltO hge23
  have hd2_23 := Dj.new hb2.ltO hge23
  have hd4_23 := Dj.new ho4.ltO hge23
  have hd3_23 := Dj.new hb3.ltO hge23
  have hd18_23 := Dj.new ho18.ltO hge23
  have hd19_23 := Dj.new hb19.ltO hge23
  have hd20_23 := Dj.new ho20.ltO hge23
  have hd21_23 := Dj.new hb21.ltO hge23
  have hd22_23 := Dj.new ho22.ltO hge23
  have hB := hB.trans hXw30
  have hb1 := hb1.up hXw30
  have hb2 := hb2.up hXw30
  have ho4 := ho4.up hXw30
  have hb3 := hb3.up hXw30
  have ho18 := ho18.up hXw30
  have hb19 := hb19.up hXw30
  have ho20 := ho20.up hXw30
  have hb21 := hb21.up hXw30
  have ho22 := ho22.up hXw30
  refine WL.op rfl (OpK.storeA T.sz29 rfl rfl rfl rfl (by simp [Value.oneCell'] <;> first | done | (repeat' apply And.intro) <;> first | rfl | exact Osl.oneCell (by assumption) | exact Osn.oneCell (by assumption) | exact Rd.oneCell (by assumption) | assumption) hb23 (fun w31 hXw31 hb23 => ?_))
  have hB := hB.updL hXw31 hl23
  have hb1 := hb1.updD hXw31 hd1_23
  have hb2 := hb2.updD hXw31 hd2_23
  have ho4 := ho4.updD hXw31 hd4_23
  have hb3 := hb3.updD hXw31 hd3_23
  have ho18 := ho18.updD hXw31 hd18_23
  have hb19 := hb19.updD hXw31 hd19_23
  have ho20 := ho20.updD hXw31 hd20_23
  have hb21 := hb21.updD hXw31 hd21_23
  have ho22 := ho22.updD hXw31 hd22_23
  refine WL.pure rfl rfl rfl (PV.assign rfl) ?_
  refine WL.nilS ?_
  refine CW.seq ?_
  refine CW.seq ?_
  refine CW.reg ?_
  refine WL.pure rfl rfl rfl ((by first | exact PV.loadA T.ag29 rfl (by first | exact Cells.up (by assumption) hB | exact Bx.cells (by assumption) | assumption) (Ext.refl _) rfl | exact PV.loadP (ds := [_, _, _]) T.ag29 rfl (by first | exact Cells.up (by assumption) hB | exact Bx.cells (by assumption) | assumption) (Ext.refl _) rfl rfl)) ?_
  refine WL.pure rfl rfl rfl ((by first | exact PV.loadA T.ag29 rfl (by first | exact Cells.up (by assumption) hB | exact Bx.cells (by assumption) | assumption) (Ext.refl _) rfl | exact PV.loadP (ds := [_, _, _]) T.ag29 rfl (by first | exact Cells.up (by assumption) hB | exact Bx.cells (by assumption) | assumption) (Ext.refl _) rfl rfl)) ?_
  refine WL.op rfl (OpK.callR rfl T.cf19 rfl (c_laws_eqGrammar (by first | assumption | exact Rd.up (by assumption) hB | exact Osl.rd (by assumption) | exact Osn.rdR (by assumption)) (by first | assumption | exact Rd.up (by assumption) hB | exact Osl.rd (by assumption) | exact Osn.rdR (by assumption))) (fun w32 hXw32 => ?_))
  have hB := hB.trans hXw32
  have hb1 := hb1.up hXw32
  have hb2 := hb2.up hXw32
  have ho4 := ho4.up hXw32
  have hb3 := hb3.up hXw32
  have ho18 := ho18.up hXw32
  have hb19 := hb19.up hXw32
  have ho20 := ho20.up hXw32
  have hb21 := hb21.up hXw32
  have ho22 := ho22.up hXw32
  have hb23 := hb23.up hXw32
  refine WL.pure rfl rfl rfl (PV.not rfl) ?_
  refine WL.pure rfl rfl rfl (PV.move rfl) ?_
  refine WL.split (t := 49) rfl (fun hc3 => ?_) (fun hc3 => ?_)
  · skip
    try simp only [decide_eq_true_eq, decide_eq_false_iff_not, Bool.not_eq_true', Bool.not_eq_false', Bool.not_eq_eq_eq_not, Bool.not_true, Bool.not_false, Int.not_lt, Int.not_le, Classical.not_not, beq_iff_eq, beq_eq_false_iff_ne] at hc3
    refine WL.skip rfl rfl rfl rfl rfl ?_
    refine WL.skip rfl rfl rfl rfl rfl ?_
    refine WL.skip rfl rfl rfl rfl rfl ?_
    refine WL.pure rfl rfl rfl (PV.pickT rfl rfl) ?_
    refine WL.nilS ?_
    refine CW.condT rfl ?_
    refine CW.seq ?_
    refine CW.reg ?_
    refine WL.pure rfl rfl rfl (PV.assign rfl) ?_
    refine WL.nilS ?_
    refine CW.ret ?_
    refine RQ.then ?_
    refine RQ.r1 rfl ?_
    refine ⟨?_, hB⟩
    first | rfl | (exfalso; revert hc3; simp; done) | (exfalso; revert hc3; simp; omega) | (exfalso; omega) | first | rfl | exact bT (by omega) | exact bF (by omega) | exact bD (by omega) | exact iE (by omega) | (simp_all; done) | (simp_all; omega) | (simp_all; intros; omega)
  try simp only [decide_eq_true_eq, decide_eq_false_iff_not, Bool.not_eq_true', Bool.not_eq_false', Bool.not_eq_eq_eq_not, Bool.not_true, Bool.not_false, Int.not_lt, Int.not_le, Classical.not_not, beq_iff_eq, beq_eq_false_iff_ne] at hc3
  refine WL.pureG rfl rfl rfl rfl rfl (PV.move rfl) ?_
  refine WL.pureG rfl rfl rfl rfl rfl (PV.move rfl) ?_
  refine WL.pureG rfl rfl rfl rfl rfl (PV.neqB T.bl4 rfl rfl) ?_
  refine WL.pure rfl rfl rfl (PV.pickF rfl rfl) ?_
  refine WL.nilS ?_
  refine CW.cond rfl (fun hc4 => ?_) (fun hc4 => ?_)
  · skip
    try simp only [decide_eq_true_eq, decide_eq_false_iff_not, Bool.not_eq_true', Bool.not_eq_false', Bool.not_eq_eq_eq_not, Bool.not_true, Bool.not_false, Int.not_lt, Int.not_le, Classical.not_not, beq_iff_eq, beq_eq_false_iff_ne] at hc4
    refine CW.seq ?_
    refine CW.reg ?_
    refine WL.pure rfl rfl rfl (PV.assign rfl) ?_
    refine WL.nilS ?_
    refine CW.ret ?_
    refine RQ.then ?_
    refine RQ.r1 rfl ?_
    refine ⟨?_, hB⟩
    first | rfl | (exfalso; revert hc4; simp; done) | (exfalso; revert hc4; simp; omega) | (exfalso; omega) | first | rfl | exact bT (by omega) | exact bF (by omega) | exact bD (by omega) | exact iE (by omega) | (simp_all; done) | (simp_all; omega) | (simp_all; intros; omega)
  try simp only [decide_eq_true_eq, decide_eq_false_iff_not, Bool.not_eq_true', Bool.not_eq_false', Bool.not_eq_eq_eq_not, Bool.not_true, Bool.not_false, Int.not_lt, Int.not_le, Classical.not_not, beq_iff_eq, beq_eq_false_iff_ne] at hc4
  refine CW.skipS ?_
  refine CW.seq ?_
  refine CW.seq ?_
  refine CW.draw T.mixed (by kernel_rfl) (fun _ _ _ _ _ h => h) (fun w8 w9 => Upd none w8 w9) 5 (.take 0 (.take 1 (.must 2 (.must 3 (.take 4 .done))))) (by kernel_rfl) (fun w33 hXd => ?_)
  have hB := hB.trans hXd
  have hb1 := hb1.up hXd
  have hb2 := hb2.up hXd
  have ho4 := ho4.up hXd
  have hb3 := hb3.up hXd
  have ho18 := ho18.up hXd
  have hb19 := hb19.up hXd
  have ho20 := ho20.up hXd
  have hb21 := hb21.up hXd
  have ho22 := ho22.up hXd
  have hb23 := hb23.up hXd
  have hBr := hB
  have hS : Upd none w33 w33 := Ext.toUpd (Ext.refl _)
  refine HP.take rfl rfl rfl rfl hS (fun wS hS1 => (by first | exact PV.loadA T.ag29 rfl (by first | exact Cells.up (by assumption) (hBr.trans hS1) | exact Bx.cells (Bx.updD (by assumption) hS1 (Dj.nlR _)) | exact Cells.upd (by assumption) hS1 (by simp)) (Ext.refl _) rfl | exact PV.loadP (ds := [_, _, _]) T.ag29 rfl (by first | exact Cells.up (by assumption) (hBr.trans hS1) | exact Bx.cells (Bx.updD (by assumption) hS1 (Dj.nlR _)) | exact Cells.upd (by assumption) hS1 (by simp)) (Ext.refl _) rfl rfl)) ?_
  refine HP.take rfl rfl rfl rfl hS (fun wS hS1 => (by first | exact PV.loadA T.ag24 rfl (by first | exact Cells.up (by assumption) (hBr.trans hS1) | exact Bx.cells (Bx.updD (by assumption) hS1 (Dj.nlR _)) | exact Cells.upd (by assumption) hS1 (by simp)) (Ext.refl _) rfl | exact PV.loadP (ds := [_, _, _]) T.ag24 rfl (by first | exact Cells.up (by assumption) (hBr.trans hS1) | exact Bx.cells (Bx.updD (by assumption) hS1 (Dj.nlR _)) | exact Cells.upd (by assumption) hS1 (by simp)) (Ext.refl _) rfl rfl)) ?_
  refine HP.must rfl rfl (OpK.call rfl T.cf17 rfl (c_laws_toGrammar (by first | assumption | exact Rd.up (by assumption) hB | exact Osl.rd (by assumption) | exact Osn.rdR (by assumption)) (by first | assumption | omega | (simp only [marks_len, marksB_len, marksR_len]; omega))) (fun rv13 w34 hR => ?_))
  obtain ⟨hXw34, v24, og24, rfl, ho24, hq24⟩ := hR
  have hl24 := Lo.up hq24 hB
  have hv24 := Lo.up hq24 hS
  have hd1_24 := Dj.lo hb1.ltO hq24
  have hd2_24 := Dj.lo hb2.ltO hq24
  have hd4_24 := Dj.lo ho4.ltO hq24
  have hd3_24 := Dj.lo hb3.ltO hq24
  have hd18_24 := Dj.lo ho18.ltO hq24
  have hd19_24 := Dj.lo hb19.ltO hq24
  have hd20_24 := Dj.lo ho20.ltO hq24
  have hd21_24 := Dj.lo hb21.ltO hq24
  have hd22_24 := Dj.lo ho22.ltO hq24
  have hd23_24 := Dj.lo hb23.ltO hq24
  refine ⟨Upd.trans hS hXw34, ?_⟩
  have hS := Upd.trans hS hXw34
  have hB := hB.trans hXw34
  have hb1 := hb1.up hXw34
  have hb2 := hb2.up hXw34
  have ho4 := ho4.up hXw34
  have hb3 := hb3.up hXw34
  have ho18 := ho18.up hXw34
  have hb19 := hb19.up hXw34
  have ho20 := ho20.up hXw34
  have hb21 := hb21.up hXw34
  have ho22 := ho22.up hXw34
  have hb23 := hb23.up hXw34
  refine HP.must rfl rfl (OpK.callR rfl T.cf19 rfl (c_laws_eqGrammar (by first | assumption | exact Rd.up (by assumption) hB | exact Osl.rd (by assumption) | exact Osn.rdR (by assumption)) (by first | assumption | exact Rd.up (by assumption) hB | exact Osl.rd (by assumption) | exact Osn.rdR (by assumption))) (fun w35 hXw35 => ?_))
  refine ⟨Upd.trans hS hXw35, ?_⟩
  have hS := Upd.trans hS hXw35
  have hB := hB.trans hXw35
  have hb1 := hb1.up hXw35
  have hb2 := hb2.up hXw35
  have ho4 := ho4.up hXw35
  have hb3 := hb3.up hXw35
  have ho18 := ho18.up hXw35
  have hb19 := hb19.up hXw35
  have ho20 := ho20.up hXw35
  have hb21 := hb21.up hXw35
  have ho22 := ho22.up hXw35
  have hb23 := hb23.up hXw35
  have ho24 := ho24.up hXw35
  refine HP.take rfl rfl rfl rfl hS (fun wS hS1 => PV.not rfl) ?_
  refine HP.doneS ?_
  refine CW.cond rfl (fun hc5 => ?_) (fun hc5 => ?_)
  · skip
    try simp only [decide_eq_true_eq, decide_eq_false_iff_not, Bool.not_eq_true', Bool.not_eq_false', Bool.not_eq_eq_eq_not, Bool.not_true, Bool.not_false, Int.not_lt, Int.not_le, Classical.not_not, beq_iff_eq, beq_eq_false_iff_ne] at hc5
    refine CW.seq ?_
    refine CW.reg ?_
    refine WL.pure rfl rfl rfl (PV.assign rfl) ?_
    refine WL.nilS ?_
    refine CW.ret ?_
    refine RQ.then ?_
    refine RQ.r1 rfl ?_
    refine ⟨?_, hB⟩
    first | rfl | (exfalso; revert hc5; simp; done) | (exfalso; revert hc5; simp; omega) | (exfalso; omega) | first | rfl | exact bT (by omega) | exact bF (by omega) | exact bD (by omega) | exact iE (by omega) | (simp_all; done) | (simp_all; omega) | (simp_all; intros; omega)
  try simp only [decide_eq_true_eq, decide_eq_false_iff_not, Bool.not_eq_true', Bool.not_eq_false', Bool.not_eq_eq_eq_not, Bool.not_true, Bool.not_false, Int.not_lt, Int.not_le, Classical.not_not, beq_iff_eq, beq_eq_false_iff_ne] at hc5
  refine CW.skipS ?_
  refine CW.seq ?_
  refine CW.seq ?_
  refine CW.draw T.mixed (by kernel_rfl) (fun _ _ _ _ _ h => h) (fun w8 w9 => Upd none w8 w9) 5 (.take 0 (.take 1 (.must 2 (.must 3 (.take 4 .done))))) (by kernel_rfl) (fun w36 hXd => ?_)
  have hB := hB.trans hXd
  have hb1 := hb1.up hXd
  have hb2 := hb2.up hXd
  have ho4 := ho4.up hXd
  have hb3 := hb3.up hXd
  have ho18 := ho18.up hXd
  have hb19 := hb19.up hXd
  have ho20 := ho20.up hXd
  have hb21 := hb21.up hXd
  have ho22 := ho22.up hXd
  have hb23 := hb23.up hXd
  have ho24 := ho24.up hXd
  have hBr := hB
  have hS : Upd none w36 w36 := Ext.toUpd (Ext.refl _)
  refine HP.take rfl rfl rfl rfl hS (fun wS hS1 => (by first | exact PV.loadA T.ag29 rfl (by first | exact Cells.up (by assumption) (hBr.trans hS1) | exact Bx.cells (Bx.updD (by assumption) hS1 (Dj.nlR _)) | exact Cells.upd (by assumption) hS1 (by simp)) (Ext.refl _) rfl | exact PV.loadP (ds := [_, _, _]) T.ag29 rfl (by first | exact Cells.up (by assumption) (hBr.trans hS1) | exact Bx.cells (Bx.updD (by assumption) hS1 (Dj.nlR _)) | exact Cells.upd (by assumption) hS1 (by simp)) (Ext.refl _) rfl rfl)) ?_
  refine HP.take rfl rfl rfl rfl hS (fun wS hS1 => (by first | exact PV.loadA T.ag24 rfl (by first | exact Cells.up (by assumption) (hBr.trans hS1) | exact Bx.cells (Bx.updD (by assumption) hS1 (Dj.nlR _)) | exact Cells.upd (by assumption) hS1 (by simp)) (Ext.refl _) rfl | exact PV.loadP (ds := [_, _, _]) T.ag24 rfl (by first | exact Cells.up (by assumption) (hBr.trans hS1) | exact Bx.cells (Bx.updD (by assumption) hS1 (Dj.nlR _)) | exact Cells.upd (by assumption) hS1 (by simp)) (Ext.refl _) rfl rfl)) ?_
  refine HP.must rfl rfl (OpK.call rfl T.cf17 rfl (c_laws_toGrammar (by first | assumption | exact Rd.up (by assumption) hB | exact Osl.rd (by assumption) | exact Osn.rdR (by assumption)) (by first | assumption | omega | (simp only [marks_len, marksB_len, marksR_len]; omega))) (fun rv14 w37 hR => ?_))
  obtain ⟨hXw37, v25, og25, rfl, ho25, hq25⟩ := hR
  have hl25 := Lo.up hq25 hB
  have hv25 := Lo.up hq25 hS
  have hd1_25 := Dj.lo hb1.ltO hq25
  have hd2_25 := Dj.lo hb2.ltO hq25
  have hd4_25 := Dj.lo ho4.ltO hq25
  have hd3_25 := Dj.lo hb3.ltO hq25
  have hd18_25 := Dj.lo ho18.ltO hq25
  have hd19_25 := Dj.lo hb19.ltO hq25
  have hd20_25 := Dj.lo ho20.ltO hq25
  have hd21_25 := Dj.lo hb21.ltO hq25
  have hd22_25 := Dj.lo ho22.ltO hq25
  have hd23_25 := Dj.lo hb23.ltO hq25
  have hd24_25 := Dj.lo ho24.ltO hq25
  refine ⟨Upd.trans hS hXw37, ?_⟩
  have hS := Upd.trans hS hXw37
  have hB := hB.trans hXw37
  have hb1 := hb1.up hXw37
  have hb2 := hb2.up hXw37
  have ho4 := ho4.up hXw37
  have hb3 := hb3.up hXw37
  have ho18 := ho18.up hXw37
  have hb19 := hb19.up hXw37
  have ho20 := ho20.up hXw37
  have hb21 := hb21.up hXw37
  have ho22 := ho22.up hXw37
  have hb23 := hb23.up hXw37
  have ho24 := ho24.up hXw37
  refine HP.must rfl rfl (OpK.callR rfl T.cf19 rfl (c_laws_eqGrammar (by first | assumption | exact Rd.up (by assumption) hB | exact Osl.rd (by assumption) | exact Osn.rdR (by assumption)) (by first | assumption | exact Rd.up (by assumption) hB | exact Osl.rd (by assumption) | exact Osn.rdR (by assumption))) (fun w38 hXw38 => ?_))
  refine ⟨Upd.trans hS hXw38, ?_⟩
  have hS := Upd.trans hS hXw38
  have hB := hB.trans hXw38
  have hb1 := hb1.up hXw38
  have hb2 := hb2.up hXw38
  have ho4 := ho4.up hXw38
  have hb3 := hb3.up hXw38
  have ho18 := ho18.up hXw38
  have hb19 := hb19.up hXw38
  have ho20 := ho20.up hXw38
  have hb21 := hb21.up hXw38
  have ho22 := ho22.up hXw38
  have hb23 := hb23.up hXw38
  have ho24 := ho24.up hXw38
  have ho25 := ho25.up hXw38
  refine HP.take rfl rfl rfl rfl hS (fun wS hS1 => PV.not rfl) ?_
  refine HP.doneS ?_
  refine CW.cond rfl (fun hc6 => ?_) (fun hc6 => ?_)
  · skip
    try simp only [decide_eq_true_eq, decide_eq_false_iff_not, Bool.not_eq_true', Bool.not_eq_false', Bool.not_eq_eq_eq_not, Bool.not_true, Bool.not_false, Int.not_lt, Int.not_le, Classical.not_not, beq_iff_eq, beq_eq_false_iff_ne] at hc6
    refine CW.seq ?_
    refine CW.reg ?_
    refine WL.pure rfl rfl rfl (PV.assign rfl) ?_
    refine WL.nilS ?_
    refine CW.ret ?_
    refine RQ.then ?_
    refine RQ.r1 rfl ?_
    refine ⟨?_, hB⟩
    first | rfl | (exfalso; revert hc6; simp; done) | (exfalso; revert hc6; simp; omega) | (exfalso; omega) | first | rfl | exact bT (by omega) | exact bF (by omega) | exact bD (by omega) | exact iE (by omega) | (simp_all; done) | (simp_all; omega) | (simp_all; intros; omega)
  try simp only [decide_eq_true_eq, decide_eq_false_iff_not, Bool.not_eq_true', Bool.not_eq_false', Bool.not_eq_eq_eq_not, Bool.not_true, Bool.not_false, Int.not_lt, Int.not_le, Classical.not_not, beq_iff_eq, beq_eq_false_iff_ne] at hc6
  refine CW.skipS ?_
  refine CW.seq ?_
  refine CW.reg ?_
  refine WL.pure rfl rfl rfl (PV.assign rfl) ?_
  refine WL.nilS ?_
  refine CW.seq ?_
  refine CW.reg ?_
  refine WL.pure rfl rfl rfl ((by first | exact PV.loadA T.ag29 rfl (by first | exact Cells.up (by assumption) hB | exact Bx.cells (by assumption) | assumption) (Ext.refl _) rfl | exact PV.loadP (ds := [_, _, _]) T.ag29 rfl (by first | exact Cells.up (by assumption) hB | exact Bx.cells (by assumption) | assumption) (Ext.refl _) rfl rfl)) ?_
  refine WL.pure rfl rfl rfl (PV.move rfl) ?_
  refine WL.op rfl (OpK.call rfl T.cf24 rfl (c_laws_markGrammar (by first | assumption | exact Dj.symm (by assumption)) (by first | assumption | omega | (simp only [marks_len, marksB_len, marksR_len]; omega))) (fun rv15 w39 hR => ?_))
  obtain ⟨rfl, hUC26, ho18⟩ := hR
  have hb1 := hb1.loop hUC26 ⟨hd1_18, trivial⟩
  have hb2 := hb2.loop hUC26 ⟨hd2_18, trivial⟩
  have ho4 := ho4.loop hUC26 ⟨hd4_18, trivial⟩
  have hb3 := hb3.loop hUC26 ⟨hd3_18, trivial⟩
  have hb19 := hb19.loop hUC26 ⟨(Dj.symm hd18_19), trivial⟩
  have ho20 := ho20.loop hUC26 ⟨(Dj.symm hd18_20), trivial⟩
  have hb21 := hb21.loop hUC26 ⟨(Dj.symm hd18_21), trivial⟩
  have ho22 := ho22.loop hUC26 ⟨(Dj.symm hd18_22), trivial⟩
  have hb23 := hb23.loop hUC26 ⟨(Dj.symm hd18_23), trivial⟩
  have ho24 := ho24.loop hUC26 ⟨(Dj.symm hd18_24), trivial⟩
  have ho25 := ho25.loop hUC26 ⟨(Dj.symm hd18_25), trivial⟩
  have hB := hB.loop hUC26 ⟨hl18, trivial⟩
  refine WL.pure rfl rfl rfl (PV.assign rfl) ?_
  refine WL.nilS ?_
  refine CW.seq ?_
  refine CW.reg ?_
  refine WL.pure rfl rfl rfl ((by first | exact PV.loadA T.ag29 rfl (by first | exact Cells.up (by assumption) hB | exact Bx.cells (by assumption) | assumption) (Ext.refl _) rfl | exact PV.loadP (ds := [_, _, _]) T.ag29 rfl (by first | exact Cells.up (by assumption) hB | exact Bx.cells (by assumption) | assumption) (Ext.refl _) rfl rfl)) ?_
  refine WL.pure rfl rfl rfl (PV.move rfl) ?_
  refine WL.op rfl (OpK.call rfl T.cf24 rfl (c_laws_markGrammar (by first | assumption | exact Dj.symm (by assumption)) (by first | assumption | omega | (simp only [marks_len, marksB_len, marksR_len]; omega))) (fun rv16 w40 hR => ?_))
  obtain ⟨rfl, hUC27, ho20⟩ := hR
  have hb1 := hb1.loop hUC27 ⟨hd1_20, trivial⟩
  have hb2 := hb2.loop hUC27 ⟨hd2_20, trivial⟩
  have ho4 := ho4.loop hUC27 ⟨hd4_20, trivial⟩
  have hb3 := hb3.loop hUC27 ⟨hd3_20, trivial⟩
  have ho18 := ho18.loop hUC27 ⟨hd18_20, trivial⟩
  have hb19 := hb19.loop hUC27 ⟨hd19_20, trivial⟩
  have hb21 := hb21.loop hUC27 ⟨(Dj.symm hd20_21), trivial⟩
  have ho22 := ho22.loop hUC27 ⟨(Dj.symm hd20_22), trivial⟩
  have hb23 := hb23.loop hUC27 ⟨(Dj.symm hd20_23), trivial⟩
  have ho24 := ho24.loop hUC27 ⟨(Dj.symm hd20_24), trivial⟩
  have ho25 := ho25.loop hUC27 ⟨(Dj.symm hd20_25), trivial⟩
  have hB := hB.loop hUC27 ⟨hl20, trivial⟩
  refine WL.pure rfl rfl rfl (PV.assign rfl) ?_
  refine WL.nilS ?_
  refine CW.seq ?_
  refine CW.seq ?_
  refine CW.reg ?_
  refine WL.pure rfl rfl rfl (PV.move rfl) ?_
  refine WL.pure rfl rfl rfl (PV.lss rfl rfl) ?_
  refine WL.pure rfl rfl rfl (PV.move rfl) ?_
  refine WL.split (t := 72) rfl (fun hc7 => ?_) (fun hc7 => ?_)
  · skip
    try simp only [decide_eq_true_eq, decide_eq_false_iff_not, Bool.not_eq_true', Bool.not_eq_false', Bool.not_eq_eq_eq_not, Bool.not_true, Bool.not_false, Int.not_lt, Int.not_le, Classical.not_not, beq_iff_eq, beq_eq_false_iff_ne] at hc7
    refine WL.skip rfl rfl rfl rfl rfl ?_
    refine WL.skip rfl rfl rfl rfl rfl ?_
    refine WL.skip rfl rfl rfl rfl rfl ?_
    refine WL.skip rfl rfl rfl rfl rfl ?_
    refine WL.pure rfl rfl rfl (PV.pickT rfl rfl) ?_
    refine WL.pure rfl rfl rfl (PV.move rfl) ?_
    refine WL.skip rfl rfl rfl rfl rfl ?_
    refine WL.skip rfl rfl rfl rfl rfl ?_
    refine WL.skip rfl rfl rfl rfl rfl ?_
    refine WL.pure rfl rfl rfl (PV.pickT rfl rfl) ?_
    refine WL.nilS ?_
    refine CW.condT rfl ?_
    refine CW.seq ?_
    refine CW.reg ?_
    refine WL.pure rfl rfl rfl (PV.assign rfl) ?_
    refine WL.nilS ?_
    refine CW.ret ?_
    refine RQ.then ?_
    refine RQ.r1 rfl ?_
    refine ⟨?_, hB⟩
    first | rfl | (exfalso; revert hc7; simp; done) | (exfalso; revert hc7; simp; omega) | (exfalso; omega) | first | rfl | exact bT (by omega) | exact bF (by omega) | exact bD (by omega) | exact iE (by omega) | (simp_all; done) | (simp_all; omega) | (simp_all; intros; omega)
  try simp only [decide_eq_true_eq, decide_eq_false_iff_not, Bool.not_eq_true', Bool.not_eq_false', Bool.not_eq_eq_eq_not, Bool.not_true, Bool.not_false, Int.not_lt, Int.not_le, Classical.not_not, beq_iff_eq, beq_eq_false_iff_ne] at hc7
  refine WL.pureG rfl rfl rfl rfl rfl ((by first | exact PV.loadA T.ag29 rfl (by first | exact Cells.up (by assumption) hB | exact Bx.cells (by assumption) | assumption) (Ext.refl _) rfl | exact PV.loadP (ds := [_, _, _]) T.ag29 rfl (by first | exact Cells.up (by assumption) hB | exact Bx.cells (by assumption) | assumption) (Ext.refl _) rfl rfl)) ?_
  refine WL.pureG rfl rfl rfl rfl rfl ((by first | exact PV.loadA T.ag29 rfl (by first | exact Cells.up (by assumption) hB | exact Bx.cells (by assumption) | assumption) (Ext.refl _) rfl | exact PV.loadP (ds := [_, _, _]) T.ag29 rfl (by first | exact Cells.up (by assumption) hB | exact Bx.cells (by assumption) | assumption) (Ext.refl _) rfl rfl)) ?_
  refine WL.opG rfl rfl rfl (OpK.callR rfl T.cf19 rfl (c_laws_eqGrammar (by first | assumption | exact Rd.up (by assumption) hB | exact Osl.rd (by assumption) | exact Osn.rdR (by assumption)) (by first | assumption | exact Rd.up (by assumption) hB | exact Osl.rd (by assumption) | exact Osn.rdR (by assumption))) (fun w41 hXw41 => ?_))
  have hB := hB.trans hXw41
  have hb1 := hb1.up hXw41
  have hb2 := hb2.up hXw41
  have ho4 := ho4.up hXw41
  have hb3 := hb3.up hXw41
  have ho18 := ho18.up hXw41
  have hb19 := hb19.up hXw41
  have ho20 := ho20.up hXw41
  have hb21 := hb21.up hXw41
  have ho22 := ho22.up hXw41
  have hb23 := hb23.up hXw41
  have ho24 := ho24.up hXw41
  have ho25 := ho25.up hXw41
  refine WL.pureG rfl rfl rfl rfl rfl (PV.not rfl) ?_
  refine WL.pure rfl rfl rfl (PV.pickF rfl rfl) ?_
  refine WL.pure rfl rfl rfl (PV.move rfl) ?_
  refine WL.split (t := 78) rfl (fun hc8 => ?_) (fun hc8 => ?_)
  · skip
    try simp only [decide_eq_true_eq, decide_eq_false_iff_not, Bool.not_eq_true', Bool.not_eq_false', Bool.not_eq_eq_eq_not, Bool.not_true, Bool.not_false, Int.not_lt, Int.not_le, Classical.not_not, beq_iff_eq, beq_eq_false_iff_ne] at hc8
    refine WL.skip rfl rfl rfl rfl rfl ?_
    refine WL.skip rfl rfl rfl rfl rfl ?_
    refine WL.skip rfl rfl rfl rfl rfl ?_
    refine WL.pure rfl rfl rfl (PV.pickT rfl rfl) ?_
    refine WL.nilS ?_
    refine CW.condT rfl ?_
    refine CW.seq ?_
    refine CW.reg ?_
    refine WL.pure rfl rfl rfl (PV.assign rfl) ?_
    refine WL.nilS ?_
    refine CW.ret ?_
    refine RQ.then ?_
    refine RQ.r1 rfl ?_
    refine ⟨?_, hB⟩
    first | rfl | (exfalso; revert hc8; simp; done) | (exfalso; revert hc8; simp; omega) | (exfalso; omega) | first | rfl | exact bT (by omega) | exact bF (by omega) | exact bD (by omega) | exact iE (by omega) | (simp_all; done) | (simp_all; omega) | (simp_all; intros; omega)
  try simp only [decide_eq_true_eq, decide_eq_false_iff_not, Bool.not_eq_true', Bool.not_eq_false', Bool.not_eq_eq_eq_not, Bool.not_true, Bool.not_false, Int.not_lt, Int.not_le, Classical.not_not, beq_iff_eq, beq_eq_false_iff_ne] at hc8
  refine WL.pureG rfl rfl rfl rfl rfl (PV.move rfl) ?_
  refine WL.pureG rfl rfl rfl rfl rfl (PV.move rfl) ?_
  refine WL.pureG rfl rfl rfl rfl rfl (PV.neqB T.bl4 rfl rfl) ?_
  refine WL.pure rfl rfl rfl (PV.pickF rfl rfl) ?_
  refine WL.nilS ?_
  refine CW.cond rfl (fun hc9 => ?_) (fun hc9 => ?_)
  · skip
    try simp only [decide_eq_true_eq, decide_eq_false_iff_not, Bool.not_eq_true', Bool.not_eq_false', Bool.not_eq_eq_eq_not, Bool.not_true, Bool.not_false, Int.not_lt, Int.not_le, Classical.not_not, beq_iff_eq, beq_eq_false_iff_ne] at hc9
    refine CW.seq ?_
    refine CW.reg ?_
    refine WL.pure rfl rfl rfl (PV.assign rfl) ?_
    refine WL.nilS ?_
    refine CW.ret ?_
    refine RQ.then ?_
    refine RQ.r1 rfl ?_
    refine ⟨?_, hB⟩
    first | rfl | (exfalso; revert hc9; simp; done) | (exfalso; revert hc9; simp; omega) | (exfalso; omega) | first | rfl | exact bT (by omega) | exact bF (by omega) | exact bD (by omega) | exact iE (by omega) | (simp_all; done) | (simp_all; omega) | (simp_all; intros; omega)
  try simp only [decide_eq_true_eq, decide_eq_false_iff_not, Bool.not_eq_true', Bool.not_eq_false', Bool.not_eq_eq_eq_not, Bool.not_true, Bool.not_false, Int.not_lt, Int.not_le, Classical.not_not, beq_iff_eq, beq_eq_false_iff_ne] at hc9
  refine CW.skipS ?_
  refine CW.seq ?_
  refine CW.reg ?_
  refine WL.pure rfl rfl rfl (PV.assign rfl) ?_
  refine WL.nilS ?_
  refine CW.seq ?_
  refine CW.reg ?_
  refine WL.pure rfl rfl rfl ((by first | exact PV.loadA T.ag29 rfl (by first | exact Cells.up (by assumption) hB | exact Bx.cells (by assumption) | assumption) (Ext.refl _) rfl | exact PV.loadP (ds := [_, _, _]) T.ag29 rfl (by first | exact Cells.up (by assumption) hB | exact Bx.cells (by assumption) | assumption) (Ext.refl _) rfl rfl)) ?_
  refine WL.pure rfl rfl rfl (PV.move rfl) ?_
  refine WL.op rfl (OpK.call rfl T.cf24 rfl (c_laws_markGrammar (by first | assumption | exact Dj.symm (by assumption)) (by first | assumption | omega | (simp only [marks_len, marksB_len, marksR_len]; omega))) (fun rv17 w42 hR => ?_))
  obtain ⟨rfl, hUC28, ho22⟩ := hR
  have hb1 := hb1.loop hUC28 ⟨hd1_22, trivial⟩
  have hb2 := hb2.loop hUC28 ⟨hd2_22, trivial⟩
  have ho4 := ho4.loop hUC28 ⟨hd4_22, trivial⟩
  have hb3 := hb3.loop hUC28 ⟨hd3_22, trivial⟩
  have ho18 := ho18.loop hUC28 ⟨hd18_22, trivial⟩
  have hb19 := hb19.loop hUC28 ⟨hd19_22, trivial⟩
  have ho20 := ho20.loop hUC28 ⟨hd20_22, trivial⟩
  have hb21 := hb21.loop hUC28 ⟨hd21_22, trivial⟩
  have hb23 := hb23.loop hUC28 ⟨(Dj.symm hd22_23), trivial⟩
  have ho24 := ho24.loop hUC28 ⟨(Dj.symm hd22_24), trivial⟩
  have ho25 := ho25.loop hUC28 ⟨(Dj.symm hd22_25), trivial⟩
  have hB := hB.loop hUC28 ⟨hl22, trivial⟩
  refine WL.pure rfl rfl rfl (PV.assign rfl) ?_
  refine WL.nilS ?_
  refine CW.seq ?_
  refine CW.reg ?_
  refine WL.pure rfl rfl rfl (PV.assign rfl) ?_
  refine WL.nilS ?_
  refine CW.seq ?_
  refine CW.reg ?_
  refine WL.pure rfl rfl rfl ((by first | exact PV.loadA T.ag29 rfl (by first | exact Cells.up (by assumption) hB | exact Bx.cells (by assumption) | assumption) (Ext.refl _) rfl | exact PV.loadP (ds := [_, _, _]) T.ag29 rfl (by first | exact Cells.up (by assumption) hB | exact Bx.cells (by assumption) | assumption) (Ext.refl _) rfl rfl)) ?_
  refine WL.pure rfl rfl rfl (PV.move rfl) ?_
  refine WL.op rfl (OpK.callR rfl T.cf25 rfl (c_laws_heldGrammar (by first | assumption | exact Rd.up (by assumption) hB | exact Osl.rd (by assumption) | exact Osn.rdR (by assumption)) (by first | assumption | omega | (simp only [marks_len, marksB_len, marksR_len]; omega))) (fun w43 hXw43 => ?_))
  have hB := hB.trans hXw43
  have hb1 := hb1.up hXw43
  have hb2 := hb2.up hXw43
  have ho4 := ho4.up hXw43
  have hb3 := hb3.up hXw43
  have ho18 := ho18.up hXw43
  have hb19 := hb19.up hXw43
  have ho20 := ho20.up hXw43
  have hb21 := hb21.up hXw43
  have ho22 := ho22.up hXw43
  have hb23 := hb23.up hXw43
  have ho24 := ho24.up hXw43
  have ho25 := ho25.up hXw43
  refine WL.pure rfl rfl rfl (PV.assign rfl) ?_
  refine WL.nilS ?_
  refine CW.seq ?_
  refine CW.seq ?_
  refine CW.reg ?_
  refine WL.pure rfl rfl rfl (PV.move rfl) ?_
  refine WL.pure rfl rfl rfl (PV.lss rfl rfl) ?_
  refine WL.nilS ?_
  refine CW.cond rfl (fun hc10 => ?_) (fun hc10 => ?_)
  · skip
    try simp only [decide_eq_true_eq, decide_eq_false_iff_not, Bool.not_eq_true', Bool.not_eq_false', Bool.not_eq_eq_eq_not, Bool.not_true, Bool.not_false, Int.not_lt, Int.not_le, Classical.not_not, beq_iff_eq, beq_eq_false_iff_ne] at hc10
    refine CW.seq ?_
    refine CW.reg ?_
    refine WL.pure rfl rfl rfl (PV.assign rfl) ?_
    refine WL.nilS ?_
    refine CW.ret ?_
    refine RQ.then ?_
    refine RQ.r1 rfl ?_
    refine ⟨?_, hB⟩
    first | rfl | (exfalso; revert hc10; simp; done) | (exfalso; revert hc10; simp; omega) | (exfalso; omega) | first | rfl | exact bT (by omega) | exact bF (by omega) | exact bD (by omega) | exact iE (by omega) | (simp_all; done) | (simp_all; omega) | (simp_all; intros; omega)
  try simp only [decide_eq_true_eq, decide_eq_false_iff_not, Bool.not_eq_true', Bool.not_eq_false', Bool.not_eq_eq_eq_not, Bool.not_true, Bool.not_false, Int.not_lt, Int.not_le, Classical.not_not, beq_iff_eq, beq_eq_false_iff_ne] at hc10
  refine CW.skipS ?_
  refine CW.seq ?_
  refine CW.seq ?_
  refine CW.reg ?_
  refine WL.pure rfl rfl rfl (PV.move rfl) ?_
  refine WL.pure rfl rfl rfl (PV.move rfl) ?_
  refine WL.pure rfl rfl rfl (PV.neq rfl rfl) ?_
  refine WL.nilS ?_
  refine CW.cond rfl (fun hc11 => ?_) (fun hc11 => ?_)
  · skip
    try simp only [decide_eq_true_eq, decide_eq_false_iff_not, Bool.not_eq_true', Bool.not_eq_false', Bool.not_eq_eq_eq_not, Bool.not_true, Bool.not_false, Int.not_lt, Int.not_le, Classical.not_not, beq_iff_eq, beq_eq_false_iff_ne] at hc11
    refine CW.seq ?_
    refine CW.reg ?_
    refine WL.pure rfl rfl rfl (PV.assign rfl) ?_
    refine WL.nilS ?_
    refine CW.ret ?_
    refine RQ.then ?_
    refine RQ.r1 rfl ?_
    refine ⟨?_, hB⟩
    first | rfl | (exfalso; revert hc11; simp; done) | (exfalso; revert hc11; simp; omega) | (exfalso; omega) | first | rfl | exact bT (by omega) | exact bF (by omega) | exact bD (by omega) | exact iE (by omega) | (simp_all; done) | (simp_all; omega) | (simp_all; intros; omega)
  try simp only [decide_eq_true_eq, decide_eq_false_iff_not, Bool.not_eq_true', Bool.not_eq_false', Bool.not_eq_eq_eq_not, Bool.not_true, Bool.not_false, Int.not_lt, Int.not_le, Classical.not_not, beq_iff_eq, beq_eq_false_iff_ne] at hc11
  refine CW.skipS ?_
  refine CW.cut (σk := [(6, _), (7, _), (10, _), (13, _)]) (fun ρ wz => ∃ (v30 : Value) (og30 : Option Nat) (b29 : Addr), ρ = [(15, .pointer (some b29)), (16, .bool (eithB a0 a1 xa2 y0 y1 xy2))] ∧ Ext w43 wz ∧ Osn 4 gR wz og30 v30 (onT (eithB a0 a1 xa2 y0 y1 xy2) (eithL a0 xa2 xy2)) ∧ Lo w og30 ∧ Bx wz b29 [.int .i64 (onI (eithB a0 a1 xa2 y0 y1 xy2) (1 + a0 + y0)), .int .i64 (onI (eithB a0 a1 xa2 y0 y1 xy2) a1), v30] ∧ Lo w (some b29.block) ∧ Dj (some b1.block) og30 ∧ Dj (some b1.block) (some b29.block) ∧ Dj (some b2.block) og30 ∧ Dj (some b2.block) (some b29.block) ∧ Dj og4 og30 ∧ Dj og4 (some b29.block) ∧ Dj (some b3.block) og30 ∧ Dj (some b3.block) (some b29.block) ∧ Dj og18 og30 ∧ Dj og18 (some b29.block) ∧ Dj (some b19.block) og30 ∧ Dj (some b19.block) (some b29.block) ∧ Dj og20 og30 ∧ Dj og20 (some b29.block) ∧ Dj (some b21.block) og30 ∧ Dj (some b21.block) (some b29.block) ∧ Dj og22 og30 ∧ Dj og22 (some b29.block) ∧ Dj (some b23.block) og30 ∧ Dj (some b23.block) (some b29.block) ∧ Dj og24 og30 ∧ Dj og24 (some b29.block) ∧ Dj og25 og30 ∧ Dj og25 (some b29.block) ∧ Dj og30 (some b29.block)) ⟨rfl, rfl, rfl, rfl, trivial⟩ ?_ ?_
  · skip
    have hB0 := Ext.refl w43
    refine CW.draw T.mixed (by kernel_rfl) (fun _ _ _ _ _ h => h) (fun w8 w9 => Upd none w8 w9) 11 (.take 0 (.take 2 (.fork 1 8 (.fork 3 8 (.fork 4 8 (.take 5 (.take 6 (.take 7 (.must 8 (.must 9 (.take 10 .done)))))) (.must 4 (.take 5 (.take 6 (.take 7 (.must 9 (.take 10 .done))))))) (.must 3 (.must 4 (.take 5 (.take 6 (.take 7 (.must 9 (.take 10 .done)))))))) (.must 1 (.must 3 (.must 4 (.take 5 (.take 6 (.take 7 (.must 9 (.take 10 .done))))))))))) (by kernel_rfl) (fun w44 hXd => ?_)
    have hB := hB.trans hXd
    have hBc := (by first | exact hBc.trans hXd | exact hB0.trans hXd)
    have hb1 := hb1.up hXd
    have hb2 := hb2.up hXd
    have ho4 := ho4.up hXd
    have hb3 := hb3.up hXd
    have ho18 := ho18.up hXd
    have hb19 := hb19.up hXd
    have ho20 := ho20.up hXd
    have hb21 := hb21.up hXd
    have ho22 := ho22.up hXd
    have hb23 := hb23.up hXd
    have ho24 := ho24.up hXd
    have ho25 := ho25.up hXd
    have hBr := hB
    have hS : Upd none w44 w44 := Ext.toUpd (Ext.refl _)
    refine HP.take rfl rfl rfl rfl hS (fun wS hS1 => (by first | exact PV.loadA T.ag24 rfl (by first | exact Cells.up (by assumption) (hBr.trans hS1) | exact Bx.cells (Bx.updD (by assumption) hS1 (Dj.nlR _)) | exact Cells.upd (by assumption) hS1 (by simp)) (Ext.refl _) rfl | exact PV.loadP (ds := [_, _, _]) T.ag24 rfl (by first | exact Cells.up (by assumption) (hBr.trans hS1) | exact Bx.cells (Bx.updD (by assumption) hS1 (Dj.nlR _)) | exact Cells.upd (by assumption) hS1 (by simp)) (Ext.refl _) rfl rfl)) ?_
    refine HP.take rfl rfl rfl rfl hS (fun wS hS1 => (by first | exact PV.loadA T.ag24 rfl (by first | exact Cells.up (by assumption) (hBr.trans hS1) | exact Bx.cells (Bx.updD (by assumption) hS1 (Dj.nlR _)) | exact Cells.upd (by assumption) hS1 (by simp)) (Ext.refl _) rfl | exact PV.loadP (ds := [_, _, _]) T.ag24 rfl (by first | exact Cells.up (by assumption) (hBr.trans hS1) | exact Bx.cells (Bx.updD (by assumption) hS1 (Dj.nlR _)) | exact Cells.upd (by assumption) hS1 (by simp)) (Ext.refl _) rfl rfl)) ?_
    refine HP.fork rfl rfl rfl rfl ?_ ?_
    · skip
      refine (OpK.call rfl T.cf17 rfl (c_laws_toGrammar (by first | assumption | exact Rd.up (by assumption) hB | exact Osl.rd (by assumption) | exact Osn.rdR (by assumption)) (by first | assumption | omega | (simp only [marks_len, marksB_len, marksR_len]; omega))) (fun rv18 w45 hR => ?_))
      obtain ⟨hXw45, v31, og31, rfl, ho31, hq31⟩ := hR
      have hl31 := Lo.up hq31 hB
      have hv31 := Lo.up hq31 hS
      have hd1_31 := Dj.lo hb1.ltO hq31
      have hd2_31 := Dj.lo hb2.ltO hq31
      have hd4_31 := Dj.lo ho4.ltO hq31
      have hd3_31 := Dj.lo hb3.ltO hq31
      have hd18_31 := Dj.lo ho18.ltO hq31
      have hd19_31 := Dj.lo hb19.ltO hq31
      have hd20_31 := Dj.lo ho20.ltO hq31
      have hd21_31 := Dj.lo hb21.ltO hq31
      have hd22_31 := Dj.lo ho22.ltO hq31
      have hd23_31 := Dj.lo hb23.ltO hq31
      have hd24_31 := Dj.lo ho24.ltO hq31
      have hd25_31 := Dj.lo ho25.ltO hq31
      refine ⟨Upd.trans hS hXw45, ?_⟩
      have hS := Upd.trans hS hXw45
      have hB := hB.trans hXw45
      have hBc := (by first | exact hBc.trans hXw45 | exact hB0.trans hXw45)
      have hb1 := hb1.up hXw45
      have hb2 := hb2.up hXw45
      have ho4 := ho4.up hXw45
      have hb3 := hb3.up hXw45
      have ho18 := ho18.up hXw45
      have hb19 := hb19.up hXw45
      have ho20 := ho20.up hXw45
      have hb21 := hb21.up hXw45
      have ho22 := ho22.up hXw45
      have hb23 := hb23.up hXw45
      have ho24 := ho24.up hXw45
      have ho25 := ho25.up hXw45
      refine HP.fork rfl rfl rfl rfl ?_ ?_
      · skip
        refine (OpK.call rfl T.cf17 rfl (c_laws_toGrammar (by first | assumption | exact Rd.up (by assumption) hB | exact Osl.rd (by assumption) | exact Osn.rdR (by assumption)) (by first | assumption | omega | (simp only [marks_len, marksB_len, marksR_len]; omega))) (fun rv19 w46 hR => ?_))
        obtain ⟨hXw46, v32, og32, rfl, ho32, hq32⟩ := hR
        have hl32 := Lo.up hq32 hB
        have hv32 := Lo.up hq32 hS
        have hd1_32 := Dj.lo hb1.ltO hq32
        have hd2_32 := Dj.lo hb2.ltO hq32
        have hd4_32 := Dj.lo ho4.ltO hq32
        have hd3_32 := Dj.lo hb3.ltO hq32
        have hd18_32 := Dj.lo ho18.ltO hq32
        have hd19_32 := Dj.lo hb19.ltO hq32
        have hd20_32 := Dj.lo ho20.ltO hq32
        have hd21_32 := Dj.lo hb21.ltO hq32
        have hd22_32 := Dj.lo ho22.ltO hq32
        have hd23_32 := Dj.lo hb23.ltO hq32
        have hd24_32 := Dj.lo ho24.ltO hq32
        have hd25_32 := Dj.lo ho25.ltO hq32
        have hd31_32 := Dj.lo ho31.ltO hq32
        refine ⟨Upd.trans hS hXw46, ?_⟩
        have hS := Upd.trans hS hXw46
        have hB := hB.trans hXw46
        have hBc := (by first | exact hBc.trans hXw46 | exact hB0.trans hXw46)
        have hb1 := hb1.up hXw46
        have hb2 := hb2.up hXw46
        have ho4 := ho4.up hXw46
        have hb3 := hb3.up hXw46
        have ho18 := ho18.up hXw46
        have hb19 := hb19.up hXw46
        have ho20 := ho20.up hXw46
        have hb21 := hb21.up hXw46
        have ho22 := ho22.up hXw46
        have hb23 := hb23.up hXw46
        have ho24 := ho24.up hXw46
        have ho25 := ho25.up hXw46
        have ho31 := ho31.up hXw46
        refine HP.fork rfl rfl rfl rfl ?_ ?_
        · skip
          refine (OpK.call rfl T.cf27 rfl (c_impl_EitherGrammar (by first | assumption | exact Rd.up (by assumption) hB | exact Osl.rd (by assumption) | exact Osn.rdR (by assumption)) (by first | assumption | exact Rd.up (by assumption) hB | exact Osl.rd (by assumption) | exact Osn.rdR (by assumption))) (fun rv20 w47 hR => ?_))
          obtain ⟨hXw47, v33, og33, rfl, ho33, hq33⟩ := hR
          have hl33 := Lo.up hq33 hB
          have hv33 := Lo.up hq33 hS
          have hd1_33 := Dj.lo hb1.ltO hq33
          have hd2_33 := Dj.lo hb2.ltO hq33
          have hd4_33 := Dj.lo ho4.ltO hq33
          have hd3_33 := Dj.lo hb3.ltO hq33
          have hd18_33 := Dj.lo ho18.ltO hq33
          have hd19_33 := Dj.lo hb19.ltO hq33
          have hd20_33 := Dj.lo ho20.ltO hq33
          have hd21_33 := Dj.lo hb21.ltO hq33
          have hd22_33 := Dj.lo ho22.ltO hq33
          have hd23_33 := Dj.lo hb23.ltO hq33
          have hd24_33 := Dj.lo ho24.ltO hq33
          have hd25_33 := Dj.lo ho25.ltO hq33
          have hd31_33 := Dj.lo ho31.ltO hq33
          have hd32_33 := Dj.lo ho32.ltO hq33
          refine ⟨Upd.trans hS hXw47, ?_⟩
          have hS := Upd.trans hS hXw47
          have hB := hB.trans hXw47
          have hBc := (by first | exact hBc.trans hXw47 | exact hB0.trans hXw47)
          have hb1 := hb1.up hXw47
          have hb2 := hb2.up hXw47
          have ho4 := ho4.up hXw47
          have hb3 := hb3.up hXw47
          have ho18 := ho18.up hXw47
          have hb19 := hb19.up hXw47
          have ho20 := ho20.up hXw47
          have hb21 := hb21.up hXw47
          have ho22 := ho22.up hXw47
          have hb23 := hb23.up hXw47
          have ho24 := ho24.up hXw47
          have ho25 := ho25.up hXw47
          have ho31 := ho31.up hXw47
          have ho32 := ho32.up hXw47
          refine HP.take rfl rfl rfl rfl hS (fun wS hS1 => PV.move rfl) ?_
          refine HP.take rfl rfl rfl rfl hS (fun wS hS1 => PV.extract rfl rfl) ?_
          refine HP.take rfl rfl rfl rfl hS (fun wS hS1 => PV.extract rfl rfl) ?_
          refine HP.must rfl rfl (OpK.alloc rfl T.zv29 rfl (fun b34 w48 hXw48 hb34 hge34 => ?_))
          have hl34 := Lo.new hB hge34
          have hv34 := Lo.new hS hge34
          have hd1_34 := Dj.new hb1.ltO hge34
          have hd2_34 := Dj.new hb2.ltO hge34
          have hd4_34 := Dj.new ho4.ltO hge34
          have hd3_34 := Dj.new hb3.ltO hge34
          have hd18_34 := Dj.new ho18.ltO hge34
          have hd19_34 := Dj.new hb19.ltO hge34
          have hd20_34 := Dj.new ho20.ltO hge34
          have hd21_34 := Dj.new hb21.ltO hge34
          have hd22_34 := Dj.new ho22.ltO hge34
          have hd23_34 := Dj.new hb23.ltO hge34
          have hd24_34 := Dj.new ho24.ltO hge34
          have hd25_34 := Dj.new ho25.ltO hge34
          have hd31_34 := Dj.new ho31.ltO hge34
          have hd32_34 := Dj.new ho32.ltO hge34
          have hd33_34 := Dj.new ho33.ltO hge34
          refine ⟨Upd.trans hS hXw48, ?_⟩
          have hS := Upd.trans hS hXw48
          have hB := hB.trans hXw48
          have hBc := (by first | exact hBc.trans hXw48 | exact hB0.trans hXw48)
          have hb1 := hb1.up hXw48
          have hb2 := hb2.up hXw48
          have ho4 := ho4.up hXw48
          have hb3 := hb3.up hXw48
          have ho18 := ho18.up hXw48
          have hb19 := hb19.up hXw48
          have ho20 := ho20.up hXw48
          have hb21 := hb21.up hXw48
          have ho22 := ho22.up hXw48
          have hb23 := hb23.up hXw48
          have ho24 := ho24.up hXw48
          have ho25 := ho25.up hXw48
          have ho31 := ho31.up hXw48
          have ho32 := ho32.up hXw48
          have ho33 := ho33.up hXw48
          refine HP.must rfl rfl (OpK.storeA T.sz29 rfl rfl rfl rfl (by simp [Value.oneCell'] <;> first | done | (repeat' apply And.intro) <;> first | rfl | exact Osl.oneCell (by assumption) | exact Osn.oneCell (by assumption) | exact Rd.oneCell (by assumption) | assumption) hb34 (fun w49 hXw49 hb34 => ?_))
          refine ⟨Ext.updL hS hXw49 hv34, ?_⟩
          have hS := Ext.updL hS hXw49 hv34
          have hB := hB.updL hXw49 hl34
          have hBc := hBc.updL hXw49 (Lo.up hv34 hXd)
          have hb1 := hb1.updD hXw49 hd1_34
          have hb2 := hb2.updD hXw49 hd2_34
          have ho4 := ho4.updD hXw49 hd4_34
          have hb3 := hb3.updD hXw49 hd3_34
          have ho18 := ho18.updD hXw49 hd18_34
          have hb19 := hb19.updD hXw49 hd19_34
          have ho20 := ho20.updD hXw49 hd20_34
          have hb21 := hb21.updD hXw49 hd21_34
          have ho22 := ho22.updD hXw49 hd22_34
          have hb23 := hb23.updD hXw49 hd23_34
          have ho24 := ho24.updD hXw49 hd24_34
          have ho25 := ho25.updD hXw49 hd25_34
          have ho31 := ho31.updD hXw49 hd31_34
          have ho32 := ho32.updD hXw49 hd32_34
          have ho33 := ho33.updD hXw49 hd33_34
          refine HP.take rfl rfl rfl rfl hS (fun wS hS1 => PV.assign rfl) ?_
          refine HP.done ?_
          exact NQ.cut (ρ := [(15, _), (16, _)]) ⟨rfl, rfl, rfl, rfl, rfl, rfl, trivial⟩ ⟨v33, og33, b34, rfl, hBc, ho33, hl33, hb34, hl34, hd1_33, hd1_34, hd2_33, hd2_34, hd4_33, hd4_34, hd3_33, hd3_34, hd18_33, hd18_34, hd19_33, hd19_34, hd20_33, hd20_34, hd21_33, hd21_34, hd22_33, hd22_34, hd23_33, hd23_34, hd24_33, hd24_34, hd25_33, hd25_34, hd33_34⟩
        · skip
          refine (OpK.alloc rfl T.zv29 rfl (fun b35 w50 hXw50 hb35 hge35 => ?_))
          have hl35 := Lo.new hB hge35
          have hv35 := Lo.new hS hge35
          have hd1_35 := Dj.new hb1.ltO hge35
          have hd2_35 := Dj.new hb2.ltO hge35
          have hd4_35 := Dj.new ho4.ltO hge35
          have hd3_35 := Dj.new hb3.ltO hge35
          have hd18_35 := Dj.new ho18.ltO hge35
          have hd19_35 := Dj.new hb19.ltO hge35
          have hd20_35 := Dj.new ho20.ltO hge35
          have hd21_35 := Dj.new hb21.ltO hge35
          have hd22_35 := Dj.new ho22.ltO hge35
          have hd23_35 := Dj.new hb23.ltO hge35
          have hd24_35 := Dj.new ho24.ltO hge35
          have hd25_35 := Dj.new ho25.ltO hge35
          have hd31_35 := Dj.new ho31.ltO hge35
          have hd32_35 := Dj.new ho32.ltO hge35
          refine ⟨Upd.trans hS hXw50, ?_⟩
          have hS := Upd.trans hS hXw50
          have hB := hB.trans hXw50
          have hBc := (by first | exact hBc.trans hXw50 | exact hB0.trans hXw50)
          have hb1 := hb1.up hXw50
          have hb2 := hb2.up hXw50
          have ho4 := ho4.up hXw50
          have hb3 := hb3.up hXw50
          have ho18 := ho18.up hXw50
          have hb19 := hb19.up hXw50
          have ho20 := ho20.up hXw50
          have hb21 := hb21.up hXw50
          have ho22 := ho22.up hXw50
          have hb23 := hb23.up hXw50
          have ho24 := ho24.up hXw50
          have ho25 := ho25.up hXw50
          have ho31 := ho31.up hXw50
          have ho32 := ho32.up hXw50
          refine HP.must rfl rfl (OpK.call rfl T.cf27 rfl (c_impl_EitherGrammar (by first | assumption | exact Rd.up (by assumption) hB | exact Osl.rd (by assumption) | exact Osn.rdR (by assumption)) (by first | assumption | exact Rd.up (by assumption) hB | exact Osl.rd (by assumption) | exact Osn.rdR (by assumption))) (fun rv21 w51 hR => ?_))
          obtain ⟨hXw51, v36, og36, rfl, ho36, hq36⟩ := hR
          have hl36 := Lo.up hq36 hB
          have hv36 := Lo.up hq36 hS
          have hd1_36 := Dj.lo hb1.ltO hq36
          have hd2_36 := Dj.lo hb2.ltO hq36
          have hd4_36 := Dj.lo ho4.ltO hq36
          have hd3_36 := Dj.lo hb3.ltO hq36
          have hd18_36 := Dj.lo ho18.ltO hq36
          have hd19_36 := Dj.lo hb19.ltO hq36
          have hd20_36 := Dj.lo ho20.ltO hq36
          have hd21_36 := Dj.lo hb21.ltO hq36
          have hd22_36 := Dj.lo ho22.ltO hq36
          have hd23_36 := Dj.lo hb23.ltO hq36
          have hd24_36 := Dj.lo ho24.ltO hq36
          have hd25_36 := Dj.lo ho25.ltO hq36
          have hd31_36 := Dj.lo ho31.ltO hq36
          have hd32_36 := Dj.lo ho32.ltO hq36
          have hd35_36 := Dj.lo hb35.ltO hq36
          refine ⟨Upd.trans hS hXw51, ?_⟩
          have hS := Upd.trans hS hXw51
          have hB := hB.trans hXw51
          have hBc := (by first | exact hBc.trans hXw51 | exact hB0.trans hXw51)
          have hb1 := hb1.up hXw51
          have hb2 := hb2.up hXw51
          have ho4 := ho4.up hXw51
          have hb3 := hb3.up hXw51
          have ho18 := ho18.up hXw51
          have hb19 := hb19.up hXw51
          have ho20 := ho20.up hXw51
          have hb21 := hb21.up hXw51
          have ho22 := ho22.up hXw51
          have hb23 := hb23.up hXw51
          have ho24 := ho24.up hXw51
          have ho25 := ho25.up hXw51
          have ho31 := ho31.up hXw51
          have ho32 := ho32.up hXw51
          have hb35 := hb35.up hXw51
          refine HP.take rfl rfl rfl rfl hS (fun wS hS1 => PV.move rfl) ?_
          refine HP.take rfl rfl rfl rfl hS (fun wS hS1 => PV.extract rfl rfl) ?_
          refine HP.take rfl rfl rfl rfl hS (fun wS hS1 => PV.extract rfl rfl) ?_
          refine HP.must rfl rfl (OpK.storeA T.sz29 rfl rfl rfl rfl (by simp [Value.oneCell'] <;> first | done | (repeat' apply And.intro) <;> first | rfl | exact Osl.oneCell (by assumption) | exact Osn.oneCell (by assumption) | exact Rd.oneCell (by assumption) | assumption) hb35 (fun w52 hXw52 hb35 => ?_))
          refine ⟨Ext.updL hS hXw52 hv35, ?_⟩
          have hS := Ext.updL hS hXw52 hv35
          have hB := hB.updL hXw52 hl35
          have hBc := hBc.updL hXw52 (Lo.up hv35 hXd)
          have hb1 := hb1.updD hXw52 hd1_35
          have hb2 := hb2.updD hXw52 hd2_35
          have ho4 := ho4.updD hXw52 hd4_35
          have hb3 := hb3.updD hXw52 hd3_35
          have ho18 := ho18.updD hXw52 hd18_35
          have hb19 := hb19.updD hXw52 hd19_35
          have ho20 := ho20.updD hXw52 hd20_35
          have hb21 := hb21.updD hXw52 hd21_35
          have ho22 := ho22.updD hXw52 hd22_35
          have hb23 := hb23.updD hXw52 hd23_35
          have ho24 := ho24.updD hXw52 hd24_35
          have ho25 := ho25.updD hXw52 hd25_35
          have ho31 := ho31.updD hXw52 hd31_35
          have ho32 := ho32.updD hXw52 hd32_35
          have ho36 := ho36.updD hXw52 (Dj.symm hd35_36)
          refine HP.take rfl rfl rfl rfl hS (fun wS hS1 => PV.assign rfl) ?_
          refine HP.done ?_
          exact NQ.cut (ρ := [(15, _), (16, _)]) ⟨rfl, rfl, rfl, rfl, rfl, rfl, trivial⟩ ⟨v36, og36, b35, rfl, hBc, ho36, hl36, hb35, hl35, hd1_36, hd1_35, hd2_36, hd2_35, hd4_36, hd4_35, hd3_36, hd3_35, hd18_36, hd18_35, hd19_36, hd19_35, hd20_36, hd20_35, hd21_36, hd21_35, hd22_36, hd22_35, hd23_36, hd23_35, hd24_36, hd24_35, hd25_36, hd25_35, (Dj.symm hd35_36)⟩
      · skip
        refine (OpK.alloc rfl T.zv29 rfl (fun b37 w53 hXw53 hb37 hge37 => ?_))
        have hl37 := Lo.new hB hge37
        have hv37 := Lo.new hS hge37
        have hd1_37 := Dj.new hb1.ltO hge37
        have hd2_37 := Dj.new hb2.ltO hge37
        have hd4_37 := Dj.new ho4.ltO hge37
        have hd3_37 := Dj.new hb3.ltO hge37
        have hd18_37 := Dj.new ho18.ltO hge37
        have hd19_37 := Dj.new hb19.ltO hge37
        have hd20_37 := Dj.new ho20.ltO hge37
        have hd21_37 := Dj.new hb21.ltO hge37
        have hd22_37 := Dj.new ho22.ltO hge37
        have hd23_37 := Dj.new hb23.ltO hge37
        have hd24_37 := Dj.new ho24.ltO hge37
        have hd25_37 := Dj.new ho25.ltO hge37
        have hd31_37 := Dj.new ho31.ltO hge37
        refine ⟨Upd.trans hS hXw53, ?_⟩
        have hS := Upd.trans hS hXw53
        have hB := hB.trans hXw53
        have hBc := (by first | exact hBc.trans hXw53 | exact hB0.trans hXw53)
        have hb1 := hb1.up hXw53
        have hb2 := hb2.up hXw53
        have ho4 := ho4.up hXw53
        have hb3 := hb3.up hXw53
        have ho18 := ho18.up hXw53
        have hb19 := hb19.up hXw53
        have ho20 := ho20.up hXw53
        have hb21 := hb21.up hXw53
        have ho22 := ho22.up hXw53
        have hb23 := hb23.up hXw53
        have ho24 := ho24.up hXw53
        have ho25 := ho25.up hXw53
        have ho31 := ho31.up hXw53
        refine HP.must rfl rfl (OpK.call rfl T.cf17 rfl (c_laws_toGrammar (by first | assumption | exact Rd.up (by assumption) hB | exact Osl.rd (by assumption) | exact Osn.rdR (by assumption)) (by first | assumption | omega | (simp only [marks_len, marksB_len, marksR_len]; omega))) (fun rv22 w54 hR => ?_))
        obtain ⟨hXw54, v38, og38, rfl, ho38, hq38⟩ := hR
        have hl38 := Lo.up hq38 hB
        have hv38 := Lo.up hq38 hS
        have hd1_38 := Dj.lo hb1.ltO hq38
        have hd2_38 := Dj.lo hb2.ltO hq38
        have hd4_38 := Dj.lo ho4.ltO hq38
        have hd3_38 := Dj.lo hb3.ltO hq38
        have hd18_38 := Dj.lo ho18.ltO hq38
        have hd19_38 := Dj.lo hb19.ltO hq38
        have hd20_38 := Dj.lo ho20.ltO hq38
        have hd21_38 := Dj.lo hb21.ltO hq38
        have hd22_38 := Dj.lo ho22.ltO hq38
        have hd23_38 := Dj.lo hb23.ltO hq38
        have hd24_38 := Dj.lo ho24.ltO hq38
        have hd25_38 := Dj.lo ho25.ltO hq38
        have hd31_38 := Dj.lo ho31.ltO hq38
        have hd37_38 := Dj.lo hb37.ltO hq38
        refine ⟨Upd.trans hS hXw54, ?_⟩
        have hS := Upd.trans hS hXw54
        have hB := hB.trans hXw54
        have hBc := (by first | exact hBc.trans hXw54 | exact hB0.trans hXw54)
        have hb1 := hb1.up hXw54
        have hb2 := hb2.up hXw54
        have ho4 := ho4.up hXw54
        have hb3 := hb3.up hXw54
        have ho18 := ho18.up hXw54
        have hb19 := hb19.up hXw54
        have ho20 := ho20.up hXw54
        have hb21 := hb21.up hXw54
        have ho22 := ho22.up hXw54
        have hb23 := hb23.up hXw54
        have ho24 := ho24.up hXw54
        have ho25 := ho25.up hXw54
        have ho31 := ho31.up hXw54
        have hb37 := hb37.up hXw54
        refine HP.must rfl rfl (OpK.call rfl T.cf27 rfl (c_impl_EitherGrammar (by first | assumption | exact Rd.up (by assumption) hB | exact Osl.rd (by assumption) | exact Osn.rdR (by assumption)) (by first | assumption | exact Rd.up (by assumption) hB | exact Osl.rd (by assumption) | exact Osn.rdR (by assumption))) (fun rv23 w55 hR => ?_))
        obtain ⟨hXw55, v39, og39, rfl, ho39, hq39⟩ := hR
        have hl39 := Lo.up hq39 hB
        have hv39 := Lo.up hq39 hS
        have hd1_39 := Dj.lo hb1.ltO hq39
        have hd2_39 := Dj.lo hb2.ltO hq39
        have hd4_39 := Dj.lo ho4.ltO hq39
        have hd3_39 := Dj.lo hb3.ltO hq39
        have hd18_39 := Dj.lo ho18.ltO hq39
        have hd19_39 := Dj.lo hb19.ltO hq39
        have hd20_39 := Dj.lo ho20.ltO hq39
        have hd21_39 := Dj.lo hb21.ltO hq39
        have hd22_39 := Dj.lo ho22.ltO hq39
        have hd23_39 := Dj.lo hb23.ltO hq39
        have hd24_39 := Dj.lo ho24.ltO hq39
        have hd25_39 := Dj.lo ho25.ltO hq39
        have hd31_39 := Dj.lo ho31.ltO hq39
        have hd37_39 := Dj.lo hb37.ltO hq39
        have hd38_39 := Dj.lo ho38.ltO hq39
        refine ⟨Upd.trans hS hXw55, ?_⟩
        have hS := Upd.trans hS hXw55
        have hB := hB.trans hXw55
        have hBc := (by first | exact hBc.trans hXw55 | exact hB0.trans hXw55)
        have hb1 := hb1.up hXw55
        have hb2 := hb2.up hXw55
        have ho4 := ho4.up hXw55
        have hb3 := hb3.up hXw55
        have ho18 := ho18.up hXw55
        have hb19 := hb19.up hXw55
        have ho20 := ho20.up hXw55
        have hb21 := hb21.up hXw55
        have ho22 := ho22.up hXw55
        have hb23 := hb23.up hXw55
        have ho24 := ho24.up hXw55
        have ho25 := ho25.up hXw55
        have ho31 := ho31.up hXw55
        have hb37 := hb37.up hXw55
        have ho38 := ho38.up hXw55
        refine HP.take rfl rfl rfl rfl hS (fun wS hS1 => PV.move rfl) ?_
        refine HP.take rfl rfl rfl rfl hS (fun wS hS1 => PV.extract rfl rfl) ?_
        refine HP.take rfl rfl rfl rfl hS (fun wS hS1 => PV.extract rfl rfl) ?_
        refine HP.must rfl rfl (OpK.storeA T.sz29 rfl rfl rfl rfl (by simp [Value.oneCell'] <;> first | done | (repeat' apply And.intro) <;> first | rfl | exact Osl.oneCell (by assumption) | exact Osn.oneCell (by assumption) | exact Rd.oneCell (by assumption) | assumption) hb37 (fun w56 hXw56 hb37 => ?_))
        refine ⟨Ext.updL hS hXw56 hv37, ?_⟩
        have hS := Ext.updL hS hXw56 hv37
        have hB := hB.updL hXw56 hl37
        have hBc := hBc.updL hXw56 (Lo.up hv37 hXd)
        have hb1 := hb1.updD hXw56 hd1_37
        have hb2 := hb2.updD hXw56 hd2_37
        have ho4 := ho4.updD hXw56 hd4_37
        have hb3 := hb3.updD hXw56 hd3_37
        have ho18 := ho18.updD hXw56 hd18_37
        have hb19 := hb19.updD hXw56 hd19_37
        have ho20 := ho20.updD hXw56 hd20_37
        have hb21 := hb21.updD hXw56 hd21_37
        have ho22 := ho22.updD hXw56 hd22_37
        have hb23 := hb23.updD hXw56 hd23_37
        have ho24 := ho24.updD hXw56 hd24_37
        have ho25 := ho25.updD hXw56 hd25_37
        have ho31 := ho31.updD hXw56 hd31_37
        have ho38 := ho38.updD hXw56 (Dj.symm hd37_38)
        have ho39 := ho39.updD hXw56 (Dj.symm hd37_39)
        refine HP.take rfl rfl rfl rfl hS (fun wS hS1 => PV.assign rfl) ?_
        refine HP.done ?_
        exact NQ.cut (ρ := [(15, _), (16, _)]) ⟨rfl, rfl, rfl, rfl, rfl, rfl, trivial⟩ ⟨v39, og39, b37, rfl, hBc, ho39, hl39, hb37, hl37, hd1_39, hd1_37, hd2_39, hd2_37, hd4_39, hd4_37, hd3_39, hd3_37, hd18_39, hd18_37, hd19_39, hd19_37, hd20_39, hd20_37, hd21_39, hd21_37, hd22_39, hd22_37, hd23_39, hd23_37, hd24_39, hd24_37, hd25_39, hd25_37, (Dj.symm hd37_39)⟩
    · skip
      refine (OpK.alloc rfl T.zv29 rfl (fun b40 w57 hXw57 hb40 hge40 => ?_))
      have hl40 := Lo.new hB hge40
      have hv40 := Lo.new hS hge40
      have hd1_40 := Dj.new hb1.ltO hge40
      have hd2_40 := Dj.new hb2.ltO hge40
      have hd4_40 := Dj.new ho4.ltO hge40
      have hd3_40 := Dj.new hb3.ltO hge40
      have hd18_40 := Dj.new ho18.ltO hge40
      have hd19_40 := Dj.new hb19.ltO hge40
      have hd20_40 := Dj.new ho20.ltO hge40
      have hd21_40 := Dj.new hb21.ltO hge40
      have hd22_40 := Dj.new ho22.ltO hge40
      have hd23_40 := Dj.new hb23.ltO hge40
      have hd24_40 := Dj.new ho24.ltO hge40
      have hd25_40 := Dj.new ho25.ltO hge40
      refine ⟨Upd.trans hS hXw57, ?_⟩
      have hS := Upd.trans hS hXw57
      have hB := hB.trans hXw57
      have hBc := (by first | exact hBc.trans hXw57 | exact hB0.trans hXw57)
      have hb1 := hb1.up hXw57
      have hb2 := hb2.up hXw57
      have ho4 := ho4.up hXw57
      have hb3 := hb3.up hXw57
      have ho18 := ho18.up hXw57
      have hb19 := hb19.up hXw57
      have ho20 := ho20.up hXw57
      have hb21 := hb21.up hXw57
      have ho22 := ho22.up hXw57
      have hb23 := hb23.up hXw57
      have ho24 := ho24.up hXw57
      have ho25 := ho25.up hXw57
      refine HP.must rfl rfl (OpK.call rfl T.cf17 rfl (c_laws_toGrammar (by first | assumption | exact Rd.up (by assumption) hB | exact Osl.rd (by assumption) | exact Osn.rdR (by assumption)) (by first | assumption | omega | (simp only [marks_len, marksB_len, marksR_len]; omega))) (fun rv24 w58 hR => ?_))
      obtain ⟨hXw58, v41, og41, rfl, ho41, hq41⟩ := hR
      have hl41 := Lo.up hq41 hB
      have hv41 := Lo.up hq41 hS
      have hd1_41 := Dj.lo hb1.ltO hq41
      have hd2_41 := Dj.lo hb2.ltO hq41
      have hd4_41 := Dj.lo ho4.ltO hq41
      have hd3_41 := Dj.lo hb3.ltO hq41
      have hd18_41 := Dj.lo ho18.ltO hq41
      have hd19_41 := Dj.lo hb19.ltO hq41
      have hd20_41 := Dj.lo ho20.ltO hq41
      have hd21_41 := Dj.lo hb21.ltO hq41
      have hd22_41 := Dj.lo ho22.ltO hq41
      have hd23_41 := Dj.lo hb23.ltO hq41
      have hd24_41 := Dj.lo ho24.ltO hq41
      have hd25_41 := Dj.lo ho25.ltO hq41
      have hd40_41 := Dj.lo hb40.ltO hq41
      refine ⟨Upd.trans hS hXw58, ?_⟩
      have hS := Upd.trans hS hXw58
      have hB := hB.trans hXw58
      have hBc := (by first | exact hBc.trans hXw58 | exact hB0.trans hXw58)
      have hb1 := hb1.up hXw58
      have hb2 := hb2.up hXw58
      have ho4 := ho4.up hXw58
      have hb3 := hb3.up hXw58
      have ho18 := ho18.up hXw58
      have hb19 := hb19.up hXw58
      have ho20 := ho20.up hXw58
      have hb21 := hb21.up hXw58
      have ho22 := ho22.up hXw58
      have hb23 := hb23.up hXw58
      have ho24 := ho24.up hXw58
      have ho25 := ho25.up hXw58
      have hb40 := hb40.up hXw58
      refine HP.must rfl rfl (OpK.call rfl T.cf17 rfl (c_laws_toGrammar (by first | assumption | exact Rd.up (by assumption) hB | exact Osl.rd (by assumption) | exact Osn.rdR (by assumption)) (by first | assumption | omega | (simp only [marks_len, marksB_len, marksR_len]; omega))) (fun rv25 w59 hR => ?_))
      obtain ⟨hXw59, v42, og42, rfl, ho42, hq42⟩ := hR
      have hl42 := Lo.up hq42 hB
      have hv42 := Lo.up hq42 hS
      have hd1_42 := Dj.lo hb1.ltO hq42
      have hd2_42 := Dj.lo hb2.ltO hq42
      have hd4_42 := Dj.lo ho4.ltO hq42
      have hd3_42 := Dj.lo hb3.ltO hq42
      have hd18_42 := Dj.lo ho18.ltO hq42
      have hd19_42 := Dj.lo hb19.ltO hq42
      have hd20_42 := Dj.lo ho20.ltO hq42
      have hd21_42 := Dj.lo hb21.ltO hq42
      have hd22_42 := Dj.lo ho22.ltO hq42
      have hd23_42 := Dj.lo hb23.ltO hq42
      have hd24_42 := Dj.lo ho24.ltO hq42
      have hd25_42 := Dj.lo ho25.ltO hq42
      have hd40_42 := Dj.lo hb40.ltO hq42
      have hd41_42 := Dj.lo ho41.ltO hq42
      refine ⟨Upd.trans hS hXw59, ?_⟩
      have hS := Upd.trans hS hXw59
      have hB := hB.trans hXw59
      have hBc := (by first | exact hBc.trans hXw59 | exact hB0.trans hXw59)
      have hb1 := hb1.up hXw59
      have hb2 := hb2.up hXw59
      have ho4 := ho4.up hXw59
      have hb3 := hb3.up hXw59
      have ho18 := ho18.up hXw59
      have hb19 := hb19.up hXw59
      have ho20 := ho20.up hXw59
      have hb21 := hb21.up hXw59
      have ho22 := ho22.up hXw59
      have hb23 := hb23.up hXw59
      have ho24 := ho24.up hXw59
      have ho25 := ho25.up hXw59
      have hb40 := hb40.up hXw59
      have ho41 := ho41.up hXw59
      refine HP.must rfl rfl (OpK.call rfl T.cf27 rfl (c_impl_EitherGrammar (by first | assumption | exact Rd.up (by assumption) hB | exact Osl.rd (by assumption) | exact Osn.rdR (by assumption)) (by first | assumption | exact Rd.up (by assumption) hB | exact Osl.rd (by assumption) | exact Osn.rdR (by assumption))) (fun rv26 w60 hR => ?_))
      obtain ⟨hXw60, v43, og43, rfl, ho43, hq43⟩ := hR
      have hl43 := Lo.up hq43 hB
      have hv43 := Lo.up hq43 hS
      have hd1_43 := Dj.lo hb1.ltO hq43
      have hd2_43 := Dj.lo hb2.ltO hq43
      have hd4_43 := Dj.lo ho4.ltO hq43
      have hd3_43 := Dj.lo hb3.ltO hq43
      have hd18_43 := Dj.lo ho18.ltO hq43
      have hd19_43 := Dj.lo hb19.ltO hq43
      have hd20_43 := Dj.lo ho20.ltO hq43
      have hd21_43 := Dj.lo hb21.ltO hq43
      have hd22_43 := Dj.lo ho22.ltO hq43
      have hd23_43 := Dj.lo hb23.ltO hq43
      have hd24_43 := Dj.lo ho24.ltO hq43
      have hd25_43 := Dj.lo ho25.ltO hq43
      have hd40_43 := Dj.lo hb40.ltO hq43
      have hd41_43 := Dj.lo ho41.ltO hq43
      have hd42_43 := Dj.lo ho42.ltO hq43
      refine ⟨Upd.trans hS hXw60, ?_⟩
      have hS := Upd.trans hS hXw60
      have hB := hB.trans hXw60
      have hBc := (by first | exact hBc.trans hXw60 | exact hB0.trans hXw60)
      have hb1 := hb1.up hXw60
      have hb2 := hb2.up hXw60
      have ho4 := ho4.up hXw60
      have hb3 := hb3.up hXw60
      have ho18 := ho18.up hXw60
      have hb19 := hb19.up hXw60
      have ho20 := ho20.up hXw60
      have hb21 := hb21.up hXw60
      have ho22 := ho22.up hXw60
      have hb23 := hb23.up hXw60
      have ho24 := ho24.up hXw60
      have ho25 := ho25.up hXw60
      have hb40 := hb40.up hXw60
      have ho41 := ho41.up hXw60
      have ho42 := ho42.up hXw60
      refine HP.take rfl rfl rfl rfl hS (fun wS hS1 => PV.move rfl) ?_
      refine HP.take rfl rfl rfl rfl hS (fun wS hS1 => PV.extract rfl rfl) ?_
      refine HP.take rfl rfl rfl rfl hS (fun wS hS1 => PV.extract rfl rfl) ?_
      refine HP.must rfl rfl (OpK.storeA T.sz29 rfl rfl rfl rfl (by simp [Value.oneCell'] <;> first | done | (repeat' apply And.intro) <;> first | rfl | exact Osl.oneCell (by assumption) | exact Osn.oneCell (by assumption) | exact Rd.oneCell (by assumption) | assumption) hb40 (fun w61 hXw61 hb40 => ?_))
      refine ⟨Ext.updL hS hXw61 hv40, ?_⟩
      have hS := Ext.updL hS hXw61 hv40
      have hB := hB.updL hXw61 hl40
      have hBc := hBc.updL hXw61 (Lo.up hv40 hXd)
      have hb1 := hb1.updD hXw61 hd1_40
      have hb2 := hb2.updD hXw61 hd2_40
      have ho4 := ho4.updD hXw61 hd4_40
      have hb3 := hb3.updD hXw61 hd3_40
      have ho18 := ho18.updD hXw61 hd18_40
      have hb19 := hb19.updD hXw61 hd19_40
      have ho20 := ho20.updD hXw61 hd20_40
      have hb21 := hb21.updD hXw61 hd21_40
      have ho22 := ho22.updD hXw61 hd22_40
      have hb23 := hb23.updD hXw61 hd23_40
      have ho24 := ho24.updD hXw61 hd24_40
      have ho25 := ho25.updD hXw61 hd25_40
      have ho41 := ho41.updD hXw61 (Dj.symm hd40_41)
      have ho42 := ho42.updD hXw61 (Dj.symm hd40_42)
      have ho43 := ho43.updD hXw61 (Dj.symm hd40_43)
      refine HP.take rfl rfl rfl rfl hS (fun wS hS1 => PV.assign rfl) ?_
      refine HP.done ?_
      exact NQ.cut (ρ := [(15, _), (16, _)]) ⟨rfl, rfl, rfl, rfl, rfl, rfl, trivial⟩ ⟨v43, og43, b40, rfl, hBc, ho43, hl43, hb40, hl40, hd1_43, hd1_40, hd2_43, hd2_40, hd4_43, hd4_40, hd3_43, hd3_40, hd18_43, hd18_40, hd19_43, hd19_40, hd20_43, hd20_40, hd21_43, hd21_40, hd22_43, hd22_40, hd23_43, hd23_40, hd24_43, hd24_40, hd25_43, hd25_40, (Dj.symm hd40_43)⟩
  rintro _ wc2 ⟨v30, og30, b29, rfl, hXc, ho30, hl30, hb29, hl29, hd1_30, hd1_29, hd2_30, hd2_29, hd4_30, hd4_29, hd3_30, hd3_29, hd18_30, hd18_29, hd19_30, hd19_29, hd20_30, hd20_29, hd21_30, hd21_29, hd22_30, hd22_29, hd23_30, hd23_29, hd24_30, hd24_29, hd25_30, hd25_29, hd30_29⟩
  have hB := hB.trans hXc
  have hb1 := hb1.up hXc
  have hb2 := hb2.up hXc
  have ho4 := ho4.up hXc
  have hb3 := hb3.up hXc
  have ho18 := ho18.up hXc
  have hb19 := hb19.up hXc
  have ho20 := ho20.up hXc
  have hb21 := hb21.up hXc
  have ho22 := ho22.up hXc
  have hb23 := hb23.up hXc
  have ho24 := ho24.up hXc
  have ho25 := ho25.up hXc
  refine CW.seq ?_
  refine CW.seq ?_
  refine CW.reg ?_
  refine WL.pure rfl rfl rfl ((by first | exact PV.loadA T.ag29 rfl (by first | exact Cells.up (by assumption) hB | exact Bx.cells (by assumption) | assumption) (Ext.refl _) rfl | exact PV.loadP (ds := [_, _, _]) T.ag29 rfl (by first | exact Cells.up (by assumption) hB | exact Bx.cells (by assumption) | assumption) (Ext.refl _) rfl rfl)) ?_
  refine WL.pure rfl rfl rfl ((by first | exact PV.loadA T.ag29 rfl (by first | exact Cells.up (by assumption) hB | exact Bx.cells (by assumption) | assumption) (Ext.refl _) rfl | exact PV.loadP (ds := [_, _, _]) T.ag29 rfl (by first | exact Cells.up (by assumption) hB | exact Bx.cells (by assumption) | assumption) (Ext.refl _) rfl rfl)) ?_
  refine WL.op rfl (OpK.callR rfl T.cf19 rfl (c_laws_eqGrammar (by first | assumption | exact Rd.up (by assumption) hB | exact Osl.rd (by assumption) | exact Osn.rdR (by assumption)) (by first | assumption | exact Rd.up (by assumption) hB | exact Osl.rd (by assumption) | exact Osn.rdR (by assumption))) (fun w62 hXw62 => ?_))
  have hB := hB.trans hXw62
  have hb1 := hb1.up hXw62
  have hb2 := hb2.up hXw62
  have ho4 := ho4.up hXw62
  have hb3 := hb3.up hXw62
  have ho18 := ho18.up hXw62
  have hb19 := hb19.up hXw62
  have ho20 := ho20.up hXw62
  have hb21 := hb21.up hXw62
  have ho22 := ho22.up hXw62
  have hb23 := hb23.up hXw62
  have ho24 := ho24.up hXw62
  have ho25 := ho25.up hXw62
  have ho30 := ho30.up hXw62
  have hb29 := hb29.up hXw62
  refine WL.pure rfl rfl rfl (PV.not rfl) ?_
  refine WL.pure rfl rfl rfl (PV.move rfl) ?_
  refine WL.split (t := 106) rfl (fun hc12 => ?_) (fun hc12 => ?_)
  · skip
    try simp only [decide_eq_true_eq, decide_eq_false_iff_not, Bool.not_eq_true', Bool.not_eq_false', Bool.not_eq_eq_eq_not, Bool.not_true, Bool.not_false, Int.not_lt, Int.not_le, Classical.not_not, beq_iff_eq, beq_eq_false_iff_ne] at hc12
    refine WL.skip rfl rfl rfl rfl rfl ?_
    refine WL.skip rfl rfl rfl rfl rfl ?_
    refine WL.skip rfl rfl rfl rfl rfl ?_
    refine WL.pure rfl rfl rfl (PV.pickT rfl rfl) ?_
    refine WL.nilS ?_
    refine CW.condT rfl ?_
    refine CW.seq ?_
    refine CW.reg ?_
    refine WL.pure rfl rfl rfl (PV.assign rfl) ?_
    refine WL.nilS ?_
    refine CW.ret ?_
    refine RQ.then ?_
    refine RQ.r1 rfl ?_
    refine ⟨?_, hB⟩
    first | rfl | (exfalso; revert hc12; simp; done) | (exfalso; revert hc12; simp; omega) | (exfalso; omega) | first | rfl | exact bT (by omega) | exact bF (by omega) | exact bD (by omega) | exact iE (by omega) | (simp_all; done) | (simp_all; omega) | (simp_all; intros; omega)
  try simp only [decide_eq_true_eq, decide_eq_false_iff_not, Bool.not_eq_true', Bool.not_eq_false', Bool.not_eq_eq_eq_not, Bool.not_true, Bool.not_false, Int.not_lt, Int.not_le, Classical.not_not, beq_iff_eq, beq_eq_false_iff_ne] at hc12
  refine WL.pureG rfl rfl rfl rfl rfl (PV.move rfl) ?_
  refine WL.pureG rfl rfl rfl rfl rfl (PV.move rfl) ?_
  refine WL.pureG rfl rfl rfl rfl rfl (PV.neqB T.bl4 rfl rfl) ?_
  refine WL.pure rfl rfl rfl (PV.pickF rfl rfl) ?_
  refine WL.nilS ?_
  refine CW.cond rfl (fun hc13 => ?_) (fun hc13 => ?_)
  · skip
    try simp only [decide_eq_true_eq, decide_eq_false_iff_not, Bool.not_eq_true', Bool.not_eq_false', Bool.not_eq_eq_eq_not, Bool.not_true, Bool.not_false, Int.not_lt, Int.not_le, Classical.not_not, beq_iff_eq, beq_eq_false_iff_ne] at hc13
    refine CW.seq ?_
    refine CW.reg ?_
    refine WL.pure rfl rfl rfl (PV.assign rfl) ?_
    refine WL.nilS ?_
    refine CW.ret ?_
    refine RQ.then ?_
    refine RQ.r1 rfl ?_
    refine ⟨?_, hB⟩
    first | rfl | (exfalso; revert hc13; simp; done) | (exfalso; revert hc13; simp; omega) | (exfalso; omega) | first | rfl | exact bT (by omega) | exact bF (by omega) | exact bD (by omega) | exact iE (by omega) | (simp_all; done) | (simp_all; omega) | (simp_all; intros; omega)
  try simp only [decide_eq_true_eq, decide_eq_false_iff_not, Bool.not_eq_true', Bool.not_eq_false', Bool.not_eq_eq_eq_not, Bool.not_true, Bool.not_false, Int.not_lt, Int.not_le, Classical.not_not, beq_iff_eq, beq_eq_false_iff_ne] at hc13
  refine CW.skipS ?_
  refine CW.seq ?_
  refine CW.reg ?_
  refine WL.pure rfl rfl rfl (PV.assign rfl) ?_
  refine WL.nilS ?_
  refine CW.seq ?_
  refine CW.reg ?_
  refine WL.pure rfl rfl rfl ((by first | exact PV.loadA T.ag29 rfl (by first | exact Cells.up (by assumption) hB | exact Bx.cells (by assumption) | assumption) (Ext.refl _) rfl | exact PV.loadP (ds := [_, _, _]) T.ag29 rfl (by first | exact Cells.up (by assumption) hB | exact Bx.cells (by assumption) | assumption) (Ext.refl _) rfl rfl)) ?_
  refine WL.pure rfl rfl rfl (PV.move rfl) ?_
  refine WL.op rfl (OpK.callR rfl T.cf25 rfl (c_laws_heldGrammar (by first | assumption | exact Rd.up (by assumption) hB | exact Osl.rd (by assumption) | exact Osn.rdR (by assumption)) (by first | assumption | omega | (simp only [marks_len, marksB_len, marksR_len]; omega))) (fun w63 hXw63 => ?_))
  have hB := hB.trans hXw63
  have hb1 := hb1.up hXw63
  have hb2 := hb2.up hXw63
  have ho4 := ho4.up hXw63
  have hb3 := hb3.up hXw63
  have ho18 := ho18.up hXw63
  have hb19 := hb19.up hXw63
  have ho20 := ho20.up hXw63
  have hb21 := hb21.up hXw63
  have ho22 := ho22.up hXw63
  have hb23 := hb23.up hXw63
  have ho24 := ho24.up hXw63
  have ho25 := ho25.up hXw63
  have ho30 := ho30.up hXw63
  have hb29 := hb29.up hXw63
  refine WL.pure rfl rfl rfl (PV.assign rfl) ?_
  refine WL.nilS ?_
  refine CW.seq ?_
  refine CW.seq ?_
  refine CW.reg ?_
  refine WL.pure rfl rfl rfl (PV.move rfl) ?_
  refine WL.pure rfl rfl rfl (PV.lss rfl rfl) ?_
  refine WL.nilS ?_
  refine CW.cond rfl (fun hc14 => ?_) (fun hc14 => ?_)
  · skip
    try simp only [decide_eq_true_eq, decide_eq_false_iff_not, Bool.not_eq_true', Bool.not_eq_false', Bool.not_eq_eq_eq_not, Bool.not_true, Bool.not_false, Int.not_lt, Int.not_le, Classical.not_not, beq_iff_eq, beq_eq_false_iff_ne] at hc14
    refine CW.seq ?_
    refine CW.reg ?_
    refine WL.pure rfl rfl rfl (PV.assign rfl) ?_
    refine WL.nilS ?_
    refine CW.ret ?_
    refine RQ.then ?_
    refine RQ.r1 rfl ?_
    refine ⟨?_, hB⟩
    first | rfl | (exfalso; revert hc14; simp; done) | (exfalso; revert hc14; simp; omega) | (exfalso; omega) | first | rfl | exact bT (by omega) | exact bF (by omega) | exact bD (by omega) | exact iE (by omega) | (simp_all; done) | (simp_all; omega) | (simp_all; intros; omega)
  try simp only [decide_eq_true_eq, decide_eq_false_iff_not, Bool.not_eq_true', Bool.not_eq_false', Bool.not_eq_eq_eq_not, Bool.not_true, Bool.not_false, Int.not_lt, Int.not_le, Classical.not_not, beq_iff_eq, beq_eq_false_iff_ne] at hc14
  refine CW.skipS ?_
  refine CW.seq ?_
  refine CW.seq ?_
  refine CW.reg ?_
  refine WL.pure rfl rfl rfl (PV.move rfl) ?_
  refine WL.pure rfl rfl rfl (PV.move rfl) ?_
  refine WL.pure rfl rfl rfl (PV.neq rfl rfl) ?_
  refine WL.nilS ?_
  refine CW.cond rfl (fun hc15 => ?_) (fun hc15 => ?_)
  · skip
    try simp only [decide_eq_true_eq, decide_eq_false_iff_not, Bool.not_eq_true', Bool.not_eq_false', Bool.not_eq_eq_eq_not, Bool.not_true, Bool.not_false, Int.not_lt, Int.not_le, Classical.not_not, beq_iff_eq, beq_eq_false_iff_ne] at hc15
    refine CW.seq ?_
    refine CW.reg ?_
    refine WL.pure rfl rfl rfl (PV.assign rfl) ?_
    refine WL.nilS ?_
    refine CW.ret ?_
    refine RQ.then ?_
    refine RQ.r1 rfl ?_
    refine ⟨?_, hB⟩
    first | rfl | (exfalso; revert hc15; simp; done) | (exfalso; revert hc15; simp; omega) | (exfalso; omega) | first | rfl | exact bT (by omega) | exact bF (by omega) | exact bD (by omega) | exact iE (by omega) | (simp_all; done) | (simp_all; omega) | (simp_all; intros; omega)
  try simp only [decide_eq_true_eq, decide_eq_false_iff_not, Bool.not_eq_true', Bool.not_eq_false', Bool.not_eq_eq_eq_not, Bool.not_true, Bool.not_false, Int.not_lt, Int.not_le, Classical.not_not, beq_iff_eq, beq_eq_false_iff_ne] at hc15
  refine CW.skipS ?_
  refine CW.seq ?_
  refine CW.reg ?_
  refine WL.pure rfl rfl rfl (PV.assign rfl) ?_
  refine WL.nilS ?_
  refine CW.ret ?_
  refine RQ.r1 rfl ?_
  refine ⟨?_, hB⟩
  first | rfl | (exfalso; revert hc15; simp; done) | (exfalso; revert hc15; simp; omega) | (exfalso; omega) | first | rfl | exact bT (by omega) | exact bF (by omega) | exact bD (by omega) | exact iE (by omega) | (simp_all; done) | (simp_all; omega) | (simp_all; intros; omega)

end Go.Proofs.Ytcnjfbhgicoogaa
