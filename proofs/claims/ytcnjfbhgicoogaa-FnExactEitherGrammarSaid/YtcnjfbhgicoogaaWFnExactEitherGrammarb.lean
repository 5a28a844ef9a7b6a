/- Walks of the functions that the law FnExactEitherGrammar reaches: each says what its function computes. No condition. -/
import Derived.Test.YtcnjfbhgicoogaaProg
import Derived.Test.YtcnjfbhgicoogaaLibM
import Derived.Test.YtcnjfbhgicoogaaPlA
import Derived.Test.YtcnjfbhgicoogaaPlG
import Derived.Test.YtcnjfbhgicoogaaPlE
import Derived.Test.YtcnjfbhgicoogaaWFnExactEitherGrammara
namespace Go.Proofs.Ytcnjfbhgicoogaa
open Go Go.WX Go.Proofs
set_option linter.unusedSimpArgs false
set_option linter.unusedVariables false

theorem c_impl_EitherGrammar {w : World} {a0 : Int} {a1 : Int} {va2 : Value} {xa2 : List R4} {y0 : Int} {y1 : Int} {vy2 : Value} {xy2 : List R4}  (ha2 : Rd ER w va2 xa2) (hy2 : Rd ER w vy2 xy2) : Calls Try.prog 27 #[.agg #[.int .i64 a0, .int .i64 a1, va2], .agg #[.int .i64 y0, .int .i64 y1, vy2]] w (Ret1 (fun v w' => Ext w w' ∧ ∃ u2 og_u2, v = .tuple #[.agg #[.int .i64 (onI (eithB a0 a1 xa2 y0 y1 xy2) (1 + a0 + y0)), .int .i64 (onI (eithB a0 a1 xa2 y0 y1 xy2) a1), u2], .bool (eithB a0 a1 xa2 y0 y1 xy2)] ∧ Osn 4 gR w' og_u2 u2 (onT (eithB a0 a1 xa2 y0 y1 xy2) (eithL a0 xa2 xy2)) ∧ Lo w og_u2)) := by
  have hB : Ext w w := Ext.refl w
  have hla2 := ha2.leI; have hly2 := hy2.leI
  refine callsOf (vs := [_, _]) Try.func27 rfl Try.ntmps27 rfl rfl ?_
  refine CW.seq ?_
  refine CW.reg ?_
  refine WL.op rfl (OpK.box rfl rfl (by first | rfl | exact Rd.cells1 (by assumption) | exact Osl.cells1 (by assumption) | exact Osn.cells1 (by assumption)) (fun b1 w1 hXw1 hb1 hge1 => ?_))
  have hl1 := Lo.new hB hge1
  have hB := hB.trans hXw1
  refine WL.op rfl (OpK.box rfl rfl (by first | rfl | exact Rd.cells1 (by assumption) | exact Osl.cells1 (by assumption) | exact Osn.cells1 (by assumption)) (fun b2 w2 hXw2 hb2 hge2 => ?_))
  have hl2 := Lo.new hB hge2
  have hd1_2 := Dj.new hb1.ltO hge2
  have hB := hB.trans hXw2
  have hb1 := hb1.up hXw2
  refine WL.op rfl (OpK.alloc rfl T.zv29 rfl (fun b3 w3 hXw3 hb3 hge3 => ?_))
  have hl3 := Lo.new hB hge3
  have hd1_3 := Dj.new hb1.ltO hge3
  have hd2_3 := Dj.new hb2.ltO hge3
  have hB := hB.trans hXw3
  have hb1 := hb1.up hXw3
  have hb2 := hb2.up hXw3
  refine WL.pure rfl rfl rfl (PV.assign rfl) ?_
  refine WL.nilS ?_
  refine CW.seq ?_
  refine CW.seq ?_
  refine CW.reg ?_
  refine WL.pure rfl rfl rfl ((by first | exact PV.loadA T.ag29 rfl (by first | exact Cells.up (by assumption) hB | exact Bx.cells (by assumption) | assumption) (Ext.refl _) rfl | exact PV.loadP (ds := [_, _, _]) T.ag29 rfl (by first | exact Cells.up (by assumption) hB | exact Bx.cells (by assumption) | assumption) (Ext.refl _) rfl rfl)) ?_
  refine WL.op rfl (OpK.callR rfl T.cf21 rfl (c_impl_ValidGrammar (by first | assumption | exact Rd.up (by assumption) hB | exact Osl.rd (by assumption) | exact Osn.rdR (by assumption))) (fun w4 hXw4 => ?_))
  have hB := hB.trans hXw4
  have hb1 := hb1.up hXw4
  have hb2 := hb2.up hXw4
  have hb3 := hb3.up hXw4
  refine WL.pure rfl rfl rfl (PV.not rfl) ?_
  refine WL.pure rfl rfl rfl (PV.move rfl) ?_
  refine WL.split (t := 17) rfl (fun hc1 => ?_) (fun hc1 => ?_)
  · skip
    try simp only [decide_eq_true_eq, decide_eq_false_iff_not, Bool.not_eq_true', Bool.not_eq_false', Bool.not_eq_eq_eq_not, Bool.not_true, Bool.not_false, Int.not_lt, Int.not_le, Classical.not_not, beq_iff_eq, beq_eq_false_iff_ne] at hc1
    refine WL.skip rfl rfl rfl rfl rfl ?_
    refine WL.skip rfl rfl rfl rfl rfl ?_
    refine WL.skip rfl rfl rfl rfl rfl ?_
    refine WL.pure rfl rfl rfl (PV.pickT rfl rfl) ?_
    refine WL.pure rfl rfl rfl (PV.move rfl) ?_
    refine WL.skip rfl rfl rfl rfl rfl ?_
    refine WL.skip rfl rfl rfl rfl rfl ?_
    refine WL.skip rfl rfl rfl rfl rfl ?_
    refine WL.skip rfl rfl rfl rfl rfl ?_
    refine WL.skip rfl rfl rfl rfl rfl ?_
    refine WL.pure rfl rfl rfl (PV.pickT rfl rfl) ?_
    refine WL.nilS ?_
    refine CW.condT rfl ?_
    refine CW.seq ?_
    refine CW.reg ?_
    refine WL.pure rfl rfl rfl (PV.build (ks := []) (os := []) (css := []) (ds := [_, _, _]) T.bu29 rfl rfl trivial rfl) ?_
    refine WL.op rfl (OpK.storeA T.sz29 rfl rfl rfl rfl (by simp [Value.oneCell'] <;> first | done | (repeat' apply And.intro) <;> first | rfl | exact Osl.oneCell (by assumption) | exact Osn.oneCell (by assumption) | exact Rd.oneCell (by assumption) | assumption) hb3 (fun w5 hXw5 hb3 => ?_))
    have hB := hB.updL hXw5 hl3
    have hb1 := hb1.updD hXw5 hd1_3
    have hb2 := hb2.updD hXw5 hd2_3
    refine WL.pure rfl rfl rfl (PV.assign rfl) ?_
    refine WL.nilS ?_
    refine CW.ret ?_
    refine RQ.then ?_
    refine RQ.rc1 T.ag29 rfl (by first | exact Cells.up (by assumption) hB | exact Bx.cells (by assumption) | assumption) rfl rfl ?_
    refine ⟨hB, (.slice none 0 0), none, ?_, osnE (Osn.nil gR_ok _) ?_, Lo.nl _⟩
    · skip
      first | (exact tE2 (by rw [onI_no (by first | exact eithB_n1 (by assumption) | exact eithB_n2 (by assumption) | exact eithB_n3 (by omega) | exact eithB_n4 (by first | assumption | (unfold eithL; first | assumption | (simp only [List.nil_append] at *; assumption)))), onI_no (by first | exact eithB_n1 (by assumption) | exact eithB_n2 (by assumption) | exact eithB_n3 (by omega) | exact eithB_n4 (by first | assumption | (unfold eithL; first | assumption | (simp only [List.nil_append] at *; assumption))))]) (bE (Bool.eq_false_iff.2 (by first | exact eithB_n1 (by assumption) | exact eithB_n2 (by assumption) | exact eithB_n3 (by omega) | exact eithB_n4 (by first | assumption | (unfold eithL; first | assumption | (simp only [List.nil_append] at *; assumption))))).symm)) | (exact tE2 (by rw [onI_yes (eithB_yes (by assumption) (by assumption) (by omega) (by first | assumption | (unfold eithL; first | assumption | (simp only [List.nil_append] at *; assumption)))), onI_yes (eithB_yes (by assumption) (by assumption) (by omega) (by first | assumption | (unfold eithL; first | assumption | (simp only [List.nil_append] at *; assumption))))]; rfl) (bE (eithB_yes (by assumption) (by assumption) (by omega) (by first | assumption | (unfold eithL; first | assumption | (simp only [List.nil_append] at *; assumption)))).symm)) | (exact tE2 (by rw [onI_yes (eithB_yes (by assumption) (by assumption) (by omega) (by first | assumption | (unfold eithL; first | assumption | (simp only [List.nil_append] at *; assumption)))), onI_yes (eithB_yes (by assumption) (by assumption) (by omega) (by first | assumption | (unfold eithL; first | assumption | (simp only [List.nil_append] at *; assumption))))]) (bE (eithB_yes (by assumption) (by assumption) (by omega) (by first | assumption | (unfold eithL; first | assumption | (simp only [List.nil_append] at *; assumption)))).symm))
    · skip
      first | (rw [onT_no (by first | exact eithB_n1 (by assumption) | exact eithB_n2 (by assumption) | exact eithB_n3 (by omega) | exact eithB_n4 (by first | assumption | (unfold eithL; first | assumption | (simp only [List.nil_append] at *; assumption))))]; done) | (rw [onT_yes (eithB_yes (by assumption) (by assumption) (by omega) (by first | assumption | (unfold eithL; first | assumption | (simp only [List.nil_append] at *; assumption))))]; first | done | rfl)
  try simp only [decide_eq_true_eq, decide_eq_false_iff_not, Bool.not_eq_true', Bool.not_eq_false', Bool.not_eq_eq_eq_not, Bool.not_true, Bool.not_false, Int.not_lt, Int.not_le, Classical.not_not, beq_iff_eq, beq_eq_false_iff_ne] at hc1
  refine WL.pureG rfl rfl rfl rfl rfl ((by first | exact PV.loadA T.ag29 rfl (by first | exact Cells.up (by assumption) hB | exact Bx.cells (by assumption) | assumption) (Ext.refl _) rfl | exact PV.loadP (ds := [_, _, _]) T.ag29 rfl (by first | exact Cells.up (by assumption) hB | exact Bx.cells (by assumption) | assumption) (Ext.refl _) rfl rfl)) ?_
  refine WL.opG rfl rfl rfl (OpK.callR rfl T.cf21 rfl (c_impl_ValidGrammar (by first | assumption | exact Rd.up (by assumption) hB | exact Osl.rd (by assumption) | exact Osn.rdR (by assumption))) (fun w6 hXw6 => ?_))
  have hB := hB.trans hXw6
  have hb1 := hb1.up hXw6
  have hb2 := hb2.up hXw6
  have hb3 := hb3.up hXw6
  refine WL.pureG rfl rfl rfl rfl rfl (PV.not rfl) ?_
  refine WL.pure rfl rfl rfl (PV.pickF rfl rfl) ?_
  refine WL.pure rfl rfl rfl (PV.move rfl) ?_
  refine WL.split (t := 22) rfl (fun hc2 => ?_) (fun hc2 => ?_)
  · skip
    try simp only [decide_eq_true_eq, decide_eq_false_iff_not, Bool.not_eq_true', Bool.not_eq_false', Bool.not_eq_eq_eq_not, Bool.not_true, Bool.not_false, Int.not_lt, Int.not_le, Classical.not_not, beq_iff_eq, beq_eq_false_iff_ne] at hc2
    refine WL.skip rfl rfl rfl rfl rfl ?_
    refine WL.skip rfl rfl rfl rfl rfl ?_
    refine WL.skip rfl rfl rfl rfl rfl ?_
    refine WL.skip rfl rfl rfl rfl rfl ?_
    refine WL.skip rfl rfl rfl rfl rfl ?_
    refine WL.pure rfl rfl rfl (PV.pickT rfl rfl) ?_
    refine WL.nilS ?_
    refine CW.condT rfl ?_
    refine CW.seq ?_
    refine CW.reg ?_
    refine WL.pure rfl rfl rfl (PV.build (ks := []) (os := []) (css := []) (ds := [_, _, _]) T.bu29 rfl rfl trivial rfl) ?_
    refine WL.op rfl (OpK.storeA T.sz29 rfl rfl rfl rfl (by simp [Value.oneCell'] <;> first | done | (repeat' apply And.intro) <;> first | rfl | exact Osl.oneCell (by assumption) | exact Osn.oneCell (by assumption) | exact Rd.oneCell (by assumption) | assumption) hb3 (fun w7 hXw7 hb3 => ?_))
    have hB := hB.updL hXw7 hl3
    have hb1 := hb1.updD hXw7 hd1_3
    have hb2 := hb2.updD hXw7 hd2_3
    refine WL.pure rfl rfl rfl (PV.assign rfl) ?_
    refine WL.nilS ?_
    refine CW.ret ?_
    refine RQ.then ?_
    refine RQ.rc1 T.ag29 rfl (by first | exact Cells.up (by assumption) hB | exact Bx.cells (by assumption) | assumption) rfl rfl ?_
    refine ⟨hB, (.slice none 0 0), none, ?_, osnE (Osn.nil gR_ok _) ?_, Lo.nl _⟩
    · skip
      first | (exact tE2 (by rw [onI_no (by first | exact eithB_n1 (by assumption) | exact eithB_n2 (by assumption) | exact eithB_n3 (by omega) | exact eithB_n4 (by first | assumption | (unfold eithL; first | assumption | (simp only [List.nil_append] at *; assumption)))), onI_no (by first | exact eithB_n1 (by assumption) | exact eithB_n2 (by assumption) | exact eithB_n3 (by omega) | exact eithB_n4 (by first | assumption | (unfold eithL; first | assumption | (simp only [List.nil_append] at *; assumption))))]) (bE (Bool.eq_false_iff.2 (by first | exact eithB_n1 (by assumption) | exact eithB_n2 (by assumption) | exact eithB_n3 (by omega) | exact eithB_n4 (by first | assumption | (unfold eithL; first | assumption | (simp only [List.nil_append] at *; assumption))))).symm)) | (exact tE2 (by rw [onI_yes (eithB_yes (by assumption) (by assumption) (by omega) (by first | assumption | (unfold eithL; first | assumption | (simp only [List.nil_append] at *; assumption)))), onI_yes (eithB_yes (by assumption) (by assumption) (by omega) (by first | assumption | (unfold eithL; first | assumption | (simp only [List.nil_append] at *; assumption))))]; rfl) (bE (eithB_yes (by assumption) (by assumption) (by omega) (by first | assumption | (unfold eithL; first | assumption | (simp only [List.nil_append] at *; assumption)))).symm)) | (exact tE2 (by rw [onI_yes (eithB_yes (by assumption) (by assumption) (by omega) (by first | assumption | (unfold eithL; first | assumption | (simp only [List.nil_append] at *; assumption)))), onI_yes (eithB_yes (by assumption) (by assumption) (by omega) (by first | assumption | (unfold eithL; first | assumption | (simp only [List.nil_append] at *; assumption))))]) (bE (eithB_yes (by assumption) (by assumption) (by omega) (by first | assumption | (unfold eithL; first | assumption | (simp only [List.nil_append] at *; assumption)))).symm))
    · skip
      first | (rw [onT_no (by first | exact eithB_n1 (by assumption) | exact eithB_n2 (by assumption) | exact eithB_n3 (by omega) | exact eithB_n4 (by first | assumption | (unfold eithL; first | assumption | (simp only [List.nil_append] at *; assumption))))]; done) | (rw [onT_yes (eithB_yes (by assumption) (by assumption) (by omega) (by first | assumption | (unfold eithL; first | assumption | (simp only [List.nil_append] at *; assumption))))]; first | done | rfl)
  try simp only [decide_eq_true_eq, decide_eq_false_iff_not, Bool.not_eq_true', Bool.not_eq_false', Bool.not_eq_eq_eq_not, Bool.not_true, Bool.not_false, Int.not_lt, Int.not_le, Classical.not_not, beq_iff_eq, beq_eq_false_iff_ne] at hc2
  refine WL.pureG rfl rfl rfl rfl rfl ((by first | exact PV.fieldAddr T.fl29_1 rfl (by first | assumption | exact Bx.cells (by assumption)) | exact PV.fieldAddrP T.fl29_1 rfl rfl)) ?_
  refine WL.pureG rfl rfl rfl rfl rfl ((by first | exact PV.load0 T.na2 rfl (by first | exact Cells.up (by assumption) hB | exact Bx.cells (by assumption) | assumption) (Ext.refl _) rfl | exact PV.load1 T.na2 rfl (by first | exact Cells.up (by assumption) hB | exact Bx.cells (by assumption) | assumption) (Ext.refl _) rfl)) ?_
  refine WL.pureG rfl rfl rfl rfl rfl ((by first | exact PV.fieldAddr T.fl29_1 rfl (by first | assumption | exact Bx.cells (by assumption)) | exact PV.fieldAddrP T.fl29_1 rfl rfl)) ?_
  refine WL.pureG rfl rfl rfl rfl rfl ((by first | exact PV.load0 T.na2 rfl (by first | exact Cells.up (by assumption) hB | exact Bx.cells (by assumption) | assumption) (Ext.refl _) rfl | exact PV.load1 T.na2 rfl (by first | exact Cells.up (by assumption) hB | exact Bx.cells (by assumption) | assumption) (Ext.refl _) rfl)) ?_
  refine WL.pureG rfl rfl rfl rfl rfl (PV.neq rfl rfl) ?_
  refine WL.pure rfl rfl rfl (PV.pickF rfl rfl) ?_
  refine WL.nilS ?_
  refine CW.cond rfl (fun hc3 => ?_) (fun hc3 => ?_)
  · skip
    try simp only [decide_eq_true_eq, decide_eq_false_iff_not, Bool.not_eq_true', Bool.not_eq_false', Bool.not_eq_eq_eq_not, Bool.not_true, Bool.not_false, Int.not_lt, Int.not_le, Classical.not_not, beq_iff_eq, beq_eq_false_iff_ne] at hc3
    refine CW.seq ?_
    refine CW.reg ?_
    refine WL.pure rfl rfl rfl (PV.build (ks := []) (os := []) (css := []) (ds := [_, _, _]) T.bu29 rfl rfl trivial rfl) ?_
    refine WL.op rfl (OpK.storeA T.sz29 rfl rfl rfl rfl (by simp [Value.oneCell'] <;> first | done | (repeat' apply And.intro) <;> first | rfl | exact Osl.oneCell (by assumption) | exact Osn.oneCell (by assumption) | exact Rd.oneCell (by assumption) | assumption) hb3 (fun w8 hXw8 hb3 => ?_))
    have hB := hB.updL hXw8 hl3
    have hb1 := hb1.updD hXw8 hd1_3
    have hb2 := hb2.updD hXw8 hd2_3
    refine WL.pure rfl rfl rfl (PV.assign rfl) ?_
    refine WL.nilS ?_
    refine CW.ret ?_
    refine RQ.then ?_
    refine RQ.rc1 T.ag29 rfl (by first | exact Cells.up (by assumption) hB | exact Bx.cells (by assumption) | assumption) rfl rfl ?_
    refine ⟨hB, (.slice none 0 0), none, ?_, osnE (Osn.nil gR_ok _) ?_, Lo.nl _⟩
    · skip
      first | (exact tE2 (by rw [onI_no (by first | exact eithB_n1 (by assumption) | exact eithB_n2 (by assumption) | exact eithB_n3 (by omega) | exact eithB_n4 (by first | assumption | (unfold eithL; first | assumption | (simp only [List.nil_append] at *; assumption)))), onI_no (by first | exact eithB_n1 (by assumption) | exact eithB_n2 (by assumption) | exact eithB_n3 (by omega) | exact eithB_n4 (by first | assumption | (unfold eithL; first | assumption | (simp only [List.nil_append] at *; assumption))))]) (bE (Bool.eq_false_iff.2 (by first | exact eithB_n1 (by assumption) | exact eithB_n2 (by assumption) | exact eithB_n3 (by omega) | exact eithB_n4 (by first | assumption | (unfold eithL; first | assumption | (simp only [List.nil_append] at *; assumption))))).symm)) | (exact tE2 (by rw [onI_yes (eithB_yes (by assumption) (by assumption) (by omega) (by first | assumption | (unfold eithL; first | assumption | (simp only [List.nil_append] at *; assumption)))), onI_yes (eithB_yes (by assumption) (by assumption) (by omega) (by first | assumption | (unfold eithL; first | assumption | (simp only [List.nil_append] at *; assumption))))]; rfl) (bE (eithB_yes (by assumption) (by assumption) (by omega) (by first | assumption | (unfold eithL; first | assumption | (simp only [List.nil_append] at *; assumption)))).symm)) | (exact tE2 (by rw [onI_yes (eithB_yes (by assumption) (by assumption) (by omega) (by first | assumption | (unfold eithL; first | assumption | (simp only [List.nil_append] at *; assumption)))), onI_yes (eithB_yes (by assumption) (by assumption) (by omega) (by first | assumption | (unfold eithL; first | assumption | (simp only [List.nil_append] at *; assumption))))]) (bE (eithB_yes (by assumption) (by assumption) (by omega) (by first | assumption | (unfold eithL; first | assumption | (simp only [List.nil_append] at *; assumption)))).symm))
    · skip
      first | (rw [onT_no (by first | exact eithB_n1 (by assumption) | exact eithB_n2 (by assumption) | exact eithB_n3 (by omega) | exact eithB_n4 (by first | assumption | (unfold eithL; first | assumption | (simp only [List.nil_append] at *; assumption))))]; done) | (rw [onT_yes (eithB_yes (by assumption) (by assumption) (by omega) (by first | assumption | (unfold eithL; first | assumption | (simp only [List.nil_append] at *; assumption))))]; first | done | rfl)
  try simp only [decide_eq_true_eq, decide_eq_false_iff_not, Bool.not_eq_true', Bool.not_eq_false', Bool.not_eq_eq_eq_not, Bool.not_true, Bool.not_false, Int.not_lt, Int.not_le, Classical.not_not, beq_iff_eq, beq_eq_false_iff_ne] at hc3
  refine CW.skipS ?_
  refine CW.seq ?_
  refine CW.reg ?_
  have gA := (by assumption : gramV a0 a1 xa2); have gY := (by assumption : gramV y0 y1 xy2); have gA1 := gA.1; have gY1 := gY.1; have gA3 := gA.2.2.1; have gY3 := gY.2.2.1; have mlA := mapL_len 1 xa2; have mlB := mapL_len (1 + a0) xy2
  refine WL.op rfl (OpK.buildN (g := gR) (os := []) [] gR_ok rfl T.sl27 rfl rfl T.zv67 rfl rfl (fun v4 g4 w9 hXw9 ho4 hge4 => ?_))
  have hl4 := Lo.new hB hge4
  have hd1_4 := Dj.new hb1.ltO hge4
  have hd2_4 := Dj.new hb2.ltO hge4
  have hd3_4 := Dj.new hb3.ltO hge4
  have hB := hB.trans hXw9
  have hb1 := hb1.up hXw9
  have hb2 := hb2.up hXw9
  have hb3 := hb3.up hXw9
  refine WL.pure rfl rfl rfl (PV.assign rfl) ?_
  refine WL.nilS ?_
  refine CW.seq ?_
  refine CW.seq ?_
  refine CW.reg ?_
  refine WL.pure rfl rfl rfl ((by first | exact PV.fieldAddr T.fl29_2 rfl (by first | assumption | exact Bx.cells (by assumption)) | exact PV.fieldAddrP T.fl29_2 rfl rfl)) ?_
  refine WL.pure rfl rfl rfl ((by first | exact PV.load0 T.na27 rfl (by first | exact Cells.up (by assumption) hB | exact Bx.cells (by assumption) | assumption) (Ext.refl _) rfl | exact PV.load1 T.na27 rfl (by first | exact Cells.up (by assumption) hB | exact Bx.cells (by assumption) | assumption) (Ext.refl _) rfl)) ?_
  refine WL.pure rfl rfl rfl ((by first | exact PV.len rfl (by assumption) T.sl27 | exact PV.lenOs rfl (by assumption) T.sl27)) ?_
  refine WL.pure rfl rfl rfl (PV.move rfl) ?_
  refine WL.nilS ?_
  refine CW.block ?_
  have hlt1 := hb1.ltO
  have hlt2 := hb2.ltO
  have hlt3 := hb3.ltO
  have hlt4 := ho4.ltO
  refine CW.loop (σk := [(2, _), (3, _), (4, _), (32, _), (33, _)]) (fun ρ wz m => ∃ (v5 : Value) (og5 : Option Nat) (k : Nat), ρ = [(6, v5), (34, .int .i64 (k : Nat))] ∧ m = xa2.length - k ∧ UpdL [(some g4)] w9 wz ∧ Osn 4 gR wz og5 v5 ([] ++ mapL 1 (xa2.take k)) ∧ OgR w9 (some g4) og5 ∧ (k ≤ xa2.length)) (ρ₀ := [(6, _), (34, _)]) (m₀ := _) ⟨rfl, rfl, rfl, rfl, rfl, rfl, rfl, trivial⟩ ⟨v4, (some g4), 0, rfl, rfl, (UpdL.refl _ _), osnE ho4 (by exact mapL_zero _ _ _), OgR.refl _ _, (by first | omega | rfl | (simp; done) | assumption | (simp_all; done))⟩ ?_
  rintro _ wl1 _ ⟨v5, og5, k, rfl, rfl, hU0, ho5, ha5, hk⟩
  have hb1 := hb1.loop hU0 ⟨hd1_4, trivial⟩
  have hb2 := hb2.loop hU0 ⟨hd2_4, trivial⟩
  have hb3 := hb3.loop hU0 ⟨hd3_4, trivial⟩
  have hl5 := Lo.ogr hl4 hB ha5
  have hg0_5 := ha5
  have hk0_5 : OkB [(some g4)] w9 og5 := OkB.ogr (OkB.mem (by simp)) (Nat.le_refl _) ha5
  have hd1_5 := Dj.ogr hd1_4 hlt1 ha5
  have hd2_5 := Dj.ogr hd2_4 hlt2 ha5
  have hd3_5 := Dj.ogr hd3_4 hlt3 ha5
  have hB := hB.loop hU0 ⟨hl4, trivial⟩
  have hal := mapL_lenK 1 xa2 k
  refine CW.seq ?_
  refine CW.reg ?_
  refine WL.pure rfl rfl rfl (PV.lss rfl rfl) ?_
  refine WL.nilS ?_
  refine CW.seq ?_
  refine CW.cond rfl (fun hc4 => ?_) (fun hc4 => ?_)
  · skip
    try simp only [decide_eq_true_eq, decide_eq_false_iff_not, Bool.not_eq_true', Bool.not_eq_false', Bool.not_eq_eq_eq_not, Bool.not_true, Bool.not_false, Int.not_lt, Int.not_le, Classical.not_not, beq_iff_eq, beq_eq_false_iff_ne] at hc4
    refine CW.skipS ?_
    refine CW.seq ?_
    refine CW.block ?_
    refine CW.seq ?_
    refine CW.reg ?_
    first
      | refine WL.at (x := .tmp 32) (y := .tmp 34) (E := ER) ((0, 0, 0, 0)) rfl rfl (by assumption) (by first | omega | (simp; omega) | (simp_all; omega)) (fun p1 csp1 hpp1 hcp1 hq => ?_)
      | refine WL.atZ (x := .tmp 32) (y := .tmp 34) (E := ER) ((0, 0, 0, 0)) rfl rfl (by assumption) (by first | omega | (simp; omega) | (simp_all; omega)) (fun p1 csp1 hpp1 hzp1 hcp1 hq => ?_)
    cases hq
    refine WL.pure rfl rfl rfl ((by first | exact PV.indexAddr hpp1 rfl rfl T.sl27 | exact PV.indexAddr hpp1 rfl (by rw [← hzp1]; rfl) T.sl27)) ?_
    refine WL.pure rfl rfl rfl ((by first | exact PV.loadA T.ag67 rfl (by first | exact Cells.up (by assumption) hB | exact Bx.cells (by assumption) | assumption) (Ext.refl _) rfl | exact PV.loadP (ds := [_, _, _, _]) T.ag67 rfl (by first | exact Cells.up (by assumption) hB | exact Bx.cells (by assumption) | assumption) (Ext.refl _) rfl rfl)) ?_
    refine WL.op rfl (OpK.alloc rfl T.zv67 rfl (fun b6 w10 hXw10 hb6 hge6 => ?_))
    have hl6 := Lo.new hB hge6
    have hd1_6 := Dj.new hb1.ltO hge6
    have hd2_6 := Dj.new hb2.ltO hge6
    have hd3_6 := Dj.new hb3.ltO hge6
    have hd5_6 := Dj.new ho5.ltO hge6
    have hk0_6 := OkN.new hU0 hge6
    have hg0_6 := OgR.new hU0.size hge6
    have hB := hB.trans hXw10
    have hb1 := hb1.up hXw10
    have hb2 := hb2.up hXw10
    have hb3 := hb3.up hXw10
    have ho5 := ho5.up hXw10
    have hU0 := hU0.ext hXw10
    refine WL.op rfl (OpK.storeA T.sz67 rfl rfl rfl rfl (by simp [Value.oneCell'] <;> first | done | (repeat' apply And.intro) <;> first | rfl | exact Osl.oneCell (by assumption) | exact Osn.oneCell (by assumption) | exact Rd.oneCell (by assumption) | assumption) hb6 (fun w11 hXw11 hb6 => ?_))
    have hB := hB.updL hXw11 hl6
    have hb1 := hb1.updD hXw11 hd1_6
    have hb2 := hb2.updD hXw11 hd2_6
    have hb3 := hb3.updD hXw11 hd3_6
    have ho5 := ho5.updD hXw11 hd5_6
    have hU0 := hU0.step hXw11 hk0_6
    refine WL.nilS ?_
    refine CW.reg ?_
    refine WL.pure rfl rfl rfl (PV.move rfl) ?_
    refine WL.pure rfl rfl rfl ((by first | exact PV.loadA T.ag67 rfl (by first | exact Cells.up (by assumption) hB | exact Bx.cells (by assumption) | assumption) (Ext.refl _) rfl | exact PV.loadP (ds := [_, _, _, _]) T.ag67 rfl (by first | exact Cells.up (by assumption) hB | exact Bx.cells (by assumption) | assumption) (Ext.refl _) rfl rfl)) ?_
    have hok := gA.2.2.2 k (by omega); have ok1 := hok.1; have ok2 := hok.2.1; have ok4 := hok.2.2.2.1; have ok5 := hok.2.2.2.2; have hgr2 := gA.2.1
    refine WL.op rfl (OpK.callR rfl T.cf62 rfl (c_impl_Rule_later (by first | assumption | omega | (simp only [marks_len, marksB_len, marksR_len]; omega)) (by first | assumption | omega | (simp only [marks_len, marksB_len, marksR_len]; omega)) (by first | assumption | omega | (simp only [marks_len, marksB_len, marksR_len]; omega)) (by first | assumption | omega | (simp only [marks_len, marksB_len, marksR_len]; omega))) (fun w12 hXw12 => ?_))
    have hB := hB.trans hXw12
    have hb1 := hb1.up hXw12
    have hb2 := hb2.up hXw12
    have hb3 := hb3.up hXw12
    have ho5 := ho5.up hXw12
    have hb6 := hb6.up hXw12
    have hU0 := hU0.ext hXw12
    refine WL.op rfl (OpK.build4 (os := [.tmp 40]) rfl T.sl27 rfl rfl T.zv67 rfl rfl (fun v7 g7 w13 hXw13 ho7 hge7 => ?_))
    have hl7 := Lo.new hB hge7
    have hd1_7 := Dj.new hb1.ltO hge7
    have hd2_7 := Dj.new hb2.ltO hge7
    have hd3_7 := Dj.new hb3.ltO hge7
    have hd5_7 := Dj.new ho5.ltO hge7
    have hd6_7 := Dj.new hb6.ltO hge7
    have hk0_7 := OkN.new hU0 hge7
    have hg0_7 := OgR.new hU0.size hge7
    have hB := hB.trans hXw13
    have hb1 := hb1.up hXw13
    have hb2 := hb2.up hXw13
    have hb3 := hb3.up hXw13
    have ho5 := ho5.up hXw13
    have hb6 := hb6.up hXw13
    have hU0 := hU0.ext hXw13
    refine WL.op rfl (OpK.appendN (g := gR) rfl T.sl27 T.zv67 rfl rfl ho5 rfl (Osn.src ho7) (by first | (simp only [List.length_cons, List.length_nil]; omega) | (simp_all; omega)) (fun v8 og8 w14 hXw14 ho8 hap8 => ?_))
    have hl8 := Lo.app hl5 hB hap8
    have hd1_8 := Dj.app hd1_5 hb1.ltO hap8
    have hd2_8 := Dj.app hd2_5 hb2.ltO hap8
    have hd3_8 := Dj.app hd3_5 hb3.ltO hap8
    have hd6_8 := Dj.app (Dj.symm hd5_6) hb6.ltO hap8
    have hd7_8 := Dj.app (Dj.symm hd5_7) ho7.ltO hap8
    have hk0_8 := OkN.app hU0 hk0_5 hap8
    have hg0_8 := OgR.app hg0_5 hU0.size hap8
    have hB := hB.updL hXw14 hl5
    have hb1 := hb1.updD hXw14 hd1_5
    have hb2 := hb2.updD hXw14 hd2_5
    have hb3 := hb3.updD hXw14 hd3_5
    have hb6 := hb6.updD hXw14 (Dj.symm hd5_6)
    have ho7 := ho7.updD hXw14 (Dj.symm hd5_7)
    have hU0 := hU0.step hXw14 hk0_5
    refine WL.pure rfl rfl rfl (PV.assign rfl) ?_
    refine WL.nil ?_
    refine NQ.block ?_
    refine NQ.then ?_
    refine CW.reg ?_
    refine WL.pure rfl rfl rfl (PV.add rfl rfl (by constructor <;> omega)) ?_
    refine WL.pure rfl rfl rfl (PV.move rfl) ?_
    refine WL.nil ?_
    refine NQ.next (ρ := [(6, _), (34, _)]) ⟨rfl, rfl, rfl, rfl, rfl, rfl, rfl, trivial⟩ ?_
    exact ⟨_, ⟨v8, og8, k + 1, rfl, rfl, hU0, osnE ho8 (by exact mapL_put (by omega) rfl), (by first | exact hg0_8 | exact OgR.weak hg0_8), (by first | omega | assumption | (simp_all; done) | (simp_all; omega))⟩, by omega⟩
  try simp only [decide_eq_true_eq, decide_eq_false_iff_not, Bool.not_eq_true', Bool.not_eq_false', Bool.not_eq_eq_eq_not, Bool.not_true, Bool.not_false, Int.not_lt, Int.not_le, Classical.not_not, beq_iff_eq, beq_eq_false_iff_ne] at hc4
  refine CW.exit ?_
  refine XQ.then ?_
  refine XQ.then ?_
  refine XQ.here ?_
  refine NQ.then ?_
  refine CW.seq ?_
  refine CW.seq ?_
  refine CW.reg ?_
  refine WL.pure rfl rfl rfl ((by first | exact PV.fieldAddr T.fl29_2 rfl (by first | assumption | exact Bx.cells (by assumption)) | exact PV.fieldAddrP T.fl29_2 rfl rfl)) ?_
  refine WL.pure rfl rfl rfl ((by first | exact PV.load0 T.na27 rfl (by first | exact Cells.up (by assumption) hB | exact Bx.cells (by assumption) | assumption) (Ext.refl _) rfl | exact PV.load1 T.na27 rfl (by first | exact Cells.up (by assumption) hB | exact Bx.cells (by assumption) | assumption) (Ext.refl _) rfl)) ?_
  refine WL.pure rfl rfl rfl ((by first | exact PV.len rfl (by assumption) T.sl27 | exact PV.lenOs rfl (by assumption) T.sl27)) ?_
  refine WL.pure rfl rfl rfl (PV.move rfl) ?_
  refine WL.nilS ?_
  refine CW.block ?_
  have hlt1 := hb1.ltO
  have hlt2 := hb2.ltO
  have hlt3 := hb3.ltO
  have hlt5 := ho5.ltO
  refine CW.loop (σk := [(2, _), (3, _), (4, _), (45, _), (46, _)]) (fun ρ wz m => ∃ (v9 : Value) (og9 : Option Nat) (k : Nat), ρ = [(6, v9), (47, .int .i64 (k : Nat))] ∧ m = xy2.length - k ∧ UpdL [og5] wl1 wz ∧ Osn 4 gR wz og9 v9 (mapL 1 xa2 ++ mapL (1 + a0) (xy2.take k)) ∧ OgR wl1 og5 og9 ∧ (k ≤ xy2.length)) (ρ₀ := [(6, _), (47, _)]) (m₀ := _) ⟨rfl, rfl, rfl, rfl, rfl, rfl, rfl, trivial⟩ ⟨v5, og5, 0, rfl, rfl, (UpdL.refl _ _), osnE ho5 (by rw [mapL_done (by omega)]; exact mapL_zero _ _ _), OgR.refl _ _, (by first | omega | rfl | (simp; done) | assumption | (simp_all; done))⟩ ?_
  rintro _ wl2 _ ⟨v9, og9, k, rfl, rfl, hU1, ho9, ha9, hk⟩
  have hb1 := hb1.loop hU1 ⟨hd1_5, trivial⟩
  have hb2 := hb2.loop hU1 ⟨hd2_5, trivial⟩
  have hb3 := hb3.loop hU1 ⟨hd3_5, trivial⟩
  have hl9 := Lo.ogr hl5 hB ha9
  have hg1_9 := ha9
  have hk1_9 : OkB [og5] wl1 og9 := OkB.ogr (OkB.mem (by simp)) (Nat.le_refl _) ha9
  have hd1_9 := Dj.ogr hd1_5 hlt1 ha9
  have hd2_9 := Dj.ogr hd2_5 hlt2 ha9
  have hd3_9 := Dj.ogr hd3_5 hlt3 ha9
  have hB := hB.loop hU1 ⟨hl5, trivial⟩
  have hal := mapL_lenK (1 + a0) xy2 k; have hall : (mapL 1 xa2 ++ mapL (1 + a0) (xy2.take k)).length = (mapL 1 xa2).length + (mapL (1 + a0) (xy2.take k)).length := List.length_append
  refine CW.seq ?_
  refine CW.reg ?_
  refine WL.pure rfl rfl rfl (PV.lss rfl rfl) ?_
  refine WL.nilS ?_
  refine CW.seq ?_
  refine CW.cond rfl (fun hc5 => ?_) (fun hc5 => ?_)
  · skip
    try simp only [decide_eq_true_eq, decide_eq_false_iff_not, Bool.not_eq_true', Bool.not_eq_false', Bool.not_eq_eq_eq_not, Bool.not_true, Bool.not_false, Int.not_lt, Int.not_le, Classical.not_not, beq_iff_eq, beq_eq_false_iff_ne] at hc5
    refine CW.skipS ?_
    refine CW.seq ?_
    refine CW.block ?_
    refine CW.seq ?_
    refine CW.reg ?_
    first
      | refine WL.at (x := .tmp 45) (y := .tmp 47) (E := ER) ((0, 0, 0, 0)) rfl rfl (by assumption) (by first | omega | (simp; omega) | (simp_all; omega)) (fun p2 csp2 hpp2 hcp2 hq => ?_)
      | refine WL.atZ (x := .tmp 45) (y := .tmp 47) (E := ER) ((0, 0, 0, 0)) rfl rfl (by assumption) (by first | omega | (simp; omega) | (simp_all; omega)) (fun p2 csp2 hpp2 hzp2 hcp2 hq => ?_)
    cases hq
    refine WL.pure rfl rfl rfl ((by first | exact PV.indexAddr hpp2 rfl rfl T.sl27 | exact PV.indexAddr hpp2 rfl (by rw [← hzp2]; rfl) T.sl27)) ?_
    refine WL.pure rfl rfl rfl ((by first | exact PV.loadA T.ag67 rfl (by first | exact Cells.up (by assumption) hB | exact Bx.cells (by assumption) | assumption) (Ext.refl _) rfl | exact PV.loadP (ds := [_, _, _, _]) T.ag67 rfl (by first | exact Cells.up (by assumption) hB | exact Bx.cells (by assumption) | assumption) (Ext.refl _) rfl rfl)) ?_
    refine WL.op rfl (OpK.alloc rfl T.zv67 rfl (fun b10 w15 hXw15 hb10 hge10 => ?_))
    have hl10 := Lo.new hB hge10
    have hd1_10 := Dj.new hb1.ltO hge10
    have hd2_10 := Dj.new hb2.ltO hge10
    have hd3_10 := Dj.new hb3.ltO hge10
    have hd9_10 := Dj.new ho9.ltO hge10
    have hk1_10 := OkN.new hU1 hge10
    have hg1_10 := OgR.new hU1.size hge10
    have hB := hB.trans hXw15
    have hb1 := hb1.up hXw15
    have hb2 := hb2.up hXw15
    have hb3 := hb3.up hXw15
    have ho9 := ho9.up hXw15
    have hU1 := hU1.ext hXw15
    refine WL.op rfl (OpK.storeA T.sz67 rfl rfl rfl rfl (by simp [Value.oneCell'] <;> first | done | (repeat' apply And.intro) <;> first | rfl | exact Osl.oneCell (by assumption) | exact Osn.oneCell (by assumption) | exact Rd.oneCell (by assumption) | assumption) hb10 (fun w16 hXw16 hb10 => ?_))
    have hB := hB.updL hXw16 hl10
    have hb1 := hb1.updD hXw16 hd1_10
    have hb2 := hb2.updD hXw16 hd2_10
    have hb3 := hb3.updD hXw16 hd3_10
    have ho9 := ho9.updD hXw16 hd9_10
    have hU1 := hU1.step hXw16 hk1_10
    refine WL.nilS ?_
    refine CW.reg ?_
    refine WL.pure rfl rfl rfl (PV.move rfl) ?_
    refine WL.pure rfl rfl rfl ((by first | exact PV.loadA T.ag67 rfl (by first | exact Cells.up (by assumption) hB | exact Bx.cells (by assumption) | assumption) (Ext.refl _) rfl | exact PV.loadP (ds := [_, _, _, _]) T.ag67 rfl (by first | exact Cells.up (by assumption) hB | exact Bx.cells (by assumption) | assumption) (Ext.refl _) rfl rfl)) ?_
    refine WL.pure rfl rfl rfl ((by first | exact PV.fieldAddr T.fl29_0 rfl (by first | assumption | exact Bx.cells (by assumption)) | exact PV.fieldAddrP T.fl29_0 rfl rfl)) ?_
    refine WL.pure rfl rfl rfl ((by first | exact PV.load0 T.na2 rfl (by first | exact Cells.up (by assumption) hB | exact Bx.cells (by assumption) | assumption) (Ext.refl _) rfl | exact PV.load1 T.na2 rfl (by first | exact Cells.up (by assumption) hB | exact Bx.cells (by assumption) | assumption) (Ext.refl _) rfl)) ?_
    refine WL.pure rfl rfl rfl (PV.add rfl rfl (by constructor <;> omega)) ?_
    have hok := gY.2.2.2 k (by omega); have ok1 := hok.1; have ok2 := hok.2.1; have ok4 := hok.2.2.2.1; have ok5 := hok.2.2.2.2; have hgr2 := gY.2.1
    refine WL.op rfl (OpK.callR rfl T.cf62 rfl (c_impl_Rule_later (by first | assumption | omega | (simp only [marks_len, marksB_len, marksR_len]; omega)) (by first | assumption | omega | (simp only [marks_len, marksB_len, marksR_len]; omega)) (by first | assumption | omega | (simp only [marks_len, marksB_len, marksR_len]; omega)) (by first | assumption | omega | (simp only [marks_len, marksB_len, marksR_len]; omega))) (fun w17 hXw17 => ?_))
    have hB := hB.trans hXw17
    have hb1 := hb1.up hXw17
    have hb2 := hb2.up hXw17
    have hb3 := hb3.up hXw17
    have ho9 := ho9.up hXw17
    have hb10 := hb10.up hXw17
    have hU1 := hU1.ext hXw17
    refine WL.op rfl (OpK.build4 (os := [.tmp 56]) rfl T.sl27 rfl rfl T.zv67 rfl rfl (fun v11 g11 w18 hXw18 ho11 hge11 => ?_))
    have hl11 := Lo.new hB hge11
    have hd1_11 := Dj.new hb1.ltO hge11
    have hd2_11 := Dj.new hb2.ltO hge11
    have hd3_11 := Dj.new hb3.ltO hge11
    have hd9_11 := Dj.new ho9.ltO hge11
    have hd10_11 := Dj.new hb10.ltO hge11
    have hk1_11 := OkN.new hU1 hge11
    have hg1_11 := OgR.new hU1.size hge11
    have hB := hB.trans hXw18
    have hb1 := hb1.up hXw18
    have hb2 := hb2.up hXw18
    have hb3 := hb3.up hXw18
    have ho9 := ho9.up hXw18
    have hb10 := hb10.up hXw18
    have hU1 := hU1.ext hXw18
    refine WL.op rfl (OpK.appendN (g := gR) rfl T.sl27 T.zv67 rfl rfl ho9 rfl (Osn.src ho11) (by first | (simp only [List.length_cons, List.length_nil]; omega) | (simp_all; omega)) (fun v12 og12 w19 hXw19 ho12 hap12 => ?_))
    have hl12 := Lo.app hl9 hB hap12
    have hd1_12 := Dj.app hd1_9 hb1.ltO hap12
    have hd2_12 := Dj.app hd2_9 hb2.ltO hap12
    have hd3_12 := Dj.app hd3_9 hb3.ltO hap12
    have hd10_12 := Dj.app (Dj.symm hd9_10) hb10.ltO hap12
    have hd11_12 := Dj.app (Dj.symm hd9_11) ho11.ltO hap12
    have hk1_12 := OkN.app hU1 hk1_9 hap12
    have hg1_12 := OgR.app hg1_9 hU1.size hap12
    have hB := hB.updL hXw19 hl9
    have hb1 := hb1.updD hXw19 hd1_9
    have hb2 := hb2.updD hXw19 hd2_9
    have hb3 := hb3.updD hXw19 hd3_9
    have hb10 := hb10.updD hXw19 (Dj.symm hd9_10)
    have ho11 := ho11.updD hXw19 (Dj.symm hd9_11)
    have hU1 := hU1.step hXw19 hk1_9
    refine WL.pure rfl rfl rfl (PV.assign rfl) ?_
    refine WL.nil ?_
    refine NQ.block ?_
    refine NQ.then ?_
    refine CW.reg ?_
    refine WL.pure rfl rfl rfl (PV.add rfl rfl (by constructor <;> omega)) ?_
    refine WL.pure rfl rfl rfl (PV.move rfl) ?_
    refine WL.nil ?_
    refine NQ.next (ρ := [(6, _), (47, _)]) ⟨rfl, rfl, rfl, rfl, rfl, rfl, rfl, trivial⟩ ?_
    exact ⟨_, ⟨v12, og12, k + 1, rfl, rfl, hU1, osnE ho12 (by exact mapL_put (by omega) rfl), (by first | exact hg1_12 | exact OgR.weak hg1_12), (by first | omega | assumption | (simp_all; done) | (simp_all; omega))⟩, by omega⟩
  try simp only [decide_eq_true_eq, decide_eq_false_iff_not, Bool.not_eq_true', Bool.not_eq_false', Bool.not_eq_eq_eq_not, Bool.not_true, Bool.not_false, Int.not_lt, Int.not_le, Classical.not_not, beq_iff_eq, beq_eq_false_iff_ne] at hc5
  refine CW.exit ?_
  refine XQ.then ?_
  refine XQ.then ?_
  refine XQ.here ?_
  refine NQ.then ?_
  refine CW.seq ?_
  refine CW.reg ?_
  refine WL.pure rfl rfl rfl ((by first | exact PV.fieldAddr T.fl29_0 rfl (by first | assumption | exact Bx.cells (by assumption)) | exact PV.fieldAddrP T.fl29_0 rfl rfl)) ?_
  refine WL.pure rfl rfl rfl ((by first | exact PV.load0 T.na2 rfl (by first | exact Cells.up (by assumption) hB | exact Bx.cells (by assumption) | assumption) (Ext.refl _) rfl | exact PV.load1 T.na2 rfl (by first | exact Cells.up (by assumption) hB | exact Bx.cells (by assumption) | assumption) (Ext.refl _) rfl)) ?_
  refine WL.pure rfl rfl rfl (PV.add rfl rfl (by constructor <;> omega)) ?_
  refine WL.pure rfl rfl rfl ((by first | exact PV.fieldAddr T.fl29_0 rfl (by first | assumption | exact Bx.cells (by assumption)) | exact PV.fieldAddrP T.fl29_0 rfl rfl)) ?_
  refine WL.pure rfl rfl rfl ((by first | exact PV.load0 T.na2 rfl (by first | exact Cells.up (by assumption) hB | exact Bx.cells (by assumption) | assumption) (Ext.refl _) rfl | exact PV.load1 T.na2 rfl (by first | exact Cells.up (by assumption) hB | exact Bx.cells (by assumption) | assumption) (Ext.refl _) rfl)) ?_
  refine WL.pure rfl rfl rfl (PV.add rfl rfl (by constructor <;> omega)) ?_
  refine WL.pure rfl rfl rfl ((by first | exact PV.fieldAddr T.fl29_1 rfl (by first | assumption | exact Bx.cells (by assumption)) | exact PV.fieldAddrP T.fl29_1 rfl rfl)) ?_
  refine WL.pure rfl rfl rfl ((by first | exact PV.load0 T.na2 rfl (by first | exact Cells.up (by assumption) hB | exact Bx.cells (by assumption) | assumption) (Ext.refl _) rfl | exact PV.load1 T.na2 rfl (by first | exact Cells.up (by assumption) hB | exact Bx.cells (by assumption) | assumption) (Ext.refl _) rfl)) ?_
  refine WL.pure rfl rfl rfl (PV.build (ks := [0, 1]) (os := [.tmp 65, .tmp 67]) (css := [[_], [_]]) (ds := [_, _, _]) T.bu29 rfl rfl ⟨(by first | rfl | exact Rd.cells1 (by assumption) | exact Osl.cells1 (by assumption) | exact Osn.cells1 (by assumption)), (by first | rfl | exact Rd.cells1 (by assumption) | exact Osl.cells1 (by assumption) | exact Osn.cells1 (by assumption)), trivial⟩ rfl) ?_
  refine WL.op rfl (OpK.alloc rfl T.zv29 rfl (fun b13 w20 hXw20 hb13 hge13 => ?_))
  have hl13 := Lo.new hB hge13
  have hd1_13 := Dj.new hb1.ltO hge13
  have hd2_13 := Dj.new hb2.ltO hge13
  have hd3_13 := Dj.new hb3.ltO hge13
  have hd9_13 := Dj.new ho9.ltO hge13
  have hB := hB.trans hXw20
  have hb1 := hb1.up hXw20
  have hb2 := hb2.up hXw20
  have hb3 := hb3.up hXw20
  have ho9 := ho9.up hXw20
  refine WL.op rfl (OpK.storeA T.sz29 rfl rfl rfl rfl (by simp [Value.oneCell'] <;> first | done | (repeat' apply And.intro) <;> first | rfl | exact Osl.oneCell (by assumption) | exact Osn.oneCell (by assumption) | exact Rd.oneCell (by assumption) | assumption) hb13 (fun w21 hXw21 hb13 => ?_))
  have hB := hB.updL hXw21 hl13
  have hb1 := hb1.updD hXw21 hd1_13
  have hb2 := hb2.updD hXw21 hd2_13
  have hb3 := hb3.updD hXw21 hd3_13
  have ho9 := ho9.updD hXw21 hd9_13
  refine WL.nilS ?_
  refine CW.seq ?_
  refine CW.seq ?_
  refine CW.reg ?_
  have hmd := mapL_done (A := mapL 1 xa2) (q := 1 + a0) (rs := xy2) (k := k) (by omega); rw [hmd] at ho9; have hall2 : (mapL 1 xa2 ++ mapL (1 + a0) xy2).length = (mapL 1 xa2).length + (mapL (1 + a0) xy2).length := List.length_append
  refine WL.pure rfl rfl rfl (PV.move rfl) ?_
  refine WL.pure rfl rfl rfl ((PV.lenOsn rfl ho9 T.sl27)) ?_
  refine WL.pure rfl rfl rfl (PV.move rfl) ?_
  refine WL.nilS ?_
  refine CW.block ?_
  have ho14 : Osn 4 gR w21 none (.slice none 0 0) [] := (Osn.nil gR_ok _)
  have hl14 : Lo w none := Lo.nl _
  have hd1_14 : Dj (some b1.block) none := Dj.nlR _
  have hd2_14 : Dj (some b2.block) none := Dj.nlR _
  have hd3_14 : Dj (some b3.block) none := Dj.nlR _
  have hd9_14 : Dj og9 none := Dj.nlR _
  have hd13_14 : Dj (some b13.block) none := Dj.nlR _
  have hlt1 := hb1.ltO
  have hlt2 := hb2.ltO
  have hlt3 := hb3.ltO
  have hlt9 := ho9.ltO
  have hlt13 := hb13.ltO
  have hlt14 := ho14.ltO
  refine CW.loop (σk := [(2, _), (4, _), (6, _), (11, _), (69, _), (70, _)]) (fun ρ wz m => ∃ (v15 : Value) (og15 : Option Nat) (k : Nat), ρ = [(71, .int .i64 (k : Nat))] ∧ m = (mapL 1 xa2 ++ mapL (1 + a0) xy2).length - k ∧ UpdL [none, (some b13.block)] w21 wz ∧ Osn 4 gR wz og15 v15 (firstL a0 ((mapL 1 xa2 ++ mapL (1 + a0) xy2).take k)) ∧ OgR w21 none og15 ∧ Bx wz b13 [.int .i64 (1 + a0 + y0), .int .i64 a1, v15] ∧ (k ≤ (mapL 1 xa2 ++ mapL (1 + a0) xy2).length)) (ρ₀ := [(71, _)]) (m₀ := _) ⟨rfl, rfl, rfl, rfl, rfl, rfl, rfl, trivial⟩ ⟨(.slice none 0 0), none, 0, rfl, rfl, (UpdL.refl _ _), osnE ho14 (by rfl), OgR.refl _ _, bxE hb13 (by first | rfl | (simp_all; done) | (simp_all; omega)), (by first | omega | rfl | (simp; done) | assumption | (simp_all; done))⟩ ?_
  rintro _ wl3 _ ⟨v15, og15, k, rfl, rfl, hU2, ho15, ha15, hb13, hk⟩
  have hb1 := hb1.loop hU2 ⟨hd1_14, hd1_13, trivial⟩
  have hb2 := hb2.loop hU2 ⟨hd2_14, hd2_13, trivial⟩
  have hb3 := hb3.loop hU2 ⟨hd3_14, hd3_13, trivial⟩
  have ho9 := ho9.loop hU2 ⟨hd9_14, hd9_13, trivial⟩
  have hl15 := Lo.ogr hl14 hB ha15
  have hg2_15 := ha15
  have hk2_15 : OkB [none, (some b13.block)] w21 og15 := OkB.ogr (OkB.mem (by simp)) (Nat.le_refl _) ha15
  have hd1_15 := Dj.ogr hd1_14 hlt1 ha15
  have hd2_15 := Dj.ogr hd2_14 hlt2 ha15
  have hd3_15 := Dj.ogr hd3_14 hlt3 ha15
  have hd9_15 := Dj.ogr hd9_14 hlt9 ha15
  have hd13_15 := Dj.ogr hd13_14 hlt13 ha15
  have hk2_13 : OkB [none, (some b13.block)] w21 (some b13.block) := OkB.mem (by simp)
  have hB := hB.loop hU2 ⟨hl14, hl13, trivial⟩
  have hfl := firstL_lenK a0 (mapL 1 xa2 ++ mapL (1 + a0) xy2) k
  refine CW.seq ?_
  refine CW.reg ?_
  refine WL.pure rfl rfl rfl (PV.lss rfl rfl) ?_
  refine WL.nilS ?_
  refine CW.seq ?_
  refine CW.cond rfl (fun hc6 => ?_) (fun hc6 => ?_)
  · skip
    try simp only [decide_eq_true_eq, decide_eq_false_iff_not, Bool.not_eq_true', Bool.not_eq_false', Bool.not_eq_eq_eq_not, Bool.not_true, Bool.not_false, Int.not_lt, Int.not_le, Classical.not_not, beq_iff_eq, beq_eq_false_iff_ne] at hc6
    refine CW.skipS ?_
    refine CW.seq ?_
    refine CW.block ?_
    refine CW.seq ?_
    refine CW.reg ?_
    have hrdp3 := ho9.rdR
    first
      | refine WL.at (x := .tmp 69) (y := .tmp 71) (E := ER) ((0, 0, 0, 0)) rfl rfl hrdp3 (by first | omega | (simp; omega) | (simp_all; omega)) (fun p3 csp3 hpp3 hcp3 hq => ?_)
      | refine WL.atZ (x := .tmp 69) (y := .tmp 71) (E := ER) ((0, 0, 0, 0)) rfl rfl hrdp3 (by first | omega | (simp; omega) | (simp_all; omega)) (fun p3 csp3 hpp3 hzp3 hcp3 hq => ?_)
    cases hq
    refine WL.pure rfl rfl rfl ((by first | exact PV.indexAddr hpp3 rfl rfl T.sl27 | exact PV.indexAddr hpp3 rfl (by rw [← hzp3]; rfl) T.sl27)) ?_
    refine WL.pure rfl rfl rfl ((by first | exact PV.loadA T.ag67 rfl (by first | exact Cells.up (by assumption) hB | exact Bx.cells (by assumption) | assumption) (Ext.refl _) rfl | exact PV.loadP (ds := [_, _, _, _]) T.ag67 rfl (by first | exact Cells.up (by assumption) hB | exact Bx.cells (by assumption) | assumption) (Ext.refl _) rfl rfl)) ?_
    refine WL.op rfl (OpK.alloc rfl T.zv67 rfl (fun b17 w22 hXw22 hb17 hge17 => ?_))
    have hl17 := Lo.new hB hge17
    have hd1_17 := Dj.new hb1.ltO hge17
    have hd2_17 := Dj.new hb2.ltO hge17
    have hd3_17 := Dj.new hb3.ltO hge17
    have hd9_17 := Dj.new ho9.ltO hge17
    have hd13_17 := Dj.new hb13.ltO hge17
    have hd15_17 := Dj.new ho15.ltO hge17
    have hk2_17 := OkN.new hU2 hge17
    have hg2_17 := OgR.new hU2.size hge17
    have hB := hB.trans hXw22
    have hb1 := hb1.up hXw22
    have hb2 := hb2.up hXw22
    have hb3 := hb3.up hXw22
    have ho9 := ho9.up hXw22
    have hb13 := hb13.up hXw22
    have ho15 := ho15.up hXw22
    have hU2 := hU2.ext hXw22
    refine WL.op rfl (OpK.storeA T.sz67 rfl rfl rfl rfl (by simp [Value.oneCell'] <;> first | done | (repeat' apply And.intro) <;> first | rfl | exact Osl.oneCell (by assumption) | exact Osn.oneCell (by assumption) | exact Rd.oneCell (by assumption) | assumption) hb17 (fun w23 hXw23 hb17 => ?_))
    have hB := hB.updL hXw23 hl17
    have hb1 := hb1.updD hXw23 hd1_17
    have hb2 := hb2.updD hXw23 hd2_17
    have hb3 := hb3.updD hXw23 hd3_17
    have ho9 := ho9.updD hXw23 hd9_17
    have hb13 := hb13.updD hXw23 hd13_17
    have ho15 := ho15.updD hXw23 hd15_17
    have hU2 := hU2.step hXw23 hk2_17
    refine WL.nilS ?_
    refine CW.seq ?_
    refine CW.reg ?_
    refine WL.pure rfl rfl rfl ((by first | exact PV.fieldAddr T.fl67_0 rfl (by first | assumption | exact Bx.cells (by assumption)) | exact PV.fieldAddrP T.fl67_0 rfl rfl)) ?_
    refine WL.pure rfl rfl rfl ((by first | exact PV.load0 T.na2 rfl (by first | exact Cells.up (by assumption) hB | exact Bx.cells (by assumption) | assumption) (Ext.refl _) rfl | exact PV.load1 T.na2 rfl (by first | exact Cells.up (by assumption) hB | exact Bx.cells (by assumption) | assumption) (Ext.refl _) rfl)) ?_
    refine WL.pure rfl rfl rfl (PV.eql rfl rfl) ?_
    refine WL.pure rfl rfl rfl (PV.move rfl) ?_
    refine WL.split (t := 78) rfl (fun hc7 => ?_) (fun hc7 => ?_)
    · skip
      try simp only [decide_eq_true_eq, decide_eq_false_iff_not, Bool.not_eq_true', Bool.not_eq_false', Bool.not_eq_eq_eq_not, Bool.not_true, Bool.not_false, Int.not_lt, Int.not_le, Classical.not_not, beq_iff_eq, beq_eq_false_iff_ne] at hc7
      refine WL.skip rfl rfl rfl rfl rfl ?_
      refine WL.skip rfl rfl rfl rfl rfl ?_
      refine WL.skip rfl rfl rfl rfl rfl ?_
      refine WL.skip rfl rfl rfl rfl rfl ?_
      refine WL.skip rfl rfl rfl rfl rfl ?_
      refine WL.skip rfl rfl rfl rfl rfl ?_
      refine WL.pure rfl rfl rfl (PV.pickT rfl rfl) ?_
      refine WL.nilS ?_
      refine CW.condT rfl ?_
      refine CW.seq ?_
      refine CW.reg ?_
      refine WL.pure rfl rfl rfl ((by first | exact PV.fieldAddr T.fl67_0 rfl (by first | assumption | exact Bx.cells (by assumption)) | exact PV.fieldAddrP T.fl67_0 rfl rfl)) ?_
      first
        | refine WL.op rfl (OpK.storeB T.sz2 rfl rfl (by first | rfl | exact Osl.oneCell (by assumption) | exact Osn.oneCell (by assumption) | exact Rd.oneCell (by assumption) | assumption) hb17 rfl (fun w24 hXw24 hb17 => ?_))
        | refine WL.op rfl (OpK.storeB0 T.sz2 rfl rfl (by first | rfl | exact Osl.oneCell (by assumption) | exact Osn.oneCell (by assumption) | exact Rd.oneCell (by assumption) | assumption) hb17 (fun w24 hXw24 hb17 => ?_))
      have hB := hB.updL hXw24 hl17
      have hb1 := hb1.updD hXw24 hd1_17
      have hb2 := hb2.updD hXw24 hd2_17
      have hb3 := hb3.updD hXw24 hd3_17
      have ho9 := ho9.updD hXw24 hd9_17
      have hb13 := hb13.updD hXw24 hd13_17
      have ho15 := ho15.updD hXw24 hd15_17
      have hU2 := hU2.step hXw24 hk2_17
      refine WL.nilS ?_
      refine CW.reg ?_
      refine WL.pure rfl rfl rfl ((by first | exact PV.fieldAddr T.fl29_2 rfl (by first | assumption | exact Bx.cells (by assumption)) | exact PV.fieldAddrP T.fl29_2 rfl rfl)) ?_
      refine WL.pure rfl rfl rfl ((by first | exact PV.load0 T.na27 rfl (by first | exact Cells.up (by assumption) hB | exact Bx.cells (by assumption) | assumption) (Ext.refl _) rfl | exact PV.load1 T.na27 rfl (by first | exact Cells.up (by assumption) hB | exact Bx.cells (by assumption) | assumption) (Ext.refl _) rfl)) ?_
      refine WL.pure rfl rfl rfl ((by first | exact PV.loadA T.ag67 rfl (by first | exact Cells.up (by assumption) hB | exact Bx.cells (by assumption) | assumption) (Ext.refl _) rfl | exact PV.loadP (ds := [_, _, _, _]) T.ag67 rfl (by first | exact Cells.up (by assumption) hB | exact Bx.cells (by assumption) | assumption) (Ext.refl _) rfl rfl)) ?_
      refine WL.op rfl (OpK.build4 (os := [.tmp 89]) rfl T.sl27 rfl rfl T.zv67 rfl rfl (fun v18 g18 w25 hXw25 ho18 hge18 => ?_))
      have hl18 := Lo.new hB hge18
      have hd1_18 := Dj.new hb1.ltO hge18
      have hd2_18 := Dj.new hb2.ltO hge18
      have hd3_18 := Dj.new hb3.ltO hge18
      have hd9_18 := Dj.new ho9.ltO hge18
      have hd13_18 := Dj.new hb13.ltO hge18
      have hd15_18 := Dj.new ho15.ltO hge18
      have hd17_18 := Dj.new hb17.ltO hge18
      have hk2_18 := OkN.new hU2 hge18
      have hg2_18 := OgR.new hU2.size hge18
      have hB := hB.trans hXw25
      have hb1 := hb1.up hXw25
      have hb2 := hb2.up hXw25
      have hb3 := hb3.up hXw25
      have ho9 := ho9.up hXw25
      have hb13 := hb13.up hXw25
      have ho15 := ho15.up hXw25
      have hb17 := hb17.up hXw25
      have hU2 := hU2.ext hXw25
      refine WL.op rfl (OpK.appendN (g := gR) rfl T.sl27 T.zv67 rfl rfl ho15 rfl (Osn.src ho18) (by first | (simp only [List.length_cons, List.length_nil]; omega) | (simp_all; omega)) (fun v19 og19 w26 hXw26 ho19 hap19 => ?_))
      have hl19 := Lo.app hl15 hB hap19
      have hd1_19 := Dj.app hd1_15 hb1.ltO hap19
      have hd2_19 := Dj.app hd2_15 hb2.ltO hap19
      have hd3_19 := Dj.app hd3_15 hb3.ltO hap19
      have hd9_19 := Dj.app hd9_15 ho9.ltO hap19
      have hd13_19 := Dj.app hd13_15 hb13.ltO hap19
      have hd17_19 := Dj.app (Dj.symm hd15_17) hb17.ltO hap19
      have hd18_19 := Dj.app (Dj.symm hd15_18) ho18.ltO hap19
      have hk2_19 := OkN.app hU2 hk2_15 hap19
      have hg2_19 := OgR.app hg2_15 hU2.size hap19
      have hB := hB.updL hXw26 hl15
      have hb1 := hb1.updD hXw26 hd1_15
      have hb2 := hb2.updD hXw26 hd2_15
      have hb3 := hb3.updD hXw26 hd3_15
      have ho9 := ho9.updD hXw26 hd9_15
      have hb13 := hb13.updD hXw26 hd13_15
      have hb17 := hb17.updD hXw26 (Dj.symm hd15_17)
      have ho18 := ho18.updD hXw26 (Dj.symm hd15_18)
      have hU2 := hU2.step hXw26 hk2_15
      refine WL.pure rfl rfl rfl ((by first | exact PV.fieldAddr T.fl29_2 rfl (by first | assumption | exact Bx.cells (by assumption)) | exact PV.fieldAddrP T.fl29_2 rfl rfl)) ?_
      first
        | refine WL.op rfl (OpK.storeB T.sz27 rfl rfl (by first | rfl | exact Osl.oneCell (by assumption) | exact Osn.oneCell (by assumption) | exact Rd.oneCell (by assumption) | assumption) hb13 rfl (fun w27 hXw27 hb13 => ?_))
        | refine WL.op rfl (OpK.storeB0 T.sz27 rfl rfl (by first | rfl | exact Osl.oneCell (by assumption) | exact Osn.oneCell (by assumption) | exact Rd.oneCell (by assumption) | assumption) hb13 (fun w27 hXw27 hb13 => ?_))
      have hB := hB.updL hXw27 hl13
      have hb1 := hb1.updD hXw27 hd1_13
      have hb2 := hb2.updD hXw27 hd2_13
      have hb3 := hb3.updD hXw27 hd3_13
      have ho9 := ho9.updD hXw27 hd9_13
      have hb17 := hb17.updD hXw27 (Dj.symm hd13_17)
      have ho18 := ho18.updD hXw27 (Dj.symm hd13_18)
      have ho19 := ho19.updD hXw27 (Dj.symm hd13_19)
      have hU2 := hU2.step hXw27 hk2_13
      refine WL.nil ?_
      refine NQ.block ?_
      refine NQ.then ?_
      refine CW.reg ?_
      refine WL.pure rfl rfl rfl (PV.add rfl rfl (by constructor <;> omega)) ?_
      refine WL.pure rfl rfl rfl (PV.move rfl) ?_
      refine WL.nil ?_
      refine NQ.next (ρ := [(71, _)]) ⟨rfl, rfl, rfl, rfl, rfl, rfl, rfl, trivial⟩ ?_
      exact ⟨_, ⟨v19, og19, k + 1, rfl, rfl, hU2, osnE ho19 (by first | exact firstL_yes (by omega) (by omega) rfl | exact firstL_no (by omega) (by omega)), (by first | exact hg2_19 | exact OgR.weak hg2_19), bxE hb13 (by first | rfl | (simp_all; done) | (simp_all; omega)), (by first | omega | assumption | (simp_all; done) | (simp_all; omega))⟩, by omega⟩
    try simp only [decide_eq_true_eq, decide_eq_false_iff_not, Bool.not_eq_true', Bool.not_eq_false', Bool.not_eq_eq_eq_not, Bool.not_true, Bool.not_false, Int.not_lt, Int.not_le, Classical.not_not, beq_iff_eq, beq_eq_false_iff_ne] at hc7
    refine WL.pureG rfl rfl rfl rfl rfl ((by first | exact PV.fieldAddr T.fl67_0 rfl (by first | assumption | exact Bx.cells (by assumption)) | exact PV.fieldAddrP T.fl67_0 rfl rfl)) ?_
    refine WL.pureG rfl rfl rfl rfl rfl ((by first | exact PV.load0 T.na2 rfl (by first | exact Cells.up (by assumption) hB | exact Bx.cells (by assumption) | assumption) (Ext.refl _) rfl | exact PV.load1 T.na2 rfl (by first | exact Cells.up (by assumption) hB | exact Bx.cells (by assumption) | assumption) (Ext.refl _) rfl)) ?_
    refine WL.pureG rfl rfl rfl rfl rfl ((by first | exact PV.fieldAddr T.fl29_0 rfl (by first | assumption | exact Bx.cells (by assumption)) | exact PV.fieldAddrP T.fl29_0 rfl rfl)) ?_
    refine WL.pureG rfl rfl rfl rfl rfl ((by first | exact PV.load0 T.na2 rfl (by first | exact Cells.up (by assumption) hB | exact Bx.cells (by assumption) | assumption) (Ext.refl _) rfl | exact PV.load1 T.na2 rfl (by first | exact Cells.up (by assumption) hB | exact Bx.cells (by assumption) | assumption) (Ext.refl _) rfl)) ?_
    refine WL.pureG rfl rfl rfl rfl rfl (PV.add rfl rfl (by constructor <;> omega)) ?_
    refine WL.pureG rfl rfl rfl rfl rfl (PV.eql rfl rfl) ?_
    refine WL.pure rfl rfl rfl (PV.pickF rfl rfl) ?_
    refine WL.nilS ?_
    refine CW.cond rfl (fun hc8 => ?_) (fun hc8 => ?_)
    · skip
      try simp only [decide_eq_true_eq, decide_eq_false_iff_not, Bool.not_eq_true', Bool.not_eq_false', Bool.not_eq_eq_eq_not, Bool.not_true, Bool.not_false, Int.not_lt, Int.not_le, Classical.not_not, beq_iff_eq, beq_eq_false_iff_ne] at hc8
      refine CW.seq ?_
      refine CW.reg ?_
      refine WL.pure rfl rfl rfl ((by first | exact PV.fieldAddr T.fl67_0 rfl (by first | assumption | exact Bx.cells (by assumption)) | exact PV.fieldAddrP T.fl67_0 rfl rfl)) ?_
      first
        | refine WL.op rfl (OpK.storeB T.sz2 rfl rfl (by first | rfl | exact Osl.oneCell (by assumption) | exact Osn.oneCell (by assumption) | exact Rd.oneCell (by assumption) | assumption) hb17 rfl (fun w28 hXw28 hb17 => ?_))
        | refine WL.op rfl (OpK.storeB0 T.sz2 rfl rfl (by first | rfl | exact Osl.oneCell (by assumption) | exact Osn.oneCell (by assumption) | exact Rd.oneCell (by assumption) | assumption) hb17 (fun w28 hXw28 hb17 => ?_))
      have hB := hB.updL hXw28 hl17
      have hb1 := hb1.updD hXw28 hd1_17
      have hb2 := hb2.updD hXw28 hd2_17
      have hb3 := hb3.updD hXw28 hd3_17
      have ho9 := ho9.updD hXw28 hd9_17
      have hb13 := hb13.updD hXw28 hd13_17
      have ho15 := ho15.updD hXw28 hd15_17
      have hU2 := hU2.step hXw28 hk2_17
      refine WL.nilS ?_
      refine CW.reg ?_
      refine WL.pure rfl rfl rfl ((by first | exact PV.fieldAddr T.fl29_2 rfl (by first | assumption | exact Bx.cells (by assumption)) | exact PV.fieldAddrP T.fl29_2 rfl rfl)) ?_
      refine WL.pure rfl rfl rfl ((by first | exact PV.load0 T.na27 rfl (by first | exact Cells.up (by assumption) hB | exact Bx.cells (by assumption) | assumption) (Ext.refl _) rfl | exact PV.load1 T.na27 rfl (by first | exact Cells.up (by assumption) hB | exact Bx.cells (by assumption) | assumption) (Ext.refl _) rfl)) ?_
      refine WL.pure rfl rfl rfl ((by first | exact PV.loadA T.ag67 rfl (by first | exact Cells.up (by assumption) hB | exact Bx.cells (by assumption) | assumption) (Ext.refl _) rfl | exact PV.loadP (ds := [_, _, _, _]) T.ag67 rfl (by first | exact Cells.up (by assumption) hB | exact Bx.cells (by assumption) | assumption) (Ext.refl _) rfl rfl)) ?_
      refine WL.op rfl (OpK.build4 (os := [.tmp 89]) rfl T.sl27 rfl rfl T.zv67 rfl rfl (fun v20 g20 w29 hXw29 ho20 hge20 => ?_))
      have hl20 := Lo.new hB hge20
      have hd1_20 := Dj.new hb1.ltO hge20
      have hd2_20 := Dj.new hb2.ltO hge20
      have hd3_20 := Dj.new hb3.ltO hge20
      have hd9_20 := Dj.new ho9.ltO hge20
      have hd13_20 := Dj.new hb13.ltO hge20
      have hd15_20 := Dj.new ho15.ltO hge20
      have hd17_20 := Dj.new hb17.ltO hge20
      have hk2_20 := OkN.new hU2 hge20
      have hg2_20 := OgR.new hU2.size hge20
      have hB := hB.trans hXw29
      have hb1 := hb1.up hXw29
      have hb2 := hb2.up hXw29
      have hb3 := hb3.up hXw29
      have ho9 := ho9.up hXw29
      have hb13 := hb13.up hXw29
      have ho15 := ho15.up hXw29
      have hb17 := hb17.up hXw29
      have hU2 := hU2.ext hXw29
      refine WL.op rfl (OpK.appendN (g := gR) rfl T.sl27 T.zv67 rfl rfl ho15 rfl (Osn.src ho20) (by first | (simp only [List.length_cons, List.length_nil]; omega) | (simp_all; omega)) (fun v21 og21 w30 hXw30 ho21 hap21 => ?_))
      have hl21 := Lo.app hl15 hB hap21
      have hd1_21 := Dj.app hd1_15 hb1.ltO hap21
      have hd2_21 := Dj.app hd2_15 hb2.ltO hap21
      have hd3_21 := Dj.app hd3_15 hb3.ltO hap21
      have hd9_21 := Dj.app hd9_15 ho9.ltO hap21
      have hd13_21 := Dj.app hd13_15 hb13.ltO hap21
      have hd17_21 := Dj.app (Dj.symm hd15_17) hb17.ltO hap21
      have hd20_21 := Dj.app (Dj.symm hd15_20) ho20.ltO hap21
      have hk2_21 := OkN.app hU2 hk2_15 hap21
      have hg2_21 := OgR.app hg2_15 hU2.size hap21
      have hB := hB.updL hXw30 hl15
      have hb1 := hb1.updD hXw30 hd1_15
      have hb2 := hb2.updD hXw30 hd2_15
      have hb3 := hb3.updD hXw30 hd3_15
      have ho9 := ho9.updD hXw30 hd9_15
      have hb13 := hb13.updD hXw30 hd13_15
      have hb17 := hb17.updD hXw30 (Dj.symm hd15_17)
      have ho20 := ho20.updD hXw30 (Dj.symm hd15_20)
      have hU2 := hU2.step hXw30 hk2_15
      refine WL.pure rfl rfl rfl ((by first | exact PV.fieldAddr T.fl29_2 rfl (by first | assumption | exact Bx.cells (by assumption)) | exact PV.fieldAddrP T.fl29_2 rfl rfl)) ?_
      first
        | refine WL.op rfl (OpK.storeB T.sz27 rfl rfl (by first | rfl | exact Osl.oneCell (by assumption) | exact Osn.oneCell (by assumption) | exact Rd.oneCell (by assumption) | assumption) hb13 rfl (fun w31 hXw31 hb13 => ?_))
        | refine WL.op rfl (OpK.storeB0 T.sz27 rfl rfl (by first | rfl | exact Osl.oneCell (by assumption) | exact Osn.oneCell (by assumption) | exact Rd.oneCell (by assumption) | assumption) hb13 (fun w31 hXw31 hb13 => ?_))
      have hB := hB.updL hXw31 hl13
      have hb1 := hb1.updD hXw31 hd1_13
      have hb2 := hb2.updD hXw31 hd2_13
      have hb3 := hb3.updD hXw31 hd3_13
      have ho9 := ho9.updD hXw31 hd9_13
      have hb17 := hb17.updD hXw31 (Dj.symm hd13_17)
      have ho20 := ho20.updD hXw31 (Dj.symm hd13_20)
      have ho21 := ho21.updD hXw31 (Dj.symm hd13_21)
      have hU2 := hU2.step hXw31 hk2_13
      refine WL.nil ?_
      refine NQ.block ?_
      refine NQ.then ?_
      refine CW.reg ?_
      refine WL.pure rfl rfl rfl (PV.add rfl rfl (by constructor <;> omega)) ?_
      refine WL.pure rfl rfl rfl (PV.move rfl) ?_
      refine WL.nil ?_
      refine NQ.next (ρ := [(71, _)]) ⟨rfl, rfl, rfl, rfl, rfl, rfl, rfl, trivial⟩ ?_
      exact ⟨_, ⟨v21, og21, k + 1, rfl, rfl, hU2, osnE ho21 (by first | exact firstL_yes (by omega) (by omega) rfl | exact firstL_no (by omega) (by omega)), (by first | exact hg2_21 | exact OgR.weak hg2_21), bxE hb13 (by first | rfl | (simp_all; done) | (simp_all; omega)), (by first | omega | assumption | (simp_all; done) | (simp_all; omega))⟩, by omega⟩
    try simp only [decide_eq_true_eq, decide_eq_false_iff_not, Bool.not_eq_true', Bool.not_eq_false', Bool.not_eq_eq_eq_not, Bool.not_true, Bool.not_false, Int.not_lt, Int.not_le, Classical.not_not, beq_iff_eq, beq_eq_false_iff_ne] at hc8
    refine CW.skip ?_
    refine NQ.block ?_
    refine NQ.then ?_
    refine CW.reg ?_
    refine WL.pure rfl rfl rfl (PV.add rfl rfl (by constructor <;> omega)) ?_
    refine WL.pure rfl rfl rfl (PV.move rfl) ?_
    refine WL.nil ?_
    refine NQ.next (ρ := [(71, _)]) ⟨rfl, rfl, rfl, rfl, rfl, rfl, rfl, trivial⟩ ?_
    exact ⟨_, ⟨v15, og15, k + 1, rfl, rfl, hU2, osnE ho15 (by first | exact firstL_yes (by omega) (by omega) rfl | exact firstL_no (by omega) (by omega)), (by first | exact hg2_15 | exact OgR.weak hg2_15), bxE hb13 (by first | rfl | (simp_all; done) | (simp_all; omega)), (by first | omega | assumption | (simp_all; done) | (simp_all; omega))⟩, by omega⟩
  try simp only [decide_eq_true_eq, decide_eq_false_iff_not, Bool.not_eq_true', Bool.not_eq_false', Bool.not_eq_eq_eq_not, Bool.not_true, Bool.not_false, Int.not_lt, Int.not_le, Classical.not_not, beq_iff_eq, beq_eq_false_iff_ne] at hc6
  refine CW.exit ?_
  refine XQ.then ?_
  refine XQ.then ?_
  refine XQ.here ?_
  refine NQ.then ?_
  refine CW.seq ?_
  refine CW.reg ?_
  have htk : (mapL 1 xa2 ++ mapL (1 + a0) xy2).take k = mapL 1 xa2 ++ mapL (1 + a0) xy2 := List.take_of_length_le (by omega); rw [htk] at ho15; have hfl := firstL_len a0 (mapL 1 xa2 ++ mapL (1 + a0) xy2)
  refine WL.pure rfl rfl rfl ((by first | exact PV.fieldAddr T.fl29_2 rfl (by first | assumption | exact Bx.cells (by assumption)) | exact PV.fieldAddrP T.fl29_2 rfl rfl)) ?_
  refine WL.pure rfl rfl rfl ((by first | exact PV.load0 T.na27 rfl (by first | exact Cells.up (by assumption) hB | exact Bx.cells (by assumption) | assumption) (Ext.refl _) rfl | exact PV.load1 T.na27 rfl (by first | exact Cells.up (by assumption) hB | exact Bx.cells (by assumption) | assumption) (Ext.refl _) rfl)) ?_
  refine WL.pure rfl rfl rfl (PV.move rfl) ?_
  refine WL.op rfl (OpK.appendN (g := gR) rfl T.sl27 T.zv67 rfl rfl ho15 rfl (Osn.src ho9) (by first | (simp only [List.length_cons, List.length_nil]; omega) | (omega)) (fun v22 og22 w32 hXw32 ho22 hap22 => ?_))
  have hl22 := Lo.app hl15 hB hap22
  have hd1_22 := Dj.app hd1_15 hb1.ltO hap22
  have hd2_22 := Dj.app hd2_15 hb2.ltO hap22
  have hd3_22 := Dj.app hd3_15 hb3.ltO hap22
  have hd9_22 := Dj.app hd9_15 ho9.ltO hap22
  have hd13_22 := Dj.app hd13_15 hb13.ltO hap22
  have hB := hB.updL hXw32 hl15
  have hb1 := hb1.updD hXw32 hd1_15
  have hb2 := hb2.updD hXw32 hd2_15
  have hb3 := hb3.updD hXw32 hd3_15
  have ho9 := ho9.updD hXw32 hd9_15
  have hb13 := hb13.updD hXw32 hd13_15
  refine WL.pure rfl rfl rfl ((by first | exact PV.fieldAddr T.fl29_2 rfl (by first | assumption | exact Bx.cells (by assumption)) | exact PV.fieldAddrP T.fl29_2 rfl rfl)) ?_
  first
    | refine WL.op rfl (OpK.storeB T.sz27 rfl rfl (by first | rfl | exact Osl.oneCell (by assumption) | exact Osn.oneCell (by assumption) | exact Rd.oneCell (by assumption) | assumption) hb13 rfl (fun w33 hXw33 hb13 => ?_))
    | refine WL.op rfl (OpK.storeB0 T.sz27 rfl rfl (by first | rfl | exact Osl.oneCell (by assumption) | exact Osn.oneCell (by assumption) | exact Rd.oneCell (by assumption) | assumption) hb13 (fun w33 hXw33 hb13 => ?_))
  have hB := hB.updL hXw33 hl13
  have hb1 := hb1.updD hXw33 hd1_13
  have hb2 := hb2.updD hXw33 hd2_13
  have hb3 := hb3.updD hXw33 hd3_13
  have ho9 := ho9.updD hXw33 hd9_13
  have ho22 := ho22.updD hXw33 (Dj.symm hd13_22)
  refine WL.nilS ?_
  refine CW.seq ?_
  refine CW.reg ?_
  rw [either_eq gA gY] at ho22
  refine WL.pure rfl rfl rfl ((by first | exact PV.loadA T.ag29 rfl (by first | exact Cells.up (by assumption) hB | exact Bx.cells (by assumption) | assumption) (Ext.refl _) rfl | exact PV.loadP (ds := [_, _, _]) T.ag29 rfl (by first | exact Cells.up (by assumption) hB | exact Bx.cells (by assumption) | assumption) (Ext.refl _) rfl rfl)) ?_
  refine WL.op rfl (OpK.call rfl T.cf63 rfl (c_impl_validGrammar (by first | assumption | exact Rd.up (by assumption) hB | exact Osl.rd (by assumption) | exact Osn.rdR (by assumption))) (fun rv1 w34 hR => ?_))
  rcases hR with ⟨hXw34, ⟨hal, rfl⟩ | ⟨hal, rfl⟩⟩
  · skip
    have hB := hB.trans hXw34
    have hb1 := hb1.up hXw34
    have hb2 := hb2.up hXw34
    have hb3 := hb3.up hXw34
    have ho9 := ho9.up hXw34
    have hb13 := hb13.up hXw34
    have ho22 := ho22.up hXw34
    refine WL.pure rfl rfl rfl (PV.extract rfl rfl) ?_
    refine WL.pure rfl rfl rfl (PV.extract rfl rfl) ?_
    refine WL.op rfl (OpK.storeA T.sz29 rfl rfl rfl rfl (by simp [Value.oneCell'] <;> first | done | (repeat' apply And.intro) <;> first | rfl | exact Osl.oneCell (by assumption) | exact Osn.oneCell (by assumption) | exact Rd.oneCell (by assumption) | assumption) hb3 (fun w35 hXw35 hb3 => ?_))
    have hB := hB.updL hXw35 hl3
    have hb1 := hb1.updD hXw35 hd1_3
    have hb2 := hb2.updD hXw35 hd2_3
    have ho9 := ho9.updD hXw35 (Dj.symm hd3_9)
    have hb13 := hb13.updD hXw35 (Dj.symm hd3_13)
    have ho22 := ho22.updD hXw35 (Dj.symm hd3_22)
    refine WL.pure rfl rfl rfl (PV.assign rfl) ?_
    refine WL.nilS ?_
    refine CW.ret ?_
    refine RQ.rc1 T.ag29 rfl (by first | exact Cells.up (by assumption) hB | exact Bx.cells (by assumption) | assumption) rfl rfl ?_
    refine ⟨hB, v22, og22, ?_, osnE ho22 ?_, hl22⟩
    · skip
      first | (exact tE2 (by rw [onI_no (by first | exact eithB_n1 (by assumption) | exact eithB_n2 (by assumption) | exact eithB_n3 (by omega) | exact eithB_n4 (by first | assumption | (unfold eithL; first | assumption | (simp only [List.nil_append] at *; assumption)))), onI_no (by first | exact eithB_n1 (by assumption) | exact eithB_n2 (by assumption) | exact eithB_n3 (by omega) | exact eithB_n4 (by first | assumption | (unfold eithL; first | assumption | (simp only [List.nil_append] at *; assumption))))]) (bE (Bool.eq_false_iff.2 (by first | exact eithB_n1 (by assumption) | exact eithB_n2 (by assumption) | exact eithB_n3 (by omega) | exact eithB_n4 (by first | assumption | (unfold eithL; first | assumption | (simp only [List.nil_append] at *; assumption))))).symm)) | (exact tE2 (by rw [onI_yes (eithB_yes (by assumption) (by assumption) (by omega) (by first | assumption | (unfold eithL; first | assumption | (simp only [List.nil_append] at *; assumption)))), onI_yes (eithB_yes (by assumption) (by assumption) (by omega) (by first | assumption | (unfold eithL; first | assumption | (simp only [List.nil_append] at *; assumption))))]; rfl) (bE (eithB_yes (by assumption) (by assumption) (by omega) (by first | assumption | (unfold eithL; first | assumption | (simp only [List.nil_append] at *; assumption)))).symm)) | (exact tE2 (by rw [onI_yes (eithB_yes (by assumption) (by assumption) (by omega) (by first | assumption | (unfold eithL; first | assumption | (simp only [List.nil_append] at *; assumption)))), onI_yes (eithB_yes (by assumption) (by assumption) (by omega) (by first | assumption | (unfold eithL; first | assumption | (simp only [List.nil_append] at *; assumption))))]) (bE (eithB_yes (by assumption) (by assumption) (by omega) (by first | assumption | (unfold eithL; first | assumption | (simp only [List.nil_append] at *; assumption)))).symm))
    · skip
      first | (rw [onT_no (by first | exact eithB_n1 (by assumption) | exact eithB_n2 (by assumption) | exact eithB_n3 (by omega) | exact eithB_n4 (by first | assumption | (unfold eithL; first | assumption | (simp only [List.nil_append] at *; assumption))))]; done) | (rw [onT_yes (eithB_yes (by assumption) (by assumption) (by omega) (by first | assumption | (unfold eithL; first | assumption | (simp only [List.nil_append] at *; assumption))))]; first | done | rfl)
  · skip
    have hB := hB.trans hXw34
    have hb1 := hb1.up hXw34
    have hb2 := hb2.up hXw34
    have hb3 := hb3.up hXw34
    have ho9 := ho9.up hXw34
    have hb13 := hb13.up hXw34
    have ho22 := ho22.up hXw34
    refine WL.pure rfl rfl rfl (PV.extract rfl rfl) ?_
    refine WL.pure rfl rfl rfl (PV.extract rfl rfl) ?_
    refine WL.op rfl (OpK.storeA T.sz29 rfl rfl rfl rfl (by simp [Value.oneCell'] <;> first | done | (repeat' apply And.intro) <;> first | rfl | exact Osl.oneCell (by assumption) | exact Osn.oneCell (by assumption) | exact Rd.oneCell (by assumption) | assumption) hb3 (fun w36 hXw36 hb3 => ?_))
    have hB := hB.updL hXw36 hl3
    have hb1 := hb1.updD hXw36 hd1_3
    have hb2 := hb2.updD hXw36 hd2_3
    have ho9 := ho9.updD hXw36 (Dj.symm hd3_9)
    have hb13 := hb13.updD hXw36 (Dj.symm hd3_13)
    have ho22 := ho22.updD hXw36 (Dj.symm hd3_22)
    refine WL.pure rfl rfl rfl (PV.assign rfl) ?_
    refine WL.nilS ?_
    refine CW.ret ?_
    refine RQ.rc1 T.ag29 rfl (by first | exact Cells.up (by assumption) hB | exact Bx.cells (by assumption) | assumption) rfl rfl ?_
    refine ⟨hB, (.slice none 0 0), none, ?_, osnE (Osn.nil gR_ok _) ?_, Lo.nl _⟩
    · skip
      first | (exact tE2 (by rw [onI_no (by first | exact eithB_n1 (by assumption) | exact eithB_n2 (by assumption) | exact eithB_n3 (by omega) | exact eithB_n4 (by first | assumption | (unfold eithL; first | assumption | (simp only [List.nil_append] at *; assumption)))), onI_no (by first | exact eithB_n1 (by assumption) | exact eithB_n2 (by assumption) | exact eithB_n3 (by omega) | exact eithB_n4 (by first | assumption | (unfold eithL; first | assumption | (simp only [List.nil_append] at *; assumption))))]) (bE (Bool.eq_false_iff.2 (by first | exact eithB_n1 (by assumption) | exact eithB_n2 (by assumption) | exact eithB_n3 (by omega) | exact eithB_n4 (by first | assumption | (unfold eithL; first | assumption | (simp only [List.nil_append] at *; assumption))))).symm)) | (exact tE2 (by rw [onI_yes (eithB_yes (by assumption) (by assumption) (by omega) (by first | assumption | (unfold eithL; first | assumption | (simp only [List.nil_append] at *; assumption)))), onI_yes (eithB_yes (by assumption) (by assumption) (by omega) (by first | assumption | (unfold eithL; first | assumption | (simp only [List.nil_append] at *; assumption))))]; rfl) (bE (eithB_yes (by assumption) (by assumption) (by omega) (by first | assumption | (unfold eithL; first | assumption | (simp only [List.nil_append] at *; assumption)))).symm)) | (exact tE2 (by rw [onI_yes (eithB_yes (by assumption) (by assumption) (by omega) (by first | assumption | (unfold eithL; first | assumption | (simp only [List.nil_append] at *; assumption)))), onI_yes (eithB_yes (by assumption) (by assumption) (by omega) (by first | assumption | (unfold eithL; first | assumption | (simp only [List.nil_append] at *; assumption))))]) (bE (eithB_yes (by assumption) (by assumption) (by omega) (by first | assumption | (unfold eithL; first | assumption | (simp only [List.nil_append] at *; assumption)))).symm))
    · skip
      first | (rw [onT_no (by first | exact eithB_n1 (by assumption) | exact eithB_n2 (by assumption) | exact eithB_n3 (by omega) | exact eithB_n4 (by first | assumption | (unfold eithL; first | assumption | (simp only [List.nil_append] at *; assumption))))]; done) | (rw [onT_yes (eithB_yes (by assumption) (by assumption) (by omega) (by first | assumption | (unfold eithL; first | assumption | (simp only [List.nil_append] at *; assumption))))]; first | done | rfl)
theorem c_laws_eqRule {w : World} {a0 a1 a2 a3 b0 b1 b2 b3 : Int} : Calls Try.prog 88 #[.agg #[.int .i64 a0, .int .i64 a1, .int .i64 a2, .int .i64 a3], .agg #[.int .i64 b0, .int .i64 b1, .int .i64 b2, .int .i64 b3]] w (Ret1 (RQt (.bool (decide (a0 = b0 ∧ a1 = b1 ∧ a2 = b2 ∧ a3 = b3))) w)) := by
  have hB : Ext w w := Ext.refl w
  refine callsOf (vs := [_, _]) Try.func88 rfl Try.ntmps88 rfl rfl ?_
  refine CW.seq ?_
  refine CW.reg ?_
  refine WL.op rfl (OpK.box rfl rfl (by first | rfl | exact Rd.cells1 (by assumption) | exact Osl.cells1 (by assumption) | exact Osn.cells1 (by assumption)) (fun b1 w1 hXw1 hb1 hge1 => ?_))
  have hl1 := Lo.new hB hge1
  have hB := hB.trans hXw1
  refine WL.op rfl (OpK.box rfl rfl (by first | rfl | exact Rd.cells1 (by assumption) | exact Osl.cells1 (by assumption) | exact Osn.cells1 (by assumption)) (fun b2 w2 hXw2 hb2 hge2 => ?_))
  have hl2 := Lo.new hB hge2
  have hd1_2 := Dj.new hb1.ltO hge2
  have hB := hB.trans hXw2
  have hb1 := hb1.up hXw2
  refine WL.pure rfl rfl rfl (PV.assign rfl) ?_
  refine WL.nilS ?_
  refine CW.seq ?_
  refine CW.seq ?_
  refine CW.reg ?_
  refine WL.pure rfl rfl rfl ((by first | exact PV.fieldAddr T.fl67_0 rfl (by first | assumption | exact Bx.cells (by assumption)) | exact PV.fieldAddrP T.fl67_0 rfl rfl)) ?_
  refine WL.pure rfl rfl rfl ((by first | exact PV.load0 T.na2 rfl (by first | exact Cells.up (by assumption) hB | exact Bx.cells (by assumption) | assumption) (Ext.refl _) rfl | exact PV.load1 T.na2 rfl (by first | exact Cells.up (by assumption) hB | exact Bx.cells (by assumption) | assumption) (Ext.refl _) rfl)) ?_
  refine WL.pure rfl rfl rfl ((by first | exact PV.fieldAddr T.fl67_0 rfl (by first | assumption | exact Bx.cells (by assumption)) | exact PV.fieldAddrP T.fl67_0 rfl rfl)) ?_
  refine WL.pure rfl rfl rfl ((by first | exact PV.load0 T.na2 rfl (by first | exact Cells.up (by assumption) hB | exact Bx.cells (by assumption) | assumption) (Ext.refl _) rfl | exact PV.load1 T.na2 rfl (by first | exact Cells.up (by assumption) hB | exact Bx.cells (by assumption) | assumption) (Ext.refl _) rfl)) ?_
  refine WL.pure rfl rfl rfl (PV.neq rfl rfl) ?_
  refine WL.nilS ?_
  refine CW.cond rfl (fun hc1 => ?_) (fun hc1 => ?_)
  · skip
    try simp only [decide_eq_true_eq, decide_eq_false_iff_not, Bool.not_eq_true', Bool.not_eq_false', Bool.not_eq_eq_eq_not, Bool.not_true, Bool.not_false, Int.not_lt, Int.not_le, Classical.not_not, beq_iff_eq, beq_eq_false_iff_ne] at hc1
    refine CW.seq ?_
    refine CW.reg ?_
    refine WL.pure rfl rfl rfl (PV.assign rfl) ?_
    refine WL.nilS ?_
    refine CW.ret ?_
    refine RQ.then ?_
    refine RQ.r1 rfl ?_
    refine ⟨?_, hB⟩
    first | rfl | exact bT (by omega) | exact bF (by omega) | exact bD (by omega) | exact iE (by omega) | (simp_all; done) | (simp_all; omega) | (simp_all; intros; omega)
  try simp only [decide_eq_true_eq, decide_eq_false_iff_not, Bool.not_eq_true', Bool.not_eq_false', Bool.not_eq_eq_eq_not, Bool.not_true, Bool.not_false, Int.not_lt, Int.not_le, Classical.not_not, beq_iff_eq, beq_eq_false_iff_ne] at hc1
  refine CW.skipS ?_
  refine CW.seq ?_
  refine CW.seq ?_
  refine CW.reg ?_
  refine WL.pure rfl rfl rfl ((by first | exact PV.fieldAddr T.fl67_1 rfl (by first | assumption | exact Bx.cells (by assumption)) | exact PV.fieldAddrP T.fl67_1 rfl rfl)) ?_
  refine WL.pure rfl rfl rfl ((by first | exact PV.load0 T.na2 rfl (by first | exact Cells.up (by assumption) hB | exact Bx.cells (by assumption) | assumption) (Ext.refl _) rfl | exact PV.load1 T.na2 rfl (by first | exact Cells.up (by assumption) hB | exact Bx.cells (by assumption) | assumption) (Ext.refl _) rfl)) ?_
  refine WL.pure rfl rfl rfl ((by first | exact PV.fieldAddr T.fl67_1 rfl (by first | assumption | exact Bx.cells (by assumption)) | exact PV.fieldAddrP T.fl67_1 rfl rfl)) ?_
  refine WL.pure rfl rfl rfl ((by first | exact PV.load0 T.na2 rfl (by first | exact Cells.up (by assumption) hB | exact Bx.cells (by assumption) | assumption) (Ext.refl _) rfl | exact PV.load1 T.na2 rfl (by first | exact Cells.up (by assumption) hB | exact Bx.cells (by assumption) | assumption) (Ext.refl _) rfl)) ?_
  refine WL.pure rfl rfl rfl (PV.neq rfl rfl) ?_
  refine WL.nilS ?_
  refine CW.cond rfl (fun hc2 => ?_) (fun hc2 => ?_)
  · skip
    try simp only [decide_eq_true_eq, decide_eq_false_iff_not, Bool.not_eq_true', Bool.not_eq_false', Bool.not_eq_eq_eq_not, Bool.not_true, Bool.not_false, Int.not_lt, Int.not_le, Classical.not_not, beq_iff_eq, beq_eq_false_iff_ne] at hc2
    refine CW.seq ?_
    refine CW.reg ?_
    refine WL.pure rfl rfl rfl (PV.assign rfl) ?_
    refine WL.nilS ?_
    refine CW.ret ?_
    refine RQ.then ?_
    refine RQ.r1 rfl ?_
    refine ⟨?_, hB⟩
    first | rfl | exact bT (by omega) | exact bF (by omega) | exact bD (by omega) | exact iE (by omega) | (simp_all; done) | (simp_all; omega) | (simp_all; intros; omega)
  try simp only [decide_eq_true_eq, decide_eq_false_iff_not, Bool.not_eq_true', Bool.not_eq_false', Bool.not_eq_eq_eq_not, Bool.not_true, Bool.not_false, Int.not_lt, Int.not_le, Classical.not_not, beq_iff_eq, beq_eq_false_iff_ne] at hc2
  refine CW.skipS ?_
  refine CW.seq ?_
  refine CW.seq ?_
  refine CW.reg ?_
  refine WL.pure rfl rfl rfl ((by first | exact PV.fieldAddr T.fl67_2 rfl (by first | assumption | exact Bx.cells (by assumption)) | exact PV.fieldAddrP T.fl67_2 rfl rfl)) ?_
  refine WL.pure rfl rfl rfl ((by first | exact PV.load0 T.na2 rfl (by first | exact Cells.up (by assumption) hB | exact Bx.cells (by assumption) | assumption) (Ext.refl _) rfl | exact PV.load1 T.na2 rfl (by first | exact Cells.up (by assumption) hB | exact Bx.cells (by assumption) | assumption) (Ext.refl _) rfl)) ?_
  refine WL.pure rfl rfl rfl ((by first | exact PV.fieldAddr T.fl67_2 rfl (by first | assumption | exact Bx.cells (by assumption)) | exact PV.fieldAddrP T.fl67_2 rfl rfl)) ?_
  refine WL.pure rfl rfl rfl ((by first | exact PV.load0 T.na2 rfl (by first | exact Cells.up (by assumption) hB | exact Bx.cells (by assumption) | assumption) (Ext.refl _) rfl | exact PV.load1 T.na2 rfl (by first | exact Cells.up (by assumption) hB | exact Bx.cells (by assumption) | assumption) (Ext.refl _) rfl)) ?_
  refine WL.pure rfl rfl rfl (PV.neq rfl rfl) ?_
  refine WL.nilS ?_
  refine CW.cond rfl (fun hc3 => ?_) (fun hc3 => ?_)
  · skip
    try simp only [decide_eq_true_eq, decide_eq_false_iff_not, Bool.not_eq_true', Bool.not_eq_false', Bool.not_eq_eq_eq_not, Bool.not_true, Bool.not_false, Int.not_lt, Int.not_le, Classical.not_not, beq_iff_eq, beq_eq_false_iff_ne] at hc3
    refine CW.seq ?_
    refine CW.reg ?_
    refine WL.pure rfl rfl rfl (PV.assign rfl) ?_
    refine WL.nilS ?_
    refine CW.ret ?_
    refine RQ.then ?_
    refine RQ.r1 rfl ?_
    refine ⟨?_, hB⟩
    first | rfl | exact bT (by omega) | exact bF (by omega) | exact bD (by omega) | exact iE (by omega) | (simp_all; done) | (simp_all; omega) | (simp_all; intros; omega)
  try simp only [decide_eq_true_eq, decide_eq_false_iff_not, Bool.not_eq_true', Bool.not_eq_false', Bool.not_eq_eq_eq_not, Bool.not_true, Bool.not_false, Int.not_lt, Int.not_le, Classical.not_not, beq_iff_eq, beq_eq_false_iff_ne] at hc3
  refine CW.skipS ?_
  refine CW.seq ?_
  refine CW.seq ?_
  refine CW.reg ?_
  refine WL.pure rfl rfl rfl ((by first | exact PV.fieldAddr T.fl67_3 rfl (by first | assumption | exact Bx.cells (by assumption)) | exact PV.fieldAddrP T.fl67_3 rfl rfl)) ?_
  refine WL.pure rfl rfl rfl ((by first | exact PV.load0 T.na2 rfl (by first | exact Cells.up (by assumption) hB | exact Bx.cells (by assumption) | assumption) (Ext.refl _) rfl | exact PV.load1 T.na2 rfl (by first | exact Cells.up (by assumption) hB | exact Bx.cells (by assumption) | assumption) (Ext.refl _) rfl)) ?_
  refine WL.pure rfl rfl rfl ((by first | exact PV.fieldAddr T.fl67_3 rfl (by first | assumption | exact Bx.cells (by assumption)) | exact PV.fieldAddrP T.fl67_3 rfl rfl)) ?_
  refine WL.pure rfl rfl rfl ((by first | exact PV.load0 T.na2 rfl (by first | exact Cells.up (by assumption) hB | exact Bx.cells (by assumption) | assumption) (Ext.refl _) rfl | exact PV.load1 T.na2 rfl (by first | exact Cells.up (by assumption) hB | exact Bx.cells (by assumption) | assumption) (Ext.refl _) rfl)) ?_
  refine WL.pure rfl rfl rfl (PV.neq rfl rfl) ?_
  refine WL.nilS ?_
  refine CW.cond rfl (fun hc4 => ?_) (fun hc4 => ?_)
  · skip
    try simp only [decide_eq_true_eq, decide_eq_false_iff_not, Bool.not_eq_true', Bool.not_eq_false', Bool.not_eq_eq_eq_not, Bool.not_true, Bool.not_false, Int.not_lt, Int.not_le, Classical.not_not, beq_iff_eq, beq_eq_false_iff_ne] at hc4
    refine CW.seq ?_
    refine CW.reg ?_
    refine WL.pure rfl rfl rfl (PV.assign rfl) ?_
    refine WL.nilS ?_
    refine CW.ret ?_
    refine RQ.then ?_
    refine RQ.r1 rfl ?_
    refine ⟨?_, hB⟩
    first | rfl | exact bT (by omega) | exact bF (by omega) | exact bD (by omega) | exact iE (by omega) | (simp_all; done) | (simp_all; omega) | (simp_all; intros; omega)
  try simp only [decide_eq_true_eq, decide_eq_false_iff_not, Bool.not_eq_true', Bool.not_eq_false', Bool.not_eq_eq_eq_not, Bool.not_true, Bool.not_false, Int.not_lt, Int.not_le, Classical.not_not, beq_iff_eq, beq_eq_false_iff_ne] at hc4
  refine CW.skipS ?_
  refine CW.seq ?_
  refine CW.reg ?_
  refine WL.pure rfl rfl rfl (PV.assign rfl) ?_
  refine WL.nilS ?_
  refine CW.ret ?_
  refine RQ.r1 rfl ?_
  refine ⟨?_, hB⟩
  first | rfl | exact bT (by omega) | exact bF (by omega) | exact bD (by omega) | exact iE (by omega) | (simp_all; done) | (simp_all; omega) | (simp_all; intros; omega)
theorem c_laws_eqRuleS {w : World} {va vb : Value} {xs ys : List R4} (ha : Rd ER w va xs) (hb : Rd ER w vb ys) : Calls Try.prog 56 #[va, vb] w (Ret1 (RQt (.bool (decide (xs = ys))) w)) := by
  have hB : Ext w w := Ext.refl w
  have hla := ha.leI; have hlb := hb.leI
  refine callsOf (vs := [_, _]) Try.func56 rfl Try.ntmps56 rfl rfl ?_
  refine CW.seq ?_
  refine CW.reg ?_
  refine WL.pure rfl rfl rfl (PV.assign rfl) ?_
  refine WL.nilS ?_
  refine CW.seq ?_
  refine CW.seq ?_
  refine CW.reg ?_
  refine WL.pure rfl rfl rfl (PV.move rfl) ?_
  refine WL.pure rfl rfl rfl ((by first | exact PV.len rfl (by assumption) T.sl27 | exact PV.lenOs rfl (by assumption) T.sl27)) ?_
  refine WL.pure rfl rfl rfl (PV.move rfl) ?_
  refine WL.pure rfl rfl rfl ((by first | exact PV.len rfl (by assumption) T.sl27 | exact PV.lenOs rfl (by assumption) T.sl27)) ?_
  refine WL.pure rfl rfl rfl (PV.neq rfl rfl) ?_
  refine WL.nilS ?_
  refine CW.cond rfl (fun hc1 => ?_) (fun hc1 => ?_)
  · skip
    try simp only [decide_eq_true_eq, decide_eq_false_iff_not, Bool.not_eq_true', Bool.not_eq_false', Bool.not_eq_eq_eq_not, Bool.not_true, Bool.not_false, Int.not_lt, Int.not_le, Classical.not_not, beq_iff_eq, beq_eq_false_iff_ne] at hc1
    refine CW.seq ?_
    refine CW.reg ?_
    refine WL.pure rfl rfl rfl (PV.assign rfl) ?_
    refine WL.nilS ?_
    refine CW.ret ?_
    refine RQ.then ?_
    refine RQ.r1 rfl ?_
    refine ⟨?_, hB⟩
    first | exact bT (eq_of_takes (by omega) (by omega) he) | exact bF (by rintro rfl; first | omega | exact (r4_no (by assumption)).elim)
  try simp only [decide_eq_true_eq, decide_eq_false_iff_not, Bool.not_eq_true', Bool.not_eq_false', Bool.not_eq_eq_eq_not, Bool.not_true, Bool.not_false, Int.not_lt, Int.not_le, Classical.not_not, beq_iff_eq, beq_eq_false_iff_ne] at hc1
  refine CW.skipS ?_
  refine CW.seq ?_
  refine CW.seq ?_
  refine CW.reg ?_
  refine WL.pure rfl rfl rfl (PV.assign rfl) ?_
  refine WL.nilS ?_
  refine CW.block ?_
  refine CW.loop (σk := [(0, _), (1, _)]) (fun ρ wz m => ∃ (k : Nat), ρ = [(5, .int .i64 (k : Nat))] ∧ m = xs.length - k ∧ UpdL [] w wz ∧ (k ≤ xs.length) ∧ (xs.take k = ys.take k)) (ρ₀ := [(5, _)]) (m₀ := _) ⟨rfl, rfl, rfl, trivial⟩ ⟨0, rfl, rfl, (UpdL.refl _ _), (by first | omega | rfl | (simp; done) | assumption | (simp_all; done)), (by first | omega | rfl | (simp; done) | assumption | (simp_all; done))⟩ ?_
  rintro _ wl1 _ ⟨k, rfl, rfl, hU0, hk, he⟩
  have hB := hB.loop hU0 trivial
  refine CW.seq ?_
  refine CW.seq ?_
  refine CW.reg ?_
  refine WL.pure rfl rfl rfl (PV.move rfl) ?_
  refine WL.pure rfl rfl rfl (PV.move rfl) ?_
  refine WL.pure rfl rfl rfl ((by first | exact PV.len rfl (by assumption) T.sl27 | exact PV.lenOs rfl (by assumption) T.sl27)) ?_
  refine WL.pure rfl rfl rfl (PV.lss rfl rfl) ?_
  refine WL.nilS ?_
  refine CW.cond rfl (fun hc2 => ?_) (fun hc2 => ?_)
  · skip
    try simp only [decide_eq_true_eq, decide_eq_false_iff_not, Bool.not_eq_true', Bool.not_eq_false', Bool.not_eq_eq_eq_not, Bool.not_true, Bool.not_false, Int.not_lt, Int.not_le, Classical.not_not, beq_iff_eq, beq_eq_false_iff_ne] at hc2
    refine CW.skipS ?_
    refine CW.seq ?_
    refine CW.block ?_
    refine CW.seq ?_
    refine CW.draw T.mixed (by kernel_rfl) (fun _ _ _ _ _ h => h) (fun w8 w9 => Upd none w8 w9) 10 (.take 0 (.take 1 (.take 2 (.take 3 (.take 4 (.take 5 (.take 6 (.take 7 (.must 8 (.take 9 .done)))))))))) (by kernel_rfl) (fun w1 hXd => ?_)
    have hB := hB.trans hXd
    have hU0 := hU0.ext hXd
    have hBr := hB
    have hS : Upd none w1 w1 := Ext.toUpd (Ext.refl _)
    refine HP.take rfl rfl rfl rfl hS (fun wS hS1 => PV.move rfl) ?_
    refine HP.take rfl rfl rfl rfl hS (fun wS hS1 => PV.move rfl) ?_
    first
      | refine HP.at (x := .tmp 17) (y := .tmp 18) (E := ER) ((0, 0, 0, 0)) rfl rfl (by assumption) (by first | omega | (simp; omega) | (simp_all; omega)) (fun p1 csp1 hpp1 hcp1 hq => ?_)
      | refine HP.atZ (x := .tmp 17) (y := .tmp 18) (E := ER) ((0, 0, 0, 0)) rfl rfl (by assumption) (by first | omega | (simp; omega) | (simp_all; omega)) (fun p1 csp1 hpp1 hzp1 hcp1 hq => ?_)
    cases hq
    refine HP.take rfl rfl rfl rfl hS (fun wS hS1 => (by first | exact PV.indexAddr hpp1 rfl rfl T.sl27 | exact PV.indexAddr hpp1 rfl (by rw [← hzp1]; rfl) T.sl27)) ?_
    refine HP.take rfl rfl rfl rfl hS (fun wS hS1 => (by first | exact PV.loadA T.ag67 rfl (by first | exact Cells.up (by assumption) (hBr.trans hS1) | exact Bx.cells (Bx.updD (by assumption) hS1 (Dj.nlR _)) | exact Cells.upd (by assumption) hS1 (by simp)) (Ext.refl _) rfl | exact PV.loadP (ds := [_, _, _, _]) T.ag67 rfl (by first | exact Cells.up (by assumption) (hBr.trans hS1) | exact Bx.cells (Bx.updD (by assumption) hS1 (Dj.nlR _)) | exact Cells.upd (by assumption) hS1 (by simp)) (Ext.refl _) rfl rfl)) ?_
    refine HP.take rfl rfl rfl rfl hS (fun wS hS1 => PV.move rfl) ?_
    refine HP.take rfl rfl rfl rfl hS (fun wS hS1 => PV.move rfl) ?_
    first
      | refine HP.at (x := .tmp 21) (y := .tmp 22) (E := ER) ((0, 0, 0, 0)) rfl rfl (by assumption) (by first | omega | (simp; omega) | (simp_all; omega)) (fun p2 csp2 hpp2 hcp2 hq => ?_)
      | refine HP.atZ (x := .tmp 21) (y := .tmp 22) (E := ER) ((0, 0, 0, 0)) rfl rfl (by assumption) (by first | omega | (simp; omega) | (simp_all; omega)) (fun p2 csp2 hpp2 hzp2 hcp2 hq => ?_)
    cases hq
    refine HP.take rfl rfl rfl rfl hS (fun wS hS1 => (by first | exact PV.indexAddr hpp2 rfl rfl T.sl27 | exact PV.indexAddr hpp2 rfl (by rw [← hzp2]; rfl) T.sl27)) ?_
    refine HP.take rfl rfl rfl rfl hS (fun wS hS1 => (by first | exact PV.loadA T.ag67 rfl (by first | exact Cells.up (by assumption) (hBr.trans hS1) | exact Bx.cells (Bx.updD (by assumption) hS1 (Dj.nlR _)) | exact Cells.upd (by assumption) hS1 (by simp)) (Ext.refl _) rfl | exact PV.loadP (ds := [_, _, _, _]) T.ag67 rfl (by first | exact Cells.up (by assumption) (hBr.trans hS1) | exact Bx.cells (Bx.updD (by assumption) hS1 (Dj.nlR _)) | exact Cells.upd (by assumption) hS1 (by simp)) (Ext.refl _) rfl rfl)) ?_
    refine HP.must rfl rfl (OpK.callR rfl T.cf88 rfl (c_laws_eqRule) (fun w2 hXw2 => ?_))
    refine ⟨Upd.trans hS hXw2, ?_⟩
    have hS := Upd.trans hS hXw2
    have hB := hB.trans hXw2
    have hU0 := hU0.ext hXw2
    refine HP.take rfl rfl rfl rfl hS (fun wS hS1 => PV.not rfl) ?_
    refine HP.doneS ?_
    refine CW.cond rfl (fun hc3 => ?_) (fun hc3 => ?_)
    · skip
      try simp only [decide_eq_true_eq, decide_eq_false_iff_not, Bool.not_eq_true', Bool.not_eq_false', Bool.not_eq_eq_eq_not, Bool.not_true, Bool.not_false, Int.not_lt, Int.not_le, Classical.not_not, beq_iff_eq, beq_eq_false_iff_ne] at hc3
      refine CW.seq ?_
      refine CW.reg ?_
      refine WL.pure rfl rfl rfl (PV.assign rfl) ?_
      refine WL.nilS ?_
      refine CW.ret ?_
      refine RQ.block ?_
      refine RQ.then ?_
      refine RQ.then ?_
      refine RQ.block ?_
      refine RQ.then ?_
      refine RQ.r1 rfl ?_
      refine ⟨?_, hB⟩
      first | exact bT (eq_of_takes (by omega) (by omega) he) | exact bF (by rintro rfl; first | omega | exact (r4_no (by assumption)).elim)
    try simp only [decide_eq_true_eq, decide_eq_false_iff_not, Bool.not_eq_true', Bool.not_eq_false', Bool.not_eq_eq_eq_not, Bool.not_true, Bool.not_false, Int.not_lt, Int.not_le, Classical.not_not, beq_iff_eq, beq_eq_false_iff_ne] at hc3
    refine CW.skip ?_
    refine NQ.block ?_
    refine NQ.then ?_
    refine CW.reg ?_
    refine WL.pure rfl rfl rfl (PV.move rfl) ?_
    refine WL.pure rfl rfl rfl (PV.add rfl rfl (by constructor <;> omega)) ?_
    refine WL.pure rfl rfl rfl (PV.assign rfl) ?_
    refine WL.nil ?_
    refine NQ.next (ρ := [(5, _)]) ⟨rfl, rfl, rfl, trivial⟩ ?_
    exact ⟨_, ⟨k + 1, rfl, rfl, hU0, (by first | omega | assumption | (simp_all; done) | (simp_all; omega)), (by exact take_eq_succ (by omega) (by omega) he (r4_ext (by assumption)))⟩, by omega⟩
  try simp only [decide_eq_true_eq, decide_eq_false_iff_not, Bool.not_eq_true', Bool.not_eq_false', Bool.not_eq_eq_eq_not, Bool.not_true, Bool.not_false, Int.not_lt, Int.not_le, Classical.not_not, beq_iff_eq, beq_eq_false_iff_ne] at hc2
  refine CW.exit ?_
  refine XQ.then ?_
  refine XQ.then ?_
  refine XQ.here ?_
  refine NQ.then ?_
  refine CW.seq ?_
  refine CW.reg ?_
  refine WL.pure rfl rfl rfl (PV.assign rfl) ?_
  refine WL.nilS ?_
  refine CW.ret ?_
  refine RQ.r1 rfl ?_
  refine ⟨?_, hB⟩
  first | exact bT (eq_of_takes (by omega) (by omega) he) | exact bF (by rintro rfl; first | omega | exact (r4_no (by assumption)).elim)
theorem c_laws_eqGrammar {w : World} {a0 : Int} {a1 : Int} {va2 : Value} {xa2 : List R4} {b0 : Int} {b1 : Int} {vb2 : Value} {xb2 : List R4}  (ha2 : Rd ER w va2 xa2) (hb2 : Rd ER w vb2 xb2) : Calls Try.prog 19 #[.agg #[.int .i64 a0, .int .i64 a1, va2], .agg #[.int .i64 b0, .int .i64 b1, vb2]] w (Ret1 (RQt (.bool (decide (a0 = b0 ∧ a1 = b1 ∧ xa2 = xb2))) w)) := by
  have hB : Ext w w := Ext.refl w
  have hla2 := ha2.leI; have hlb2 := hb2.leI
  refine callsOf (vs := [_, _]) Try.func19 rfl Try.ntmps19 rfl rfl ?_
  refine CW.seq ?_
  refine CW.reg ?_
  refine WL.op rfl (OpK.box rfl rfl (by first | rfl | exact Rd.cells1 (by assumption) | exact Osl.cells1 (by assumption) | exact Osn.cells1 (by assumption)) (fun b1 w1 hXw1 hb1 hge1 => ?_))
  have hl1 := Lo.new hB hge1
  have hB := hB.trans hXw1
  refine WL.op rfl (OpK.box rfl rfl (by first | rfl | exact Rd.cells1 (by assumption) | exact Osl.cells1 (by assumption) | exact Osn.cells1 (by assumption)) (fun b2 w2 hXw2 hb2 hge2 => ?_))
  have hl2 := Lo.new hB hge2
  have hd1_2 := Dj.new hb1.ltO hge2
  have hB := hB.trans hXw2
  have hb1 := hb1.up hXw2
  refine WL.pure rfl rfl rfl (PV.assign rfl) ?_
  refine WL.nilS ?_
  refine CW.seq ?_
  refine CW.seq ?_
  refine CW.reg ?_
  refine WL.pure rfl rfl rfl ((by first | exact PV.fieldAddr T.fl29_0 rfl (by first | assumption | exact Bx.cells (by assumption)) | exact PV.fieldAddrP T.fl29_0 rfl rfl)) ?_
  refine WL.pure rfl rfl rfl ((by first | exact PV.load0 T.na2 rfl (by first | exact Cells.up (by assumption) hB | exact Bx.cells (by assumption) | assumption) (Ext.refl _) rfl | exact PV.load1 T.na2 rfl (by first | exact Cells.up (by assumption) hB | exact Bx.cells (by assumption) | assumption) (Ext.refl _) rfl)) ?_
  refine WL.pure rfl rfl rfl ((by first | exact PV.fieldAddr T.fl29_0 rfl (by first | assumption | exact Bx.cells (by assumption)) | exact PV.fieldAddrP T.fl29_0 rfl rfl)) ?_
  refine WL.pure rfl rfl rfl ((by first | exact PV.load0 T.na2 rfl (by first | exact Cells.up (by assumption) hB | exact Bx.cells (by assumption) | assumption) (Ext.refl _) rfl | exact PV.load1 T.na2 rfl (by first | exact Cells.up (by assumption) hB | exact Bx.cells (by assumption) | assumption) (Ext.refl _) rfl)) ?_
  refine WL.pure rfl rfl rfl (PV.neq rfl rfl) ?_
  refine WL.nilS ?_
  refine CW.cond rfl (fun hc1 => ?_) (fun hc1 => ?_)
  · skip
    try simp only [decide_eq_true_eq, decide_eq_false_iff_not, Bool.not_eq_true', Bool.not_eq_false', Bool.not_eq_eq_eq_not, Bool.not_true, Bool.not_false, Int.not_lt, Int.not_le, Classical.not_not, beq_iff_eq, beq_eq_false_iff_ne] at hc1
    refine CW.seq ?_
    refine CW.reg ?_
    refine WL.pure rfl rfl rfl (PV.assign rfl) ?_
    refine WL.nilS ?_
    refine CW.ret ?_
    refine RQ.then ?_
    refine RQ.r1 rfl ?_
    refine ⟨?_, hB⟩
    first | rfl | exact bT (by omega) | exact bF (by omega) | exact bD (by omega) | exact iE (by omega) | (simp_all; done) | (simp_all; omega) | (simp_all; intros; omega)
  try simp only [decide_eq_true_eq, decide_eq_false_iff_not, Bool.not_eq_true', Bool.not_eq_false', Bool.not_eq_eq_eq_not, Bool.not_true, Bool.not_false, Int.not_lt, Int.not_le, Classical.not_not, beq_iff_eq, beq_eq_false_iff_ne] at hc1
  refine CW.skipS ?_
  refine CW.seq ?_
  refine CW.seq ?_
  refine CW.reg ?_
  refine WL.pure rfl rfl rfl ((by first | exact PV.fieldAddr T.fl29_1 rfl (by first | assumption | exact Bx.cells (by assumption)) | exact PV.fieldAddrP T.fl29_1 rfl rfl)) ?_
  refine WL.pure rfl rfl rfl ((by first | exact PV.load0 T.na2 rfl (by first | exact Cells.up (by assumption) hB | exact Bx.cells (by assumption) | assumption) (Ext.refl _) rfl | exact PV.load1 T.na2 rfl (by first | exact Cells.up (by assumption) hB | exact Bx.cells (by assumption) | assumption) (Ext.refl _) rfl)) ?_
  refine WL.pure rfl rfl rfl ((by first | exact PV.fieldAddr T.fl29_1 rfl (by first | assumption | exact Bx.cells (by assumption)) | exact PV.fieldAddrP T.fl29_1 rfl rfl)) ?_
  refine WL.pure rfl rfl rfl ((by first | exact PV.load0 T.na2 rfl (by first | exact Cells.up (by assumption) hB | exact Bx.cells (by assumption) | assumption) (Ext.refl _) rfl | exact PV.load1 T.na2 rfl (by first | exact Cells.up (by assumption) hB | exact Bx.cells (by assumption) | assumption) (Ext.refl _) rfl)) ?_
  refine WL.pure rfl rfl rfl (PV.neq rfl rfl) ?_
  refine WL.nilS ?_
  refine CW.cond rfl (fun hc2 => ?_) (fun hc2 => ?_)
  · skip
    try simp only [decide_eq_true_eq, decide_eq_false_iff_not, Bool.not_eq_true', Bool.not_eq_false', Bool.not_eq_eq_eq_not, Bool.not_true, Bool.not_false, Int.not_lt, Int.not_le, Classical.not_not, beq_iff_eq, beq_eq_false_iff_ne] at hc2
    refine CW.seq ?_
    refine CW.reg ?_
    refine WL.pure rfl rfl rfl (PV.assign rfl) ?_
    refine WL.nilS ?_
    refine CW.ret ?_
    refine RQ.then ?_
    refine RQ.r1 rfl ?_
    refine ⟨?_, hB⟩
    first | rfl | exact bT (by omega) | exact bF (by omega) | exact bD (by omega) | exact iE (by omega) | (simp_all; done) | (simp_all; omega) | (simp_all; intros; omega)
  try simp only [decide_eq_true_eq, decide_eq_false_iff_not, Bool.not_eq_true', Bool.not_eq_false', Bool.not_eq_eq_eq_not, Bool.not_true, Bool.not_false, Int.not_lt, Int.not_le, Classical.not_not, beq_iff_eq, beq_eq_false_iff_ne] at hc2
  refine CW.skipS ?_
  refine CW.seq ?_
  refine CW.seq ?_
  refine CW.reg ?_
  refine WL.pure rfl rfl rfl ((by first | exact PV.fieldAddr T.fl29_2 rfl (by first | assumption | exact Bx.cells (by assumption)) | exact PV.fieldAddrP T.fl29_2 rfl rfl)) ?_
  refine WL.pure rfl rfl rfl ((by first | exact PV.load0 T.na27 rfl (by first | exact Cells.up (by assumption) hB | exact Bx.cells (by assumption) | assumption) (Ext.refl _) rfl | exact PV.load1 T.na27 rfl (by first | exact Cells.up (by assumption) hB | exact Bx.cells (by assumption) | assumption) (Ext.refl _) rfl)) ?_
  refine WL.pure rfl rfl rfl ((by first | exact PV.fieldAddr T.fl29_2 rfl (by first | assumption | exact Bx.cells (by assumption)) | exact PV.fieldAddrP T.fl29_2 rfl rfl)) ?_
  refine WL.pure rfl rfl rfl ((by first | exact PV.load0 T.na27 rfl (by first | exact Cells.up (by assumption) hB | exact Bx.cells (by assumption) | assumption) (Ext.refl _) rfl | exact PV.load1 T.na27 rfl (by first | exact Cells.up (by assumption) hB | exact Bx.cells (by assumption) | assumption) (Ext.refl _) rfl)) ?_
  refine WL.op rfl (OpK.callR rfl T.cf56 rfl (c_laws_eqRuleS (by first | assumption | exact Rd.up (by assumption) hB | exact Osl.rd (by assumption) | exact Osn.rdR (by assumption)) (by first | assumption | exact Rd.up (by assumption) hB | exact Osl.rd (by assumption) | exact Osn.rdR (by assumption))) (fun w3 hXw3 => ?_))
  have hB := hB.trans hXw3
  have hb1 := hb1.up hXw3
  have hb2 := hb2.up hXw3
  refine WL.pure rfl rfl rfl (PV.not rfl) ?_
  refine WL.nilS ?_
  refine CW.cond rfl (fun hc3 => ?_) (fun hc3 => ?_)
  · skip
    try simp only [decide_eq_true_eq, decide_eq_false_iff_not, Bool.not_eq_true', Bool.not_eq_false', Bool.not_eq_eq_eq_not, Bool.not_true, Bool.not_false, Int.not_lt, Int.not_le, Classical.not_not, beq_iff_eq, beq_eq_false_iff_ne] at hc3
    refine CW.seq ?_
    refine CW.reg ?_
    refine WL.pure rfl rfl rfl (PV.assign rfl) ?_
    refine WL.nilS ?_
    refine CW.ret ?_
    refine RQ.then ?_
    refine RQ.r1 rfl ?_
    refine ⟨?_, hB⟩
    first | rfl | exact bT (by omega) | exact bF (by omega) | exact bD (by omega) | exact iE (by omega) | (simp_all; done) | (simp_all; omega) | (simp_all; intros; omega)
  try simp only [decide_eq_true_eq, decide_eq_false_iff_not, Bool.not_eq_true', Bool.not_eq_false', Bool.not_eq_eq_eq_not, Bool.not_true, Bool.not_false, Int.not_lt, Int.not_le, Classical.not_not, beq_iff_eq, beq_eq_false_iff_ne] at hc3
  refine CW.skipS ?_
  refine CW.seq ?_
  refine CW.reg ?_
  refine WL.pure rfl rfl rfl (PV.assign rfl) ?_
  refine WL.nilS ?_
  refine CW.ret ?_
  refine RQ.r1 rfl ?_
  refine ⟨?_, hB⟩
  first | rfl | exact bT (by omega) | exact bF (by omega) | exact bD (by omega) | exact iE (by omega) | (simp_all; done) | (simp_all; omega) | (simp_all; intros; omega)
theorem c_laws_markRuleS {w : World} {va : Value} {og : Option Nat} {xs : List R4} {k : Int} (ho : Osn 4 gR w og va xs) (hk : 0 ≤ k ∧ k + 4 * xs.length ≤ 9223372036854775807) : Calls Try.prog 59 #[va, .int .i64 k] w (Ret1 (fun v w' => v = .int .i64 (k + 4 * xs.length) ∧ UpdL [og] w w' ∧ Osn 4 gR w' og va (marksR k xs.length))) := by
  refine callsOf (vs := [_, _]) Try.func59 rfl Try.ntmps59 rfl rfl ?_
  have hUB : UpdL [og] w w := UpdL.refl _ _
  have ho1 : Osn 4 gR w og va (xs) := by assumption
  have hkB_1 : OkB [og] w og := OkB.mem (by simp)
  have hgB_1 := OgR.refl w og
  refine CW.seq ?_
  refine CW.reg ?_
  refine WL.pure rfl rfl rfl (PV.assign rfl) ?_
  refine WL.nilS ?_
  refine CW.seq ?_
  refine CW.seq ?_
  refine CW.reg ?_
  refine WL.pure rfl rfl rfl (PV.assign rfl) ?_
  refine WL.nilS ?_
  refine CW.block ?_
  have hlt1 := ho1.ltO
  refine CW.loop (σk := [(0, _)]) (fun ρ wz m => ∃ (i : Nat), ρ = [(1, .int .i64 (k + 4 * (i : Nat))), (5, .int .i64 (i : Nat))] ∧ m = xs.length - i ∧ UpdL [og] w wz ∧ Osn 4 gR wz og va (marksR k i ++ xs.drop i) ∧ (i ≤ xs.length)) (ρ₀ := [(1, _), (5, _)]) (m₀ := _) ⟨rfl, rfl, rfl, trivial⟩ ⟨0, (by simp), rfl, (UpdL.refl _ _), osnE ho1 (by exact marksR_zero _ _), (by first | omega | rfl | (simp; done) | assumption | (simp_all; done))⟩ ?_
  rintro _ wl1 _ ⟨i, rfl, rfl, hU0, ho1, hi⟩
  have hUB := hUB.trans hU0 ⟨hkB_1, trivial⟩
  have hk0_1 : OkB [og] w og := OkB.mem (by simp)
  have hll : (marksR k i ++ xs.drop i).length = xs.length := by rw [List.length_append, marksR_len, List.length_drop]; omega
  refine CW.seq ?_
  refine CW.seq ?_
  refine CW.reg ?_
  refine WL.pure rfl rfl rfl (PV.move rfl) ?_
  refine WL.pure rfl rfl rfl (PV.move rfl) ?_
  refine WL.pure rfl rfl rfl ((PV.lenOsn rfl ho1 T.sl27)) ?_
  refine WL.pure rfl rfl rfl (PV.lss rfl rfl) ?_
  refine WL.nilS ?_
  refine CW.cond rfl (fun hc1 => ?_) (fun hc1 => ?_)
  · skip
    try simp only [decide_eq_true_eq, decide_eq_false_iff_not, Bool.not_eq_true', Bool.not_eq_false', Bool.not_eq_eq_eq_not, Bool.not_true, Bool.not_false, Int.not_lt, Int.not_le, Classical.not_not, beq_iff_eq, beq_eq_false_iff_ne] at hc1
    refine CW.skipS ?_
    refine CW.seq ?_
    refine CW.block ?_
    refine CW.seq ?_
    refine CW.reg ?_
    refine WL.pure rfl rfl rfl (PV.move rfl) ?_
    refine WL.pure rfl rfl rfl (PV.move rfl) ?_
    refine WL.pure rfl rfl rfl (PV.move rfl) ?_
    have hrdp1 := ho1.rdR
    first
      | refine WL.at (x := .tmp 12) (y := .tmp 13) (E := ER) ((0, 0, 0, 0)) rfl rfl hrdp1 (by first | omega | (simp; omega) | (simp_all; omega)) (fun p1 csp1 hpp1 hcp1 hq => ?_)
      | refine WL.atZ (x := .tmp 12) (y := .tmp 13) (E := ER) ((0, 0, 0, 0)) rfl rfl hrdp1 (by first | omega | (simp; omega) | (simp_all; omega)) (fun p1 csp1 hpp1 hzp1 hcp1 hq => ?_)
    cases hq
    refine WL.pure rfl rfl rfl ((by first | exact PV.indexAddr hpp1 rfl rfl T.sl27 | exact PV.indexAddr hpp1 rfl (by rw [← hzp1]; rfl) T.sl27)) ?_
    refine WL.pure rfl rfl rfl ((by first | exact PV.fieldAddr T.fl67_0 rfl (by first | assumption | exact Bx.cells (by assumption)) | exact PV.fieldAddrP T.fl67_0 rfl rfl)) ?_
    refine WL.op rfl (OpK.storeF (g := gR) (setR0 _ _) (0, 0, 0, 0) T.sz2 rfl rfl rfl rfl (gR_set0 _ _) hpp1 ho1 (fun w1 hXw1 ho1 => ?_))
    have hUB := hUB.step hXw1 hkB_1
    have hU0 := hU0.step hXw1 hk0_1
    refine WL.nilS ?_
    refine CW.seq ?_
    refine CW.reg ?_
    refine WL.pure rfl rfl rfl (PV.move rfl) ?_
    refine WL.pure rfl rfl rfl (PV.add rfl rfl (by constructor <;> omega)) ?_
    refine WL.pure rfl rfl rfl (PV.assign rfl) ?_
    refine WL.nilS ?_
    refine CW.seq ?_
    refine CW.reg ?_
    refine WL.pure rfl rfl rfl (PV.move rfl) ?_
    refine WL.pure rfl rfl rfl (PV.move rfl) ?_
    refine WL.pure rfl rfl rfl (PV.move rfl) ?_
    have hrdp2 := ho1.rdR
    first
      | refine WL.at (x := .tmp 19) (y := .tmp 20) (E := ER) ((0, 0, 0, 0)) rfl rfl hrdp2 (by rw [List.length_set]; omega) (fun p2 csp2 hpp2 hcp2 hq => ?_)
      | refine WL.atZ (x := .tmp 19) (y := .tmp 20) (E := ER) ((0, 0, 0, 0)) rfl rfl hrdp2 (by rw [List.length_set]; omega) (fun p2 csp2 hpp2 hzp2 hcp2 hq => ?_)
    cases hq
    refine WL.pure rfl rfl rfl ((by first | exact PV.indexAddr hpp2 rfl rfl T.sl27 | exact PV.indexAddr hpp2 rfl (by rw [← hzp2]; rfl) T.sl27)) ?_
    refine WL.pure rfl rfl rfl ((by first | exact PV.fieldAddr T.fl67_1 rfl (by first | assumption | exact Bx.cells (by assumption)) | exact PV.fieldAddrP T.fl67_1 rfl rfl)) ?_
    refine WL.op rfl (OpK.storeF (g := gR) (setR1 _ _) (0, 0, 0, 0) T.sz2 rfl rfl rfl rfl (gR_set1 _ _) hpp2 ho1 (fun w2 hXw2 ho1 => ?_))
    have hUB := hUB.step hXw2 hkB_1
    have hU0 := hU0.step hXw2 hk0_1
    refine WL.nilS ?_
    refine CW.seq ?_
    refine CW.reg ?_
    refine WL.pure rfl rfl rfl (PV.move rfl) ?_
    refine WL.pure rfl rfl rfl (PV.add rfl rfl (by constructor <;> omega)) ?_
    refine WL.pure rfl rfl rfl (PV.assign rfl) ?_
    refine WL.nilS ?_
    refine CW.seq ?_
    refine CW.reg ?_
    refine WL.pure rfl rfl rfl (PV.move rfl) ?_
    refine WL.pure rfl rfl rfl (PV.move rfl) ?_
    refine WL.pure rfl rfl rfl (PV.move rfl) ?_
    have hrdp3 := ho1.rdR
    first
      | refine WL.at (x := .tmp 26) (y := .tmp 27) (E := ER) ((0, 0, 0, 0)) rfl rfl hrdp3 (by rw [List.length_set, List.length_set]; omega) (fun p3 csp3 hpp3 hcp3 hq => ?_)
      | refine WL.atZ (x := .tmp 26) (y := .tmp 27) (E := ER) ((0, 0, 0, 0)) rfl rfl hrdp3 (by rw [List.length_set, List.length_set]; omega) (fun p3 csp3 hpp3 hzp3 hcp3 hq => ?_)
    cases hq
    refine WL.pure rfl rfl rfl ((by first | exact PV.indexAddr hpp3 rfl rfl T.sl27 | exact PV.indexAddr hpp3 rfl (by rw [← hzp3]; rfl) T.sl27)) ?_
    refine WL.pure rfl rfl rfl ((by first | exact PV.fieldAddr T.fl67_2 rfl (by first | assumption | exact Bx.cells (by assumption)) | exact PV.fieldAddrP T.fl67_2 rfl rfl)) ?_
    refine WL.op rfl (OpK.storeF (g := gR) (setR2 _ _) (0, 0, 0, 0) T.sz2 rfl rfl rfl rfl (gR_set2 _ _) hpp3 ho1 (fun w3 hXw3 ho1 => ?_))
    have hUB := hUB.step hXw3 hkB_1
    have hU0 := hU0.step hXw3 hk0_1
    refine WL.nilS ?_
    refine CW.seq ?_
    refine CW.reg ?_
    refine WL.pure rfl rfl rfl (PV.move rfl) ?_
    refine WL.pure rfl rfl rfl (PV.add rfl rfl (by constructor <;> omega)) ?_
    refine WL.pure rfl rfl rfl (PV.assign rfl) ?_
    refine WL.nilS ?_
    refine CW.seq ?_
    refine CW.reg ?_
    refine WL.pure rfl rfl rfl (PV.move rfl) ?_
    refine WL.pure rfl rfl rfl (PV.move rfl) ?_
    refine WL.pure rfl rfl rfl (PV.move rfl) ?_
    have hrdp4 := ho1.rdR
    first
      | refine WL.at (x := .tmp 33) (y := .tmp 34) (E := ER) ((0, 0, 0, 0)) rfl rfl hrdp4 (by rw [List.length_set, List.length_set, List.length_set]; omega) (fun p4 csp4 hpp4 hcp4 hq => ?_)
      | refine WL.atZ (x := .tmp 33) (y := .tmp 34) (E := ER) ((0, 0, 0, 0)) rfl rfl hrdp4 (by rw [List.length_set, List.length_set, List.length_set]; omega) (fun p4 csp4 hpp4 hzp4 hcp4 hq => ?_)
    cases hq
    refine WL.pure rfl rfl rfl ((by first | exact PV.indexAddr hpp4 rfl rfl T.sl27 | exact PV.indexAddr hpp4 rfl (by rw [← hzp4]; rfl) T.sl27)) ?_
    refine WL.pure rfl rfl rfl ((by first | exact PV.fieldAddr T.fl67_3 rfl (by first | assumption | exact Bx.cells (by assumption)) | exact PV.fieldAddrP T.fl67_3 rfl rfl)) ?_
    refine WL.op rfl (OpK.storeF (g := gR) (setR3 _ _) (0, 0, 0, 0) T.sz2 rfl rfl rfl rfl (gR_set3 _ _) hpp4 ho1 (fun w4 hXw4 ho1 => ?_))
    have hUB := hUB.step hXw4 hkB_1
    have hU0 := hU0.step hXw4 hk0_1
    refine WL.nilS ?_
    refine CW.reg ?_
    refine WL.pure rfl rfl rfl (PV.move rfl) ?_
    refine WL.pure rfl rfl rfl (PV.add rfl rfl (by constructor <;> omega)) ?_
    refine WL.pure rfl rfl rfl (PV.assign rfl) ?_
    refine WL.nil ?_
    refine NQ.block ?_
    refine NQ.then ?_
    refine CW.reg ?_
    refine WL.pure rfl rfl rfl (PV.move rfl) ?_
    refine WL.pure rfl rfl rfl (PV.add rfl rfl (by constructor <;> omega)) ?_
    refine WL.pure rfl rfl rfl (PV.assign rfl) ?_
    refine WL.nil ?_
    refine NQ.next (ρ := [(1, _), (5, _)]) ⟨rfl, rfl, rfl, trivial⟩ ?_
    exact ⟨_, ⟨i + 1, (by simp; omega), rfl, hU0, osnE ho1 (by rw [set4 (by omega)]; exact marksR_put (by omega)), (by first | omega | assumption | (simp_all; done) | (simp_all; omega))⟩, by omega⟩
  try simp only [decide_eq_true_eq, decide_eq_false_iff_not, Bool.not_eq_true', Bool.not_eq_false', Bool.not_eq_eq_eq_not, Bool.not_true, Bool.not_false, Int.not_lt, Int.not_le, Classical.not_not, beq_iff_eq, beq_eq_false_iff_ne] at hc1
  refine CW.exit ?_
  refine XQ.then ?_
  refine XQ.then ?_
  refine XQ.here ?_
  refine NQ.then ?_
  refine CW.seq ?_
  refine CW.reg ?_
  refine WL.pure rfl rfl rfl (PV.move rfl) ?_
  refine WL.pure rfl rfl rfl (PV.assign rfl) ?_
  refine WL.nilS ?_
  refine CW.ret ?_
  refine RQ.r1 rfl ?_
  refine ⟨?_, hUB, osnE ho1 ?_⟩
  · skip
    exact iE (by omega)
  · skip
    exact marksR_done (by omega) hi
theorem c_laws_markGrammar {w : World} {a0 : Int} {a1 : Int} {va2 : Value} {xa2 : List R4} {oga2 : Option Nat} {k : Int} (ho2 : Osn 4 gR w oga2 va2 xa2) (hk : 0 ≤ k ∧ k + 4 * xa2.length ≤ 9223372036854775807) : Calls Try.prog 24 #[.agg #[.int .i64 a0, .int .i64 a1, va2], .int .i64 k] w (Ret1 (fun v w' => v = .int .i64 (k + 4 * xa2.length) ∧ UpdL [oga2] w w' ∧ Osn 4 gR w' oga2 va2 (marksR k xa2.length))) := by
  refine callsOf (vs := [_, _]) Try.func24 rfl Try.ntmps24 rfl rfl ?_
  have hUB : UpdL [oga2] w w := UpdL.refl _ _
  have ho1 : Osn 4 gR w oga2 va2 (xa2) := by assumption
  have hkB_1 : OkB [oga2] w oga2 := OkB.mem (by simp)
  have hgB_1 := OgR.refl w oga2
  refine CW.seq ?_
  refine CW.reg ?_
  refine WL.op rfl (OpK.box rfl rfl (by first | rfl | exact Rd.cells1 (by assumption) | exact Osl.cells1 (by assumption) | exact Osn.cells1 (by assumption)) (fun b2 w1 hXw1 hb2 hge2 => ?_))
  have hd1_2 := Dj.new ho1.ltO hge2
  have hkB_2 := OkN.new hUB hge2
  have hgB_2 := OgR.new hUB.size hge2
  have ho1 := ho1.up hXw1
  have hUB := hUB.ext hXw1
  refine WL.pure rfl rfl rfl (PV.assign rfl) ?_
  refine WL.nilS ?_
  refine CW.seq ?_
  refine CW.reg ?_
  refine WL.pure rfl rfl rfl ((by first | exact PV.fieldAddr T.fl29_2 rfl (by first | assumption | exact Bx.cells (by assumption)) | exact PV.fieldAddrP T.fl29_2 rfl rfl)) ?_
  refine WL.pure rfl rfl rfl ((by first | exact PV.load0 T.na27 rfl (by first | exact Cells.up (by assumption) hB | exact Bx.cells (by assumption) | assumption) (Ext.refl _) rfl | exact PV.load1 T.na27 rfl (by first | exact Cells.up (by assumption) hB | exact Bx.cells (by assumption) | assumption) (Ext.refl _) rfl)) ?_
  refine WL.pure rfl rfl rfl (PV.move rfl) ?_
  refine WL.op rfl (OpK.call rfl T.cf59 rfl (c_laws_markRuleS (by first | assumption | exact Dj.symm (by assumption)) (by first | assumption | omega | (simp only [marks_len, marksB_len, marksR_len]; omega))) (fun rv1 w2 hR => ?_))
  obtain ⟨rfl, hUC3, ho1⟩ := hR
  have hUB := hUB.trans hUC3 ⟨hkB_1, trivial⟩
  have hb2 := hb2.loop hUC3 ⟨(Dj.symm hd1_2), trivial⟩
  refine WL.pure rfl rfl rfl (PV.assign rfl) ?_
  refine WL.nilS ?_
  refine CW.seq ?_
  refine CW.reg ?_
  refine WL.pure rfl rfl rfl (PV.move rfl) ?_
  refine WL.pure rfl rfl rfl (PV.assign rfl) ?_
  refine WL.nilS ?_
  refine CW.ret ?_
  refine RQ.r1 rfl ?_
  refine ⟨?_, hUB, osnE ho1 ?_⟩
  · skip
    rfl
  · skip
    rfl
theorem c_laws_heldRuleS {w : World} {va : Value} {xs : List R4} {k : Int} (ha : Rd ER w va xs) (hk : 0 ≤ k ∧ k + 4 * xs.length ≤ 9223372036854775807) : Calls Try.prog 60 #[va, .int .i64 k] w (Ret1 (RQt (.int .i64 (if xs = marksR k xs.length then k + 4 * xs.length else -1)) w)) := by
  have hB : Ext w w := Ext.refl w
  have hla := ha.leI
  refine callsOf (vs := [_, _]) Try.func60 rfl Try.ntmps60 rfl rfl ?_
  refine CW.seq ?_
  refine CW.reg ?_
  refine WL.pure rfl rfl rfl (PV.assign rfl) ?_
  refine WL.nilS ?_
  refine CW.seq ?_
  refine CW.seq ?_
  refine CW.reg ?_
  refine WL.pure rfl rfl rfl (PV.assign rfl) ?_
  refine WL.nilS ?_
  refine CW.block ?_
  refine CW.loop (σk := [(0, _)]) (fun ρ wz m => ∃ (i : Nat), ρ = [(1, .int .i64 (k + 4 * (i : Nat))), (5, .int .i64 (i : Nat))] ∧ m = xs.length - i ∧ UpdL [] w wz ∧ (i ≤ xs.length) ∧ (xs.take i = marksR k i)) (ρ₀ := [(1, _), (5, _)]) (m₀ := _) ⟨rfl, rfl, rfl, trivial⟩ ⟨0, (by simp), rfl, (UpdL.refl _ _), (by first | omega | rfl | (simp; done) | assumption | (simp_all; done)), (by simp [marksR])⟩ ?_
  rintro _ wl1 _ ⟨i, rfl, rfl, hU0, hi, he⟩
  have hB := hB.loop hU0 trivial
  refine CW.seq ?_
  refine CW.seq ?_
  refine CW.reg ?_
  refine WL.pure rfl rfl rfl (PV.move rfl) ?_
  refine WL.pure rfl rfl rfl (PV.move rfl) ?_
  refine WL.pure rfl rfl rfl ((by first | exact PV.len rfl (by assumption) T.sl27 | exact PV.lenOs rfl (by assumption) T.sl27)) ?_
  refine WL.pure rfl rfl rfl (PV.lss rfl rfl) ?_
  refine WL.nilS ?_
  refine CW.cond rfl (fun hc1 => ?_) (fun hc1 => ?_)
  · skip
    try simp only [decide_eq_true_eq, decide_eq_false_iff_not, Bool.not_eq_true', Bool.not_eq_false', Bool.not_eq_eq_eq_not, Bool.not_true, Bool.not_false, Int.not_lt, Int.not_le, Classical.not_not, beq_iff_eq, beq_eq_false_iff_ne] at hc1
    refine CW.skipS ?_
    refine CW.seq ?_
    refine CW.block ?_
    refine CW.seq ?_
    refine CW.seq ?_
    refine CW.reg ?_
    refine WL.pure rfl rfl rfl (PV.move rfl) ?_
    refine WL.pure rfl rfl rfl (PV.move rfl) ?_
    first
      | refine WL.at (x := .tmp 12) (y := .tmp 13) (E := ER) ((0, 0, 0, 0)) rfl rfl (by assumption) (by first | omega | (simp; omega) | (simp_all; omega)) (fun p1 csp1 hpp1 hcp1 hq => ?_)
      | refine WL.atZ (x := .tmp 12) (y := .tmp 13) (E := ER) ((0, 0, 0, 0)) rfl rfl (by assumption) (by first | omega | (simp; omega) | (simp_all; omega)) (fun p1 csp1 hpp1 hzp1 hcp1 hq => ?_)
    cases hq
    refine WL.pure rfl rfl rfl ((by first | exact PV.indexAddr hpp1 rfl rfl T.sl27 | exact PV.indexAddr hpp1 rfl (by rw [← hzp1]; rfl) T.sl27)) ?_
    refine WL.pure rfl rfl rfl ((by first | exact PV.fieldAddr T.fl67_0 rfl (by first | assumption | exact Bx.cells (by assumption)) | exact PV.fieldAddrP T.fl67_0 rfl rfl)) ?_
    refine WL.pure rfl rfl rfl ((by first | exact PV.load0 T.na2 rfl (by first | exact Cells.up (by assumption) hB | exact Bx.cells (by assumption) | assumption) (Ext.refl _) rfl | exact PV.load1 T.na2 rfl (by first | exact Cells.up (by assumption) hB | exact Bx.cells (by assumption) | assumption) (Ext.refl _) rfl)) ?_
    refine WL.pure rfl rfl rfl (PV.move rfl) ?_
    refine WL.pure rfl rfl rfl (PV.neq rfl rfl) ?_
    refine WL.nilS ?_
    refine CW.cond rfl (fun hc2 => ?_) (fun hc2 => ?_)
    · skip
      try simp only [decide_eq_true_eq, decide_eq_false_iff_not, Bool.not_eq_true', Bool.not_eq_false', Bool.not_eq_eq_eq_not, Bool.not_true, Bool.not_false, Int.not_lt, Int.not_le, Classical.not_not, beq_iff_eq, beq_eq_false_iff_ne] at hc2
      refine CW.seq ?_
      refine CW.reg ?_
      refine WL.pure rfl rfl rfl (PV.assign rfl) ?_
      refine WL.nilS ?_
      refine CW.ret ?_
      refine RQ.then ?_
      refine RQ.block ?_
      refine RQ.then ?_
      refine RQ.then ?_
      refine RQ.block ?_
      refine RQ.then ?_
      refine RQ.r1 rfl ?_
      refine ⟨?_, hB⟩
      first | (rw [if_neg (marksR_bad (i := i) (by omega) (fun h9 => by first | exact absurd (congrArg (fun r : R4 => r.1) h9) (by assumption) | exact absurd (congrArg (fun r : R4 => r.2.1) h9) (by assumption) | exact absurd (congrArg (fun r : R4 => r.2.2.1) h9) (by assumption) | exact absurd (congrArg (fun r : R4 => r.2.2.2) h9) (by assumption)))]) | (rw [if_pos (marksR_eq (i := i) (by omega) (by omega) he)]; exact iE (by omega))
    try simp only [decide_eq_true_eq, decide_eq_false_iff_not, Bool.not_eq_true', Bool.not_eq_false', Bool.not_eq_eq_eq_not, Bool.not_true, Bool.not_false, Int.not_lt, Int.not_le, Classical.not_not, beq_iff_eq, beq_eq_false_iff_ne] at hc2
    refine CW.skipS ?_
    refine CW.seq ?_
    refine CW.reg ?_
    refine WL.pure rfl rfl rfl (PV.move rfl) ?_
    refine WL.pure rfl rfl rfl (PV.add rfl rfl (by constructor <;> omega)) ?_
    refine WL.pure rfl rfl rfl (PV.assign rfl) ?_
    refine WL.nilS ?_
    refine CW.seq ?_
    refine CW.seq ?_
    refine CW.reg ?_
    refine WL.pure rfl rfl rfl (PV.move rfl) ?_
    refine WL.pure rfl rfl rfl (PV.move rfl) ?_
    first
      | refine WL.at (x := .tmp 21) (y := .tmp 22) (E := ER) ((0, 0, 0, 0)) rfl rfl (by assumption) (by first | omega | (simp; omega) | (simp_all; omega)) (fun p2 csp2 hpp2 hcp2 hq => ?_)
      | refine WL.atZ (x := .tmp 21) (y := .tmp 22) (E := ER) ((0, 0, 0, 0)) rfl rfl (by assumption) (by first | omega | (simp; omega) | (simp_all; omega)) (fun p2 csp2 hpp2 hzp2 hcp2 hq => ?_)
    cases hq
    refine WL.pure rfl rfl rfl ((by first | exact PV.indexAddr hpp2 rfl rfl T.sl27 | exact PV.indexAddr hpp2 rfl (by rw [← hzp2]; rfl) T.sl27)) ?_
    refine WL.pure rfl rfl rfl ((by first | exact PV.fieldAddr T.fl67_1 rfl (by first | assumption | exact Bx.cells (by assumption)) | exact PV.fieldAddrP T.fl67_1 rfl rfl)) ?_
    refine WL.pure rfl rfl rfl ((by first | exact PV.load0 T.na2 rfl (by first | exact Cells.up (by assumption) hB | exact Bx.cells (by assumption) | assumption) (Ext.refl _) rfl | exact PV.load1 T.na2 rfl (by first | exact Cells.up (by assumption) hB | exact Bx.cells (by assumption) | assumption) (Ext.refl _) rfl)) ?_
    refine WL.pure rfl rfl rfl (PV.move rfl) ?_
    refine WL.pure rfl rfl rfl (PV.neq rfl rfl) ?_
    refine WL.nilS ?_
    refine CW.cond rfl (fun hc3 => ?_) (fun hc3 => ?_)
    · skip
      try simp only [decide_eq_true_eq, decide_eq_false_iff_not, Bool.not_eq_true', Bool.not_eq_false', Bool.not_eq_eq_eq_not, Bool.not_true, Bool.not_false, Int.not_lt, Int.not_le, Classical.not_not, beq_iff_eq, beq_eq_false_iff_ne] at hc3
      refine CW.seq ?_
      refine CW.reg ?_
      refine WL.pure rfl rfl rfl (PV.assign rfl) ?_
      refine WL.nilS ?_
      refine CW.ret ?_
      refine RQ.then ?_
      refine RQ.block ?_
      refine RQ.then ?_
      refine RQ.then ?_
      refine RQ.block ?_
      refine RQ.then ?_
      refine RQ.r1 rfl ?_
      refine ⟨?_, hB⟩
      first | (rw [if_neg (marksR_bad (i := i) (by omega) (fun h9 => by first | exact absurd (congrArg (fun r : R4 => r.1) h9) (by assumption) | exact absurd (congrArg (fun r : R4 => r.2.1) h9) (by assumption) | exact absurd (congrArg (fun r : R4 => r.2.2.1) h9) (by assumption) | exact absurd (congrArg (fun r : R4 => r.2.2.2) h9) (by assumption)))]) | (rw [if_pos (marksR_eq (i := i) (by omega) (by omega) he)]; exact iE (by omega))
    try simp only [decide_eq_true_eq, decide_eq_false_iff_not, Bool.not_eq_true', Bool.not_eq_false', Bool.not_eq_eq_eq_not, Bool.not_true, Bool.not_false, Int.not_lt, Int.not_le, Classical.not_not, beq_iff_eq, beq_eq_false_iff_ne] at hc3
    refine CW.skipS ?_
    refine CW.seq ?_
    refine CW.reg ?_
    refine WL.pure rfl rfl rfl (PV.move rfl) ?_
    refine WL.pure rfl rfl rfl (PV.add rfl rfl (by constructor <;> omega)) ?_
    refine WL.pure rfl rfl rfl (PV.assign rfl) ?_
    refine WL.nilS ?_
    refine CW.seq ?_
    refine CW.seq ?_
    refine CW.reg ?_
    refine WL.pure rfl rfl rfl (PV.move rfl) ?_
    refine WL.pure rfl rfl rfl (PV.move rfl) ?_
    first
      | refine WL.at (x := .tmp 30) (y := .tmp 31) (E := ER) ((0, 0, 0, 0)) rfl rfl (by assumption) (by first | omega | (simp; omega) | (simp_all; omega)) (fun p3 csp3 hpp3 hcp3 hq => ?_)
      | refine WL.atZ (x := .tmp 30) (y := .tmp 31) (E := ER) ((0, 0, 0, 0)) rfl rfl (by assumption) (by first | omega | (simp; omega) | (simp_all; omega)) (fun p3 csp3 hpp3 hzp3 hcp3 hq => ?_)
    cases hq
    refine WL.pure rfl rfl rfl ((by first | exact PV.indexAddr hpp3 rfl rfl T.sl27 | exact PV.indexAddr hpp3 rfl (by rw [← hzp3]; rfl) T.sl27)) ?_
    refine WL.pure rfl rfl rfl ((by first | exact PV.fieldAddr T.fl67_2 rfl (by first | assumption | exact Bx.cells (by assumption)) | exact PV.fieldAddrP T.fl67_2 rfl rfl)) ?_
    refine WL.pure rfl rfl rfl ((by first | exact PV.load0 T.na2 rfl (by first | exact Cells.up (by assumption) hB | exact Bx.cells (by assumption) | assumption) (Ext.refl _) rfl | exact PV.load1 T.na2 rfl (by first | exact Cells.up (by assumption) hB | exact Bx.cells (by assumption) | assumption) (Ext.refl _) rfl)) ?_
    refine WL.pure rfl rfl rfl (PV.move rfl) ?_
    refine WL.pure rfl rfl rfl (PV.neq rfl rfl) ?_
    refine WL.nilS ?_
    refine CW.cond rfl (fun hc4 => ?_) (fun hc4 => ?_)
    · skip
      try simp only [decide_eq_true_eq, decide_eq_false_iff_not, Bool.not_eq_true', Bool.not_eq_false', Bool.not_eq_eq_eq_not, Bool.not_true, Bool.not_false, Int.not_lt, Int.not_le, Classical.not_not, beq_iff_eq, beq_eq_false_iff_ne] at hc4
      refine CW.seq ?_
      refine CW.reg ?_
      refine WL.pure rfl rfl rfl (PV.assign rfl) ?_
      refine WL.nilS ?_
      refine CW.ret ?_
      refine RQ.then ?_
      refine RQ.block ?_
      refine RQ.then ?_
      refine RQ.then ?_
      refine RQ.block ?_
      refine RQ.then ?_
      refine RQ.r1 rfl ?_
      refine ⟨?_, hB⟩
      first | (rw [if_neg (marksR_bad (i := i) (by omega) (fun h9 => by first | exact absurd (congrArg (fun r : R4 => r.1) h9) (by assumption) | exact absurd (congrArg (fun r : R4 => r.2.1) h9) (by assumption) | exact absurd (congrArg (fun r : R4 => r.2.2.1) h9) (by assumption) | exact absurd (congrArg (fun r : R4 => r.2.2.2) h9) (by assumption)))]) | (rw [if_pos (marksR_eq (i := i) (by omega) (by omega) he)]; exact iE (by omega))
    try simp only [decide_eq_true_eq, decide_eq_false_iff_not, Bool.not_eq_true', Bool.not_eq_false', Bool.not_eq_eq_eq_not, Bool.not_true, Bool.not_false, Int.not_lt, Int.not_le, Classical.not_not, beq_iff_eq, beq_eq_false_iff_ne] at hc4
    refine CW.skipS ?_
    refine CW.seq ?_
    refine CW.reg ?_
    refine WL.pure rfl rfl rfl (PV.move rfl) ?_
    refine WL.pure rfl rfl rfl (PV.add rfl rfl (by constructor <;> omega)) ?_
    refine WL.pure rfl rfl rfl (PV.assign rfl) ?_
    refine WL.nilS ?_
    refine CW.seq ?_
    refine CW.seq ?_
    refine CW.reg ?_
    refine WL.pure rfl rfl rfl (PV.move rfl) ?_
    refine WL.pure rfl rfl rfl (PV.move rfl) ?_
    first
      | refine WL.at (x := .tmp 39) (y := .tmp 40) (E := ER) ((0, 0, 0, 0)) rfl rfl (by assumption) (by first | omega | (simp; omega) | (simp_all; omega)) (fun p4 csp4 hpp4 hcp4 hq => ?_)
      | refine WL.atZ (x := .tmp 39) (y := .tmp 40) (E := ER) ((0, 0, 0, 0)) rfl rfl (by assumption) (by first | omega | (simp; omega) | (simp_all; omega)) (fun p4 csp4 hpp4 hzp4 hcp4 hq => ?_)
    cases hq
    refine WL.pure rfl rfl rfl ((by first | exact PV.indexAddr hpp4 rfl rfl T.sl27 | exact PV.indexAddr hpp4 rfl (by rw [← hzp4]; rfl) T.sl27)) ?_
    refine WL.pure rfl rfl rfl ((by first | exact PV.fieldAddr T.fl67_3 rfl (by first | assumption | exact Bx.cells (by assumption)) | exact PV.fieldAddrP T.fl67_3 rfl rfl)) ?_
    refine WL.pure rfl rfl rfl ((by first | exact PV.load0 T.na2 rfl (by first | exact Cells.up (by assumption) hB | exact Bx.cells (by assumption) | assumption) (Ext.refl _) rfl | exact PV.load1 T.na2 rfl (by first | exact Cells.up (by assumption) hB | exact Bx.cells (by assumption) | assumption) (Ext.refl _) rfl)) ?_
    refine WL.pure rfl rfl rfl (PV.move rfl) ?_
    refine WL.pure rfl rfl rfl (PV.neq rfl rfl) ?_
    refine WL.nilS ?_
    refine CW.cond rfl (fun hc5 => ?_) (fun hc5 => ?_)
    · skip
      try simp only [decide_eq_true_eq, decide_eq_false_iff_not, Bool.not_eq_true', Bool.not_eq_false', Bool.not_eq_eq_eq_not, Bool.not_true, Bool.not_false, Int.not_lt, Int.not_le, Classical.not_not, beq_iff_eq, beq_eq_false_iff_ne] at hc5
      refine CW.seq ?_
      refine CW.reg ?_
      refine WL.pure rfl rfl rfl (PV.assign rfl) ?_
      refine WL.nilS ?_
      refine CW.ret ?_
      refine RQ.then ?_
      refine RQ.block ?_
      refine RQ.then ?_
      refine RQ.then ?_
      refine RQ.block ?_
      refine RQ.then ?_
      refine RQ.r1 rfl ?_
      refine ⟨?_, hB⟩
      first | (rw [if_neg (marksR_bad (i := i) (by omega) (fun h9 => by first | exact absurd (congrArg (fun r : R4 => r.1) h9) (by assumption) | exact absurd (congrArg (fun r : R4 => r.2.1) h9) (by assumption) | exact absurd (congrArg (fun r : R4 => r.2.2.1) h9) (by assumption) | exact absurd (congrArg (fun r : R4 => r.2.2.2) h9) (by assumption)))]) | (rw [if_pos (marksR_eq (i := i) (by omega) (by omega) he)]; exact iE (by omega))
    try simp only [decide_eq_true_eq, decide_eq_false_iff_not, Bool.not_eq_true', Bool.not_eq_false', Bool.not_eq_eq_eq_not, Bool.not_true, Bool.not_false, Int.not_lt, Int.not_le, Classical.not_not, beq_iff_eq, beq_eq_false_iff_ne] at hc5
    refine CW.skipS ?_
    refine CW.reg ?_
    refine WL.pure rfl rfl rfl (PV.move rfl) ?_
    refine WL.pure rfl rfl rfl (PV.add rfl rfl (by constructor <;> omega)) ?_
    refine WL.pure rfl rfl rfl (PV.assign rfl) ?_
    refine WL.nil ?_
    refine NQ.block ?_
    refine NQ.then ?_
    refine CW.reg ?_
    refine WL.pure rfl rfl rfl (PV.move rfl) ?_
    refine WL.pure rfl rfl rfl (PV.add rfl rfl (by constructor <;> omega)) ?_
    refine WL.pure rfl rfl rfl (PV.assign rfl) ?_
    refine WL.nil ?_
    refine NQ.next (ρ := [(1, _), (5, _)]) ⟨rfl, rfl, rfl, trivial⟩ ?_
    exact ⟨_, ⟨i + 1, (by simp; omega), rfl, hU0, (by first | omega | assumption | (simp_all; done) | (simp_all; omega)), (by exact marksR_step (by omega) he (by assumption) (by assumption) (by assumption) (by assumption))⟩, by omega⟩
  try simp only [decide_eq_true_eq, decide_eq_false_iff_not, Bool.not_eq_true', Bool.not_eq_false', Bool.not_eq_eq_eq_not, Bool.not_true, Bool.not_false, Int.not_lt, Int.not_le, Classical.not_not, beq_iff_eq, beq_eq_false_iff_ne] at hc1
  refine CW.exit ?_
  refine XQ.then ?_
  refine XQ.then ?_
  refine XQ.here ?_
  refine NQ.then ?_
  refine CW.seq ?_
  refine CW.reg ?_
  refine WL.pure rfl rfl rfl (PV.move rfl) ?_
  refine WL.pure rfl rfl rfl (PV.assign rfl) ?_
  refine WL.nilS ?_
  refine CW.ret ?_
  refine RQ.r1 rfl ?_
  refine ⟨?_, hB⟩
  first | (rw [if_neg (marksR_bad (i := i) (by omega) (fun h9 => by first | exact absurd (congrArg (fun r : R4 => r.1) h9) (by assumption) | exact absurd (congrArg (fun r : R4 => r.2.1) h9) (by assumption) | exact absurd (congrArg (fun r : R4 => r.2.2.1) h9) (by assumption) | exact absurd (congrArg (fun r : R4 => r.2.2.2) h9) (by assumption)))]) | (rw [if_pos (marksR_eq (i := i) (by omega) (by omega) he)]; exact iE (by omega))
theorem c_laws_heldGrammar {w : World} {a0 : Int} {a1 : Int} {va2 : Value} {xa2 : List R4} {k : Int} (ha2 : Rd ER w va2 xa2) (hk : 0 ≤ k ∧ k + 4 * xa2.length ≤ 9223372036854775807) : Calls Try.prog 25 #[.agg #[.int .i64 a0, .int .i64 a1, va2], .int .i64 k] w (Ret1 (RQt (.int .i64 (if xa2 = marksR k xa2.length then k + 4 * xa2.length else -1)) w)) := by
  have hB : Ext w w := Ext.refl w
  have hla2 := ha2.leI
  refine callsOf (vs := [_, _]) Try.func25 rfl Try.ntmps25 rfl rfl ?_
  refine CW.seq ?_
  refine CW.reg ?_
  refine WL.op rfl (OpK.box rfl rfl (by first | rfl | exact Rd.cells1 (by assumption) | exact Osl.cells1 (by assumption) | exact Osn.cells1 (by assumption)) (fun b1 w1 hXw1 hb1 hge1 => ?_))
  have hl1 := Lo.new hB hge1
  have hB := hB.trans hXw1
  refine WL.pure rfl rfl rfl (PV.assign rfl) ?_
  refine WL.nilS ?_
  refine CW.seq ?_
  refine CW.reg ?_
  refine WL.pure rfl rfl rfl ((by first | exact PV.fieldAddr T.fl29_2 rfl (by first | assumption | exact Bx.cells (by assumption)) | exact PV.fieldAddrP T.fl29_2 rfl rfl)) ?_
  refine WL.pure rfl rfl rfl ((by first | exact PV.load0 T.na27 rfl (by first | exact Cells.up (by assumption) hB | exact Bx.cells (by assumption) | assumption) (Ext.refl _) rfl | exact PV.load1 T.na27 rfl (by first | exact Cells.up (by assumption) hB | exact Bx.cells (by assumption) | assumption) (Ext.refl _) rfl)) ?_
  refine WL.pure rfl rfl rfl (PV.move rfl) ?_
  refine WL.op rfl (OpK.callR rfl T.cf60 rfl (c_laws_heldRuleS (by first | assumption | exact Rd.up (by assumption) hB | exact Osl.rd (by assumption) | exact Osn.rdR (by assumption)) (by first | assumption | omega | (simp only [marks_len, marksB_len, marksR_len]; omega))) (fun w2 hXw2 => ?_))
  have hB := hB.trans hXw2
  have hb1 := hb1.up hXw2
  refine WL.pure rfl rfl rfl (PV.assign rfl) ?_
  refine WL.nilS ?_
  refine CW.seq ?_
  refine CW.seq ?_
  refine CW.reg ?_
  refine WL.pure rfl rfl rfl (PV.move rfl) ?_
  refine WL.pure rfl rfl rfl (PV.lss rfl rfl) ?_
  refine WL.nilS ?_
  refine CW.cond rfl (fun hc1 => ?_) (fun hc1 => ?_)
  · skip
    try simp only [decide_eq_true_eq, decide_eq_false_iff_not, Bool.not_eq_true', Bool.not_eq_false', Bool.not_eq_eq_eq_not, Bool.not_true, Bool.not_false, Int.not_lt, Int.not_le, Classical.not_not, beq_iff_eq, beq_eq_false_iff_ne] at hc1
    refine CW.seq ?_
    refine CW.reg ?_
    refine WL.pure rfl rfl rfl (PV.assign rfl) ?_
    refine WL.nilS ?_
    refine CW.ret ?_
    refine RQ.then ?_
    refine RQ.r1 rfl ?_
    refine ⟨?_, hB⟩
    first | rfl | (exact iE (by rw [if_neg (held_no (by assumption) (by omega))]))
  try simp only [decide_eq_true_eq, decide_eq_false_iff_not, Bool.not_eq_true', Bool.not_eq_false', Bool.not_eq_eq_eq_not, Bool.not_true, Bool.not_false, Int.not_lt, Int.not_le, Classical.not_not, beq_iff_eq, beq_eq_false_iff_ne] at hc1
  obtain ⟨_, he1⟩ := held_ok (by assumption); rw [he1]; clear he1
  refine CW.skipS ?_
  refine CW.seq ?_
  refine CW.reg ?_
  refine WL.pure rfl rfl rfl (PV.move rfl) ?_
  refine WL.pure rfl rfl rfl (PV.assign rfl) ?_
  refine WL.nilS ?_
  refine CW.ret ?_
  refine RQ.r1 rfl ?_
  refine ⟨?_, hB⟩
  first | rfl | (exact iE (by rw [if_neg (held_no (by assumption) (by omega))]))

end Go.Proofs.Ytcnjfbhgicoogaa
